import Derived.Test.YgctabPatGrow
import Derived.Lib.SliceRun
namespace Go.Proofs.Ygctab
open Go.RowKit
set_option linter.unusedVariables false
set_option linter.unusedSimpArgs false
set_option exponentiation.threshold 6000

set_option maxRecDepth 100000 in
set_option maxHeartbeats 1600000 in
theorem growRoom_no (a : Option Addr) (n c N x sp : Nat) (ps : List Nat) (w : World) (h : RdU w a n c ps) (hN : N < 65536) (hF : F64s ps) (hx : x < 18446744073709551616) (hg : growableB N ps x = false) :
    Calls Tabg.prog 9 #[.agg #[.slice a n c, .int .u16 N], .int .u64 x, .int .u8 sp] w fun e w' => e = .returned (.bool true) ∧ Up w w' := by
  have cG := fun w' (u : Up w w') => growable_any a n c N x ps w' (h.up u) hN hF hx
  rw [hg] at cG
  go_enter Tabg.func9, Tabg.ntmps9
  go_wp2_with (go_at_call 37; refine (cG _ ((Up.refl w).alloc _)).mono ?_; rintro e w1 ⟨rfl, hu⟩)
  go_ret
  exact ⟨rfl, ((Up.refl w).alloc _).trans hu⟩

/-- Grow of this slice will give this. -/
def GrowsTo (w w' : World) (v : Value) (x : Nat) (gs : List Nat) : Prop := ∀ w'', Up w' w'' → Calls Tabg.prog 40 #[v, .float .f64 x] w'' fun e w3 => ∃ a' n' c', e = .returned (.slice a' n' c') ∧ RdF w3 a' n' gs ∧ Up w w3
theorem patGrow' (a : Option Addr) (n c sp x : Nat) (ps : List Nat) (w : World) (h : RdU w a n c ps) (hn : ps.length ≤ 4000) (hsp : sp ≤ 8) (hk : GrowOk ps x) :
    Calls Tabg.prog 38 #[.slice a n c, .int .i64 sp] w fun e w' => ∃ v, e = .returned v ∧ Up w w' ∧ GrowsTo w w' v x (growR ps x) := by
  refine (patGrow a n c sp x ps w h hn hsp).mono ?_
  rintro e w' ⟨v, rfl, hu, hg⟩
  exact ⟨v, rfl, hu, hg hk⟩

set_option maxRecDepth 100000 in
set_option maxHeartbeats 1600000 in
theorem growRoom_zero (a : Option Addr) (n c N x sp q : Nat) (ps : List Nat) (w : World) (h : RdU w a n c ps) (hN : N < 65536) (hF : F64s ps) (hx : x < 18446744073709551616) (hsp : sp < 256) (hsI : (sp : Int) % 2 = q) (hq8 : q ≤ 8) (hg : growableB N ps x = true) (hz : isz x = true) :
    Calls Tabg.prog 9 #[.agg #[.slice a n c, .int .u16 N], .int .u64 x, .int .u8 sp] w fun e w' => e = .returned (.bool true) ∧ Up w w' := by
  have cG := fun w' (u : Up w w') => growable_any a n c N x ps w' (h.up u) hN hF hx
  rw [hg] at cG
  obtain ⟨s1, s2, s3, s4, s5, s6, s7, s8⟩ := growable_spec hF hx hg
  have cF := f64_any x
  have hBx := Own.new w 60 #[Value.slice a n c, Value.int IntKind.u16 N]
  have hlen := growR_length ps x
  have hlen' : (growR ps x).length ≤ 2099 := by omega
  have hps : ps.length ≤ 4000 := by omega
  clear s1 s2 s3 s4 s6 s7 hlen hg hF
  have kP := fun (q : Nat) (hq : q ≤ 8) w' (u : Up w w') => patGrow' a n c q x ps w' (h.up u) hps hq s8
  have KP : Hid (∀ (q : Nat), q ≤ 8 → ∀ w', Up w w' → Calls Tabg.prog 38 #[.slice a n c, .int .i64 q] w' fun e w'' => ∃ v, e = .returned v ∧ Up w' w'' ∧ GrowsTo w' w'' v x (growR ps x)) := kP
  clear kP h s8 s5
  generalize growR ps x = gs at *
  have CG : Hid _ := cG
  have HB : Hid (Own (w.alloc (.cells #[Value.slice a n c, Value.int IntKind.u16 N] 60)) w.heap.size 60 [Value.slice a n c, Value.int IntKind.u16 N]) := hBx
  have HL : Hid (gs.length ≤ 2099) := hlen'
  have HQ : Hid (q ≤ 8) := hq8
  clear cG hBx hps hlen' hq8 hN hx
  go_enter Tabg.func9, Tabg.ntmps9
  go_wp2_with (first | (go_at_call 37; refine (CG.out _ ((Up.refl w).alloc _)).mono ?_; rintro e w1 ⟨rfl, hu⟩; have cb0 := Own.cell (Own.up HB.out hu) 0) | (go_at_call 14; refine (cF _).mono ?_; rintro e w' ⟨rfl, rfl⟩) | (go_at_call 38; refine (KP.out 8 (by omega) w1 (((Up.refl w).alloc _).trans hu)).mono ?_; rintro e w2 ⟨v2, rfl, u2, g2⟩; clear cb0) | (go_at_call 40; refine (g2 _ (Up.refl _)).mono ?_; rintro e w3 ⟨a3, n3, c3, rfl, hr3, u3⟩; clear g2))
  refine (unread_any _ _ _ gs _ hr3 (by have := HL.out; have := hr3.1; omega)).mono ?_
  rintro e w4 ⟨rfl, u4, ho4⟩
  have cb0 := Own.cell (Own.up HB.out ((hu.trans u3).trans u4)) 0
  have HU4 : Hid (Up w w4) := ((((Up.refl w).alloc _).trans hu).trans u3).trans u4
  have HO4 : Hid (Own w4 w3.heap.size 26 (wds gs)) := ho4
  generalize w3.heap.size = b4 at *
  clear ho4 hr3 hu u3 u4 HB CG u2 w2
  go_wp2_with (fail)
  refine (KP.out q HQ.out w4 HU4.out).mono ?_
  rintro e w5 ⟨v5, rfl, u5, g5⟩
  clear cb0 KP
  go_wp2_with (fail)
  refine (g5 _ (Up.refl _)).mono ?_
  rintro e w6 ⟨a6, n6, c6, rfl, hr6, u6⟩
  have HU6 : Hid (Up w w6) := HU4.out.trans u6
  obtain rfl := hr6.1
  have c43 := sameBits_yes a6 (some ⟨b4, 0, none⟩) _ c6 gs.length gs w6 hr6 (by have := HL.out; omega) (fun i hi => ⟨b4, 0, rfl, by rw [Nat.zero_add]; exact Own.wd (Own.up HO4.out u6) hi⟩)
  have C43 : Hid _ := c43
  clear hr6 u6 u5 g5 HU4 HO4 c43
  go_wp2_with (fail)
  refine Calls.mono C43.out ?_
  rintro e w7 ⟨rfl, u7⟩
  have HU7 : Hid (Up w w7) := HU6.out.trans u7
  clear u7 HU6 C43
  have hz' : (FloatKind.f64.format.order x 0 == some .eq) = true := hz
  have hnl := fun w => Lib.run_eql_slice_nil (P := Tabg.prog) w 62 28 none 0 0 0 0 Tabg.underlying62
  go_wp2_with (go_at_call 40; refine (grow_nil_zero x w7 hz).mono ?_; rintro e w8 ⟨rfl, rfl⟩)
  go_ret
  exact ⟨rfl, HU7.out⟩

set_option maxRecDepth 100000 in
set_option maxHeartbeats 1600000 in
theorem growRoom_some (a : Option Addr) (n c N x sp q : Nat) (ps : List Nat) (w : World) (h : RdU w a n c ps) (hN : N < 65536) (hF : F64s ps) (hx : x < 18446744073709551616) (hsp : sp < 256) (hsI : (sp : Int) % 2 = q) (hq8 : q ≤ 8) (hg : growableB N ps x = true) (hz : isz x = false) :
    Calls Tabg.prog 9 #[.agg #[.slice a n c, .int .u16 N], .int .u64 x, .int .u8 sp] w fun e w' => e = .returned (.bool true) ∧ Up w w' := by
  have cG := fun w' (u : Up w w') => growable_any a n c N x ps w' (h.up u) hN hF hx
  rw [hg] at cG
  obtain ⟨s1, s2, s3, s4, s5, s6, s7, s8⟩ := growable_spec hF hx hg
  have cF := f64_any x
  have hBx := Own.new w 60 #[Value.slice a n c, Value.int IntKind.u16 N]
  have hlen := growR_length ps x
  have hlen' : (growR ps x).length ≤ 2099 := by omega
  have hps : ps.length ≤ 4000 := by omega
  clear s1 s2 s3 s4 s6 s7 hlen hg hF
  have kP := fun (q : Nat) (hq : q ≤ 8) w' (u : Up w w') => patGrow' a n c q x ps w' (h.up u) hps hq s8
  have KP : Hid (∀ (q : Nat), q ≤ 8 → ∀ w', Up w w' → Calls Tabg.prog 38 #[.slice a n c, .int .i64 q] w' fun e w'' => ∃ v, e = .returned v ∧ Up w' w'' ∧ GrowsTo w' w'' v x (growR ps x)) := kP
  clear kP h s8 s5
  generalize growR ps x = gs at *
  have CG : Hid _ := cG
  have HB : Hid (Own (w.alloc (.cells #[Value.slice a n c, Value.int IntKind.u16 N] 60)) w.heap.size 60 [Value.slice a n c, Value.int IntKind.u16 N]) := hBx
  have HL : Hid (gs.length ≤ 2099) := hlen'
  have HQ : Hid (q ≤ 8) := hq8
  clear cG hBx hps hlen' hq8 hN hx
  go_enter Tabg.func9, Tabg.ntmps9
  go_wp2_with (first | (go_at_call 37; refine (CG.out _ ((Up.refl w).alloc _)).mono ?_; rintro e w1 ⟨rfl, hu⟩; have cb0 := Own.cell (Own.up HB.out hu) 0) | (go_at_call 14; refine (cF _).mono ?_; rintro e w' ⟨rfl, rfl⟩) | (go_at_call 38; refine (KP.out 8 (by omega) w1 (((Up.refl w).alloc _).trans hu)).mono ?_; rintro e w2 ⟨v2, rfl, u2, g2⟩; clear cb0) | (go_at_call 40; refine (g2 _ (Up.refl _)).mono ?_; rintro e w3 ⟨a3, n3, c3, rfl, hr3, u3⟩; clear g2))
  refine (unread_any _ _ _ gs _ hr3 (by have := HL.out; have := hr3.1; omega)).mono ?_
  rintro e w4 ⟨rfl, u4, ho4⟩
  have cb0 := Own.cell (Own.up HB.out ((hu.trans u3).trans u4)) 0
  have HU4 : Hid (Up w w4) := ((((Up.refl w).alloc _).trans hu).trans u3).trans u4
  have HO4 : Hid (Own w4 w3.heap.size 26 (wds gs)) := ho4
  generalize w3.heap.size = b4 at *
  clear ho4 hr3 hu u3 u4 HB CG u2 w2
  go_wp2_with (fail)
  refine (KP.out q HQ.out w4 HU4.out).mono ?_
  rintro e w5 ⟨v5, rfl, u5, g5⟩
  clear cb0 KP
  go_wp2_with (fail)
  refine (g5 _ (Up.refl _)).mono ?_
  rintro e w6 ⟨a6, n6, c6, rfl, hr6, u6⟩
  have HU6 : Hid (Up w w6) := HU4.out.trans u6
  obtain rfl := hr6.1
  have c43 := sameBits_yes a6 (some ⟨b4, 0, none⟩) _ c6 gs.length gs w6 hr6 (by have := HL.out; omega) (fun i hi => ⟨b4, 0, rfl, by rw [Nat.zero_add]; exact Own.wd (Own.up HO4.out u6) hi⟩)
  have C43 : Hid _ := c43
  clear hr6 u6 u5 g5 HU4 HO4 c43
  go_wp2_with (fail)
  refine Calls.mono C43.out ?_
  rintro e w7 ⟨rfl, u7⟩
  have HU7 : Hid (Up w w7) := HU6.out.trans u7
  clear u7 HU6 C43
  have hz' : (FloatKind.f64.format.order x 0 == some .eq) = false := hz
  have cB := b64_any x
  go_wp2_with (go_at_call 40; refine (grow_nil x w7 hz).mono ?_; rintro e w8 ⟨a8, c8, rfl, hr8, u8⟩; obtain ⟨b8, off8, rfl, cx⟩ := hr8.2 0 (by simp); replace cx : w8.cell? ⟨b8, off8 + 0, none⟩ = some (.float .f64 x) := cx; rw [Nat.add_zero] at cx; have HU8 : Hid (Up w w8) := HU7.out.trans u8; clear hr8 u8 HU7)
  refine (cB _).mono ?_
  rintro e w' ⟨rfl, rfl⟩
  go_wp2
  go_ret
  exact ⟨rfl, HU8.out⟩

theorem growRoom_any (a : Option Addr) (n c N x sp : Nat) (ps : List Nat) (w : World) (h : RdU w a n c ps) (hN : N < 65536) (hF : F64s ps) (hx : x < 18446744073709551616) (hsp : sp < 256) :
    Calls Tabg.prog 9 #[.agg #[.slice a n c, .int .u16 N], .int .u64 x, .int .u8 sp] w fun e w' => e = .returned (.bool true) ∧ Up w w' := by
  cases hg : growableB N ps x
  · exact growRoom_no a n c N x sp ps w h hN hF hx hg
  · cases hz : isz x
    · exact growRoom_some a n c N x sp (sp % 2) ps w h hN hF hx hsp (by omega) (by omega) hg hz
    · exact growRoom_zero a n c N x sp (sp % 2) ps w h hN hF hx hsp (by omega) (by omega) hg hz
end Go.Proofs.Ygctab
