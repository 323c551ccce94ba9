import Derived.Test.YgctabCx
import Derived.Test.YgctabAccC
namespace Go.Proofs.Ygctab
open Go.RowKit
set_option linter.unusedVariables false
set_option linter.unusedSimpArgs false

/-- A complex number up to NaNs. -/
abbrev Cx := Option Nat × Option Nat
def clsC (z : Nat × Nat) : Cx := (cls z.1, cls z.2)
def addX (x y : Cx) : Cx := (opc .add x.1 y.1, opc .add x.2 y.2)
def subX (x y : Cx) : Cx := (opc .sub x.1 y.1, opc .sub x.2 y.2)
def mulX (x y : Cx) : Cx := (opc .sub (opc .mul x.1 y.1) (opc .mul x.2 y.2), opc .add (opc .mul x.1 y.2) (opc .mul x.2 y.1))

theorem Up.drewK {a w : World} (h : Up a w) (k : Nat) : Up a (w.drewN k) := h.drewN k

set_option maxRecDepth 100000 in
theorem mul_any (a b c d : Nat) (w : World) : Calls Tabg.prog 147 #[.complex .f64 a b, .complex .f64 c d] w fun e w' => ∃ p q, e = .returned (.complex .f64 p q) ∧ clsC (p, q) = mulX (clsC (a, b)) (clsC (c, d)) ∧ Up w w' := by
  have hm : arith .mul := .inr (.inr (.inl rfl))
  have hs : arith .sub := .inr (.inl rfl)
  have ha : arith .add := .inl rfl
  have r1 := fun x y w => run_fop (P := Tabg.prog) hm 28 x y w
  have r2 := fun x y w => run_fop (P := Tabg.prog) hs 28 x y w
  have r3 := fun x y w => run_fop (P := Tabg.prog) ha 28 x y w
  go_enter Tabg.func147, Tabg.ntmps147
  go_wp2
  go_ret
  refine ⟨_, _, rfl, ?_, ?_⟩
  · simp only [clsC, mulX, cls_fop]
  · first | exact (Up.refl w).drewN _ | exact ((((((Up.refl w).drewN _).drewN _).drewN _).drewN _).drewN _).drewN _

set_option maxRecDepth 100000 in
theorem mulC_any (a b c d : Nat) (w : World) : Calls Tabg.prog 150 #[.complex .f64 a b, .complex .f64 c d] w fun e w' => ∃ p q, e = .returned (.complex .f64 p q) ∧ clsC (p, q) = mulX (clsC (a, b)) (clsC (c, d)) ∧ Up w w' := by
  have hm : arith .mul := .inr (.inr (.inl rfl))
  have hs : arith .sub := .inr (.inl rfl)
  have ha : arith .add := .inl rfl
  have r1 := fun x y w => run_fop (P := Tabg.prog) hm 28 x y w
  have r2 := fun x y w => run_fop (P := Tabg.prog) hs 28 x y w
  have r3 := fun x y w => run_fop (P := Tabg.prog) ha 28 x y w
  go_enter Tabg.func150, Tabg.ntmps150
  go_wp2
  go_ret
  refine ⟨_, _, rfl, ?_, ?_⟩
  · simp only [clsC, mulX, cls_fop]
  · first | exact (Up.refl w).drewN _ | exact ((((((Up.refl w).drewN _).drewN _).drewN _).drewN _).drewN _).drewN _

theorem run_cop {P : Program} {op : BinOp} (ho : op = .add ∨ op = .sub) (t : TypeId) (a b c d : Nat) (w : World) :
    (binOp op t (.complex .f64 a b) (.complex .f64 c d)).run P w = .ok (.complex .f64 (fopR op a c w) (fopR op b d (w.drewN (fopK op a c)))) ((w.drewN (fopK op a c)).drewN (fopK op b d)) := by
  have har : arith op := by rcases ho with rfl | rfl; exact .inl rfl; exact .inr (.inl rfl)
  have h1 : ∀ x y (w : World), (Op.Complex.arith op .f64 x y).run P w = .ok (fopR op x y w) (w.drewN (fopK op x y)) := by
    intro x y w
    have := run_fop (P := P) har 28 x y w
    have e : (binOp op 28 (.float .f64 x) (.float .f64 y)).run P w = (Op.floatArith op .f64 x y).run P w := by
      rcases ho with rfl | rfl <;> simp [binOp]
    rw [e] at this
    simp [Op.Complex.arith, this]
  rcases ho with rfl | rfl <;> simp [binOp, Op.complexOp, h1]

set_option maxRecDepth 100000 in
theorem same_cls (x y : Nat) (h : cls x = cls y) (w : World) : Calls Tabg.prog 93 #[.float .f64 x, .float .f64 y] w fun e w' => e = .returned (.bool true) ∧ w = w' := by
  have cX := b64_any x
  have cY := b64_any y
  have CX : Hid (∀ w, Calls Tabg.prog 44 #[.float .f64 x] w fun e w' => e = .returned (.int .u64 x) ∧ w = w') := cX
  have CY : Hid (∀ w, Calls Tabg.prog 44 #[.float .f64 y] w fun e w' => e = .returned (.int .u64 y) ∧ w = w') := cY
  clear cX cY
  by_cases hxy : x = y
  · subst hxy
    clear h
    go_enter Tabg.func93, Tabg.ntmps93
    go_wp2_with (go_at_call 44; refine (CX.out _).mono ?_; rintro e w' ⟨rfl, rfl⟩)
    go_ret
    exact ⟨rfl, rfl⟩
  · have hn : nanB x = true ∧ nanB y = true := by
      unfold cls at h
      cases hx : nanB x <;> cases hy : nanB y <;> simp [hx, hy] at h ⊢
      exact hxy h
    have o1 := neq_self x
    have o2 := neq_self y
    rw [hn.1] at o1
    rw [hn.2] at o2
    have hne : ((x : Int) == (y : Int)) = false := by rw [beq_eq_false_iff_ne]; omega
    clear h hn
    go_enter Tabg.func93, Tabg.ntmps93
    go_wp2_with (fail)
    refine (CX.out _).mono ?_
    rintro e w' ⟨rfl, rfl⟩
    go_wp2_with (fail)
    refine (CY.out _).mono ?_
    rintro e w' ⟨rfl, rfl⟩
    clear CX CY
    go_wp2
    go_ret
    exact ⟨rfl, rfl⟩

set_option maxRecDepth 100000 in
theorem sameC_cls (a b c d : Nat) (h : clsC (a, b) = clsC (c, d)) (w : World) : Calls Tabg.prog 22 #[.complex .f64 a b, .complex .f64 c d] w fun e w' => e = .returned (.bool true) ∧ w = w' := by
  have h1 : cls a = cls c := congrArg Prod.fst h
  have h2 : cls b = cls d := congrArg Prod.snd h
  have C1 : Hid (∀ w, Calls Tabg.prog 93 #[.float .f64 a, .float .f64 c] w fun e w' => e = .returned (.bool true) ∧ w = w') := same_cls a c h1
  have C2 : Hid (∀ w, Calls Tabg.prog 93 #[.float .f64 b, .float .f64 d] w fun e w' => e = .returned (.bool true) ∧ w = w') := same_cls b d h2
  clear h h1 h2
  go_enter Tabg.func22, Tabg.ntmps22
  go_wp2_with (fail)
  refine (C1.out _).mono ?_
  rintro e w' ⟨rfl, rfl⟩
  go_wp2_with (fail)
  refine (C2.out _).mono ?_
  rintro e w' ⟨rfl, rfl⟩
  go_wp2
  go_ret
  exact ⟨rfl, rfl⟩

/-! ### rows of complex numbers -/
def cxs (zs : List (Nat × Nat)) : List Value := zs.map fun z => .complex .f64 z.1 z.2
theorem cxs_length (zs : List (Nat × Nat)) : (cxs zs).length = zs.length := by simp [cxs]
def zat (zs : List (Nat × Nat)) (i : Nat) : Nat × Nat := zs[i]?.getD (0, 0)
theorem cxs_at {zs : List (Nat × Nat)} {i : Nat} (h : i < zs.length) : (cxs zs)[i]? = some (.complex .f64 (zat zs i).1 (zat zs i).2) := by
  simp [cxs, zat, List.getElem?_eq_getElem h]
theorem cxs_set (zs : List (Nat × Nat)) (i p q : Nat) : (cxs zs).set i (.complex .f64 p q) = cxs (zs.set i (p, q)) := by simp [cxs, List.map_set]
theorem cxs_replicate (n : Nat) : List.replicate n (Value.complex .f64 0 0) = cxs (List.replicate n (0, 0)) := by simp [cxs]
theorem Own.cx {w : World} {b : Nat} {T : TypeId} {zs : List (Nat × Nat)} (h : Own w b T (cxs zs)) {i : Nat} (hi : i < zs.length) : w.cell? ⟨b, i, none⟩ = some (.complex .f64 (zat zs i).1 (zat zs i).2) := by rw [h.cell, cxs_at hi]
theorem Own.setCx {w : World} {b : Nat} {T : TypeId} {zs : List (Nat × Nat)} (h : Own w b T (cxs zs)) (i p q : Nat) : Own (w.setCell ⟨b, i, none⟩ (.complex .f64 p q)) b T (cxs (zs.set i (p, q))) := by
  have := h.set i (.complex .f64 p q); rwa [cxs_set] at this
/-- The slice (a, n) reads as the complex numbers zs. -/
def RdC (w : World) (a : Option Addr) (n : Nat) (zs : List (Nat × Nat)) : Prop :=
  n = zs.length ∧ ∀ i, i < zs.length → ∃ b off, a = some ⟨b, off, none⟩ ∧ w.cell? ⟨b, off + i, none⟩ = some (.complex .f64 (zat zs i).1 (zat zs i).2)
theorem RdC.up {w w' : World} {a : Option Addr} {n : Nat} {zs : List (Nat × Nat)} (h : RdC w a n zs) (u : Up w w') : RdC w' a n zs :=
  ⟨h.1, fun i hi => let ⟨b, off, e, hc⟩ := h.2 i hi; ⟨b, off, e, u.cell hc⟩⟩
theorem Own.rdC {w : World} {b : Nat} {T : TypeId} {zs : List (Nat × Nat)} (h : Own w b T (cxs zs)) : RdC w (some ⟨b, 0, none⟩) zs.length zs :=
  ⟨rfl, fun i hi => ⟨b, 0, rfl, by rw [Nat.zero_add]; exact h.cx hi⟩⟩
/-- The rows up to NaNs. -/
def clsL (zs : List (Nat × Nat)) : List Cx := zs.map clsC
theorem clsL_at {xs ys : List (Nat × Nat)} (h : clsL xs = clsL ys) (i : Nat) : clsC (zat xs i) = clsC (zat ys i) := by
  have := congrArg (fun l : List Cx => l[i]?) h
  simp only [clsL, List.getElem?_map] at this
  unfold zat
  cases hx : xs[i]? <;> cases hy : ys[i]? <;> simp [hx, hy] at this ⊢
  exact this
end Go.Proofs.Ygctab
