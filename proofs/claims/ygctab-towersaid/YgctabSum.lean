/-
  PLAIN: finite sums of whole numbers; numbers equal up to a multiple of 998244353.
-/
namespace Go.Proofs.Ygctab
set_option linter.unusedVariables false

def sm : Nat → (Nat → Int) → Int
  | 0, _ => 0
  | n + 1, f => sm n f + f n
theorem sm_congr {n : Nat} {f g : Nat → Int} (h : ∀ i, i < n → f i = g i) : sm n f = sm n g := by
  induction n with
  | zero => rfl
  | succ n ih => rw [sm, sm, ih (fun i hi => h i (by omega)), h n (by omega)]
theorem sm_add (n : Nat) (f g : Nat → Int) : sm n (fun i => f i + g i) = sm n f + sm n g := by
  induction n with
  | zero => rfl
  | succ n ih => simp only [sm, ih]; omega
theorem sm_neg (n : Nat) (f : Nat → Int) : sm n (fun i => - f i) = - sm n f := by
  induction n with
  | zero => rfl
  | succ n ih => simp only [sm, ih]; omega
theorem sm_mul (n : Nat) (c : Int) (f : Nat → Int) : sm n (fun i => c * f i) = c * sm n f := by
  induction n with
  | zero => simp [sm]
  | succ n ih => simp only [sm, ih, Int.mul_add]
theorem sm_mulr (n : Nat) (c : Int) (f : Nat → Int) : sm n (fun i => f i * c) = sm n f * c := by
  rw [Int.mul_comm, ← sm_mul]; exact sm_congr fun i _ => Int.mul_comm _ _
theorem sm_zero (n : Nat) : sm n (fun _ => 0) = 0 := by
  induction n with
  | zero => rfl
  | succ n ih => rw [sm, ih]; rfl
theorem sm_const (n : Nat) (c : Int) : sm n (fun _ => c) = n * c := by
  induction n with
  | zero => simp [sm]
  | succ n ih => rw [sm, ih]; grind
theorem sm_double (n : Nat) (f : Nat → Int) : sm (2 * n) f = sm n (fun i => f (2 * i)) + sm n (fun i => f (2 * i + 1)) := by
  induction n with
  | zero => rfl
  | succ n ih => rw [show 2 * (n + 1) = 2 * n + 1 + 1 by omega, sm, sm, ih, sm, sm]; omega
theorem sm_comm (n m : Nat) (f : Nat → Nat → Int) : sm n (fun i => sm m (fun j => f i j)) = sm m (fun j => sm n (fun i => f i j)) := by
  induction n with
  | zero => simp only [sm]; exact (sm_zero m).symm
  | succ n ih => simp only [sm]; rw [ih, sm_add]
theorem sm_append (n m : Nat) (f : Nat → Int) : sm (n + m) f = sm n f + sm m (fun i => f (n + i)) := by
  induction m with
  | zero => simp [sm]
  | succ m ih => rw [← Nat.add_assoc, sm, ih, sm]; omega
theorem sm_pick {n l : Nat} (h : l < n) (g : Nat → Int) : sm n (fun i => if i = l then g i else 0) = g l := by
  induction n with
  | zero => omega
  | succ n ih =>
    rw [sm]
    by_cases e : n = l
    · subst e
      rw [if_pos rfl]
      have : sm n (fun i => if i = n then g i else 0) = 0 := by
        rw [sm_congr (g := fun _ => 0) (fun i hi => if_neg (by omega)), sm_zero]
      omega
    · rw [ih (by omega), if_neg e]; omega
theorem sm_nonneg {n : Nat} {f : Nat → Int} (h : ∀ i, i < n → 0 ≤ f i) : 0 ≤ sm n f := by
  induction n with
  | zero => exact Int.le_refl _
  | succ n ih => have h1 := ih (fun i hi => h i (by omega)); have h2 := h n (by omega); rw [sm]; omega
theorem sm_le {n : Nat} {f g : Nat → Int} (h : ∀ i, i < n → f i ≤ g i) : sm n f ≤ sm n g := by
  induction n with
  | zero => exact Int.le_refl _
  | succ n ih => have h1 := ih (fun i hi => h i (by omega)); have h2 := h n (by omega); rw [sm, sm]; omega
/-- A sum whose terms go over into their opposites h places on. -/
theorem sm_cancel (h c : Nat) (f : Nat → Int) (hf : ∀ p, f (p + h) = - f p) : sm (c * (2 * h)) f = 0 := by
  induction c with
  | zero => simp [sm]
  | succ c ih =>
    rw [Nat.succ_mul, sm_append, ih, Nat.two_mul, sm_append]
    have : sm h (fun i => f (c * (2 * h) + (h + i))) = - sm h (fun i => f (c * (2 * h) + i)) := by
      rw [← sm_neg]
      exact sm_congr fun i _ => by rw [← hf]; congr 1; omega
    rw [Nat.two_mul] at this
    rw [this]
    omega

/-! ### up to a multiple of P -/
def cg (a b : Int) : Prop := ∃ k : Int, a = b + 998244353 * k
theorem cg.refl (a : Int) : cg a a := ⟨0, by omega⟩
theorem cg.of_eq {a b : Int} (h : a = b) : cg a b := ⟨0, by omega⟩
theorem cg.symm {a b : Int} (h : cg a b) : cg b a := by obtain ⟨k, h⟩ := h; exact ⟨-k, by omega⟩
theorem cg.trans {a b c : Int} (h : cg a b) (k : cg b c) : cg a c := by obtain ⟨x, h⟩ := h; obtain ⟨y, k⟩ := k; exact ⟨x + y, by omega⟩
theorem cg.add {a b c d : Int} (h : cg a b) (k : cg c d) : cg (a + c) (b + d) := by obtain ⟨x, h⟩ := h; obtain ⟨y, k⟩ := k; exact ⟨x + y, by omega⟩
theorem cg.sub {a b c d : Int} (h : cg a b) (k : cg c d) : cg (a - c) (b - d) := by obtain ⟨x, h⟩ := h; obtain ⟨y, k⟩ := k; exact ⟨x - y, by omega⟩
theorem cg.neg {a b : Int} (h : cg a b) : cg (-a) (-b) := by obtain ⟨x, h⟩ := h; exact ⟨-x, by omega⟩
theorem cg.mul {a b c d : Int} (h : cg a b) (k : cg c d) : cg (a * c) (b * d) := by
  obtain ⟨x, h⟩ := h; obtain ⟨y, k⟩ := k
  exact ⟨b * y + x * d + 998244353 * (x * y), by subst h k; grind⟩
theorem cg.pow {a b : Int} (h : cg a b) (n : Nat) : cg (a ^ n) (b ^ n) := by
  induction n with
  | zero => exact cg.of_eq (by simp)
  | succ n ih => rw [Int.pow_succ, Int.pow_succ]; exact ih.mul h
theorem cg.mod (a : Int) : cg (a % 998244353) a := ⟨-(a / 998244353), by omega⟩
theorem cg.eq {a b : Int} (h : cg a b) (ha : 0 ≤ a) (ha' : a < 998244353) (hb : 0 ≤ b) (hb' : b < 998244353) : a = b := by obtain ⟨k, h⟩ := h; omega
theorem cg.sm {n : Nat} {f g : Nat → Int} (h : ∀ i, i < n → cg (f i) (g i)) : cg (sm n f) (sm n g) := by
  induction n with
  | zero => exact cg.refl _
  | succ n ih => exact (ih fun i hi => h i (by omega)).add (h n (by omega))
theorem sm_cancel_cg (h c : Nat) (f : Nat → Int) (hf : ∀ p, cg (f (p + h)) (- f p)) : cg (sm (c * (2 * h)) f) 0 := by
  induction c with
  | zero => exact cg.of_eq (by simp [Ygctab.sm])
  | succ c ih =>
    rw [Nat.succ_mul, sm_append]
    have e : sm (2 * h) (fun i => f (c * (2 * h) + i)) = sm h (fun i => f (c * (2 * h) + i)) + sm h (fun i => f (c * (2 * h) + (h + i))) := by
      rw [Nat.two_mul h, sm_append]
    rw [e]
    have h2 : cg (sm h (fun i => f (c * (2 * h) + (h + i)))) (- sm h (fun i => f (c * (2 * h) + i))) := by
      rw [← sm_neg]
      refine cg.sm fun i _ => ?_
      have := hf (c * (2 * h) + i)
      rwa [show c * (2 * h) + i + h = c * (2 * h) + (h + i) by omega] at this
    have := ih.add ((cg.refl (sm h (fun i => f (c * (2 * h) + i)))).add h2)
    refine this.trans (cg.of_eq (by omega))
end Go.Proofs.Ygctab
