import Derived.Test.YgctabNttI
namespace Go.Proofs.Ygctab
open Go.RowKit
set_option linter.unusedVariables false

theorem pow_emod (a : Int) (n : Nat) (P : Int) : (a % P) ^ n % P = a ^ n % P := by
  have := emod_mul_pow a 1 n P
  rwa [Int.one_mul, Int.one_mul] at this

/-- The five answers. -/
def five (a b e : Int) : List Int := [(a + b) % 998244353, (a - b) % 998244353, (a * b) % 998244353, a ^ e.toNat % 998244353, invP a]
theorem five_in (a b e : Int) : In1 (five a b e) := by
  have h := invP_range a
  intro x hx
  simp only [five, List.mem_cons, List.not_mem_nil, or_false] at hx
  rcases hx with rfl | rfl | rfl | rfl | rfl
  · omega
  · omega
  · omega
  · omega
  · exact h

def five' (a b e : Int) : List Int := [(a + b) % 998244353, (a - b) % 998244353, a % 998244353 * (b % 998244353) % 998244353, (a % 998244353) ^ e.toNat % 998244353, invP (a % 998244353)]
theorem five_eq (a b e : Int) : five' a b e = five a b e := by
  have ei : invP (a % 998244353) = invP a := pow_emod a 998244351 998244353
  unfold five five'
  rw [ei, pow_emod, ← Int.mul_emod]

theorem sameElems_yes (a a' : Option Addr) (n n' c c' : Nat) (xs ys : List Int) (w : World) (h : RdI .u32 w a n xs) (hn : n ≤ maxLen) (h' : RdI .u32 w a' n' ys) (e : xs = ys) :
    Calls Tabg.prog 53 #[.slice a n c, .slice a' n' c'] w fun e w' => e = .returned (.bool true) ∧ Up w w' :=
  (sameElems a a' n n' c c' xs ys w h hn h').mono (by
    rintro r w' ⟨rfl, m, rfl⟩
    subst e
    exact ⟨ret_bool (by simp), (Up.refl _).drewN m⟩)

theorem lbelow_yes (b n : Nat) (ys : List Int) (w : World) (h : Own w b 78 (ints .u32 ys)) (hl : ys.length = n) (hm : n ≤ maxLen) (h1 : In1 ys) :
    Calls Tabg.prog 54 #[.slice (some ⟨b, 0, none⟩) n n] w fun e w' => e = .returned (.bool true) ∧ w = w' := by
  subst hl
  have := fl (lbelow (some ⟨b, 0, none⟩) ys.length ys.length ys w h.rd hm)
  rwa [below_of_in1 h1] at this
theorem nBelow_yes (b n : Nat) (ys : List Int) (w : World) (h : Own w b 78 (ints .u32 ys)) (hl : ys.length = n) (hm : n ≤ maxLen) (h1 : In1 ys) :
    Calls Tabg.prog 55 #[.slice (some ⟨b, 0, none⟩) n n] w fun e w' => e = .returned (.bool true) ∧ w = w' := by
  subst hl
  have := fl (nBelow (some ⟨b, 0, none⟩) ys.length ys.length ys w h.rd hm)
  rwa [below_of_in1 h1] at this
theorem scaleL_in (f : Int) (xs : List Int) : In1 (scaleL f xs) := by
  intro x hx
  obtain ⟨y, _, rfl⟩ := List.mem_map.1 hx
  omega
theorem inverseL_length (k : Nat) (xs : List Int) : (inverseL k xs).length = xs.length := by simp [inverseL, scaleL, transL_length]

set_option maxRecDepth 100000 in
set_option maxHeartbeats 3200000 in
theorem elem_any (a b e : Int) (x : Option Addr) (n c : Nat) (zs : List Int) (w : World) (ha : 0 ≤ a) (ha' : a < 4294967296) (hb : 0 ≤ b) (hb' : b < 4294967296) (he : 0 ≤ e) (he' : e < 4294967296)
    (h : RdI .u32 w x n zs) (hn : n ≤ maxLen) (hw : Word32 zs) :
    Calls Tabg.prog 11 #[.int .u32 a, .int .u32 b, .int .u32 e, .slice x n c] w fun r w' => r = .returned (.bool true) ∧ Up w w' := by
  have p0 : 0 ≤ a % 998244353 := by omega
  have p1 : a % 998244353 < 4294967296 := by omega
  have q0 : 0 ≤ b % 998244353 := by omega
  have q1 : b % 998244353 < 4294967296 := by omega
  have HN : Hid (RdI .u32 w x n zs) := h
  clear h
  go_enter Tabg.func11, Tabg.ntmps11
  go_wp2_with (first
    | (go_at_call 48; refine (fl (addMod _ _ _ (by assumption) (by assumption) (by assumption) (by assumption))).mono ?_; rintro e w' ⟨rfl, rfl⟩)
    | (go_at_call 49; refine (fl (subMod _ _ _ (by assumption) (by assumption) (by assumption) (by assumption))).mono ?_; rintro e w' ⟨rfl, rfl⟩)
    | (go_at_call 50; refine (fl (mulMod _ _ _ (by assumption) (by assumption) (by assumption) (by assumption))).mono ?_; rintro e w' ⟨rfl, rfl⟩)
    | (go_at_call 51; refine (fl (powMod _ _ _ (by assumption) (by assumption) (by assumption) (by assumption))).mono ?_; rintro e w' ⟨rfl, rfl⟩)
    | (go_at_call 52; refine (fl (invMod' _ _ (by assumption) (by assumption))).mono ?_; rintro e w' ⟨rfl, rfl⟩)
    | fail)
  have O1 : Own ((w.alloc (Obj.cells (ints .u32 (five a b e)).toArray 78)).alloc (Obj.cells (ints .u32 (five' a b e)).toArray 78)) w.heap.size 78 (ints .u32 (five a b e)) := (Own.new w 78 _).alloc _
  have O2 : Own ((w.alloc (Obj.cells (ints .u32 (five a b e)).toArray 78)).alloc (Obj.cells (ints .u32 (five' a b e)).toArray 78)) (w.heap.size + 1) 78 (ints .u32 (five' a b e)) := by
    have := Own.new (w.alloc (Obj.cells (ints .u32 (five a b e)).toArray 78)) 78 (ints .u32 (five' a b e)).toArray
    simpa using this
  have U1 : Up w ((w.alloc (Obj.cells (ints .u32 (five a b e)).toArray 78)).alloc (Obj.cells (ints .u32 (five' a b e)).toArray 78)) := ((Up.refl w).alloc _).alloc _
  refine (sameElems_yes (some ⟨w.heap.size, 0, none⟩) (some ⟨w.heap.size + 1, 0, none⟩) 5 5 5 5 (five a b e) (five' a b e) _ O1.rd (by decide) O2.rd (five_eq a b e).symm).mono ?_
  rintro r w1 ⟨rfl, hU1⟩
  have O3 := O1.up hU1
  have U3 := U1.trans hU1
  clear O1 O2 U1 hU1
  go_wp2_with fail
  refine (fl (lbelow (some ⟨w.heap.size, 0, none⟩) 5 5 (five a b e) _ O3.rd (by decide))).mono ?_
  rw [below_of_in1 (five_in a b e)]
  rintro r w2 ⟨rfl, rfl⟩
  clear O3
  by_cases h0 : n = 0
  · subst h0
    have cC : ∀ w, Calls Tabg.prog 47 #[.int .i64 (0 : Nat)] w fun e w' => e = .returned (.int .i64 (-1)) ∧ w = w' := fun w => (lcut 0 w (by omega)).mono (by
      rintro r w' ⟨rfl, (⟨_, rfl⟩ | ⟨k, _, hk, _⟩)⟩
      · exact ⟨rfl, rfl⟩
      · have := Nat.pow_pos (n := k) (show 0 < 2 by decide); omega)
    have cN := fun w x => fl (nBelow x 0 0 [] w (RdI.nil .u32 w x) (by decide))
    go_wp2_with (first | (go_at_call 47; refine (cC _).mono ?_; rintro e w' ⟨rfl, rfl⟩) | (go_at_call 55; refine (cN _ _).mono ?_; rintro e w' ⟨rfl, rfl⟩))
    go_ret
    exact ⟨rfl, U3.alloc _⟩
  · unfold maxLen at hn
    have cC : ∀ w, Calls Tabg.prog 47 #[.int .i64 n] w fun e w' => ∃ k : Nat, k ≤ 11 ∧ 2 ^ k ≤ n ∧ e = .returned (.int .i64 k) ∧ w = w' := fun w => (lcut n w (by omega)).mono (by
      rintro r w' ⟨rfl, (⟨h, rfl⟩ | ⟨k, hk, hk', _, rfl⟩)⟩
      · exact absurd h h0
      · exact ⟨k, hk, hk', rfl, rfl⟩)
    go_wp2_with fail
    refine (cC _).mono ?_
    rintro r w2 ⟨k, hk, hkn, rfl, rfl⟩
    clear cC
    obtain ⟨M, hM⟩ : ∃ M : Nat, M = 2 ^ k := ⟨_, rfl⟩
    have hMI : (2 : Int) ^ k = (M : Int) := by rw [hM, pow_cast]
    have hM1 : M ≤ 2048 := by rw [hM]; exact Nat.pow_le_pow_right (by decide) hk
    have hM0 : 1 ≤ M := by have := Nat.pow_pos (n := k) (show 0 < 2 by decide); omega
    have hMn : M ≤ n := by omega
    have HM : Hid (M = 2 ^ k) := hM
    have hk0 : (0 : Int) ≤ (k : Int) := by omega
    have hmk := fun w => run_make_row' (P := Tabg.prog) 82 78 (.int .u32 0) 4 Tabg.underlying82 (by kernel_rfl) rfl .i64 .i64 M (by omega) (by omega) w
    clear hM hkn
    go_wp2_with fail
    have hO := Own.made w1 78 (.int .u32 0) M
    rw [ints_replicate] at hO
    have zl := HN.out.1
    have HZ : Hid (n = zs.length) := zl
    go_loopw [17] (fun t wr => ∃ i : Nat, t = .int .i64 i ∧ i ≤ M ∧ Up w1 wr ∧ Own wr w1.heap.size 78 (ints .u32 (zs.take i ++ List.replicate (M - i) 0))) (fun t _ => M - (intOf t).toNat)
    case atStart => exact ⟨0, rfl, by omega, (Up.refl _).alloc _, hO⟩
    case round =>
      clear hO zl
      obtain ⟨i, rfl, hi, hU, ho⟩ := hrel
      by_cases hlt : i < M
      · have zl := HZ.out
        have hiz : i < zs.length := by omega
        obtain ⟨bx, off, rfl, hc⟩ := HN.out.2 i hiz
        have hc' := (U3.trans hU).cell hc
        have hll : (zs.take i ++ List.replicate (M - i) (0 : Int)).length = M := by simp; omega
        have y0 : wr.cell? ⟨w1.heap.size, i, none⟩ = some (.int .u32 ((zs.take i ++ List.replicate (M - i) 0)[i]?.getD 0)) := ho.int (by omega)
        have f0 := ho.free i
        have hin : (i : Int) < (n : Int) := by omega
        have hset : (zs.take i ++ List.replicate (M - i) 0).set i (zs[i]?.getD 0) = zs.take (i + 1) ++ List.replicate (M - (i + 1)) 0 := by
          have hm : min i zs.length = i := Nat.min_eq_left (Nat.le_of_lt hiz)
          rw [List.set_append_right _ _ (by simp; omega), List.take_succ_eq_append_getElem hiz, List.append_assoc]
          congr 1
          obtain ⟨d, hd⟩ : ∃ d, M - i = d + 1 := ⟨M - i - 1, by omega⟩
          rw [hd, List.replicate_succ, show M - (i + 1) = d by omega]
          simp only [List.length_take, hm, Nat.sub_self, List.set_cons_zero, List.getElem?_eq_getElem hiz, Option.getD_some, List.cons_append, List.nil_append]
        generalize zs[i]?.getD 0 = z at *
        have HS : Hid ((zs.take i ++ List.replicate (M - i) 0).set i z = zs.take (i + 1) ++ List.replicate (M - (i + 1)) 0) := hset
        clear hset hll zl hc
        go_wp2_with fail
        go_roundw
        case rel =>
          refine ⟨i + 1, by go_num, by omega, hU.setCell (Nat.le_refl _) _, ?_⟩
          rw [← HS.out]
          exact ho.setInt i _
        case measure => simp [intOf]; omega
      · obtain rfl : i = M := by omega
        rw [Nat.sub_self, List.replicate_zero, List.append_nil] at ho
        have hvl : (zs.take i).length = i := by have := HZ.out; simp; omega
        have hvw : Word32 (zs.take i) := fun y hy => hw y (List.mem_of_mem_take hy)
        have hU' := U3.trans hU
        clear hU
        generalize zs.take i = vs at *
        subst hvl
        have hVlt := ho.lt
        have hmx : vs.length ≤ maxLen := by unfold maxLen; omega
        clear hmk hMI hMn HN
        generalize w1.heap.size = V at *
        by_cases hfit : belowB vs = true
        · have h1 := in1_of_below hvw hfit
          have cL := fun (b : Nat) (ys : List Int) (w : World) (h : Own w b 78 (ints .u32 ys)) (hl : ys.length = vs.length) (h1 : In1 ys) => lbelow_yes b vs.length ys w h hl hmx h1
          have cN := fun (b : Nat) (ys : List Int) (w : World) (h : Own w b 78 (ints .u32 ys)) (hl : ys.length = vs.length) (h1 : In1 ys) => nBelow_yes b vs.length ys w h hl hmx h1
          go_wp2_with fail
          refine (cL V vs _ ho rfl h1).mono ?_
          rintro r w2 ⟨rfl, rfl⟩
          go_wp2_with fail
          refine (cN V vs _ ho rfl h1).mono ?_
          rintro r w2 ⟨rfl, rfl⟩
          go_wp2_with fail
          refine (copyE_any (some ⟨V, 0, none⟩) vs.length vs.length vs _ ho.rd hM1 (by omega)).mono ?_
          rintro r w3 ⟨rfl, hU3, hF⟩
          go_wp2_with fail
          have ho3 := ho.up hU3
          refine (copyE_any (some ⟨V, 0, none⟩) vs.length vs.length vs _ ho3.rd hM1 (by omega)).mono ?_
          rintro r w4 ⟨rfl, hU4, hI⟩
          have hF4 := hF.up hU4
          have ho4 := ho3.up hU4
          have lF := hF.lt
          have hUU := (hU'.trans hU3).trans hU4
          clear ho ho3 hF
          go_wp2_with fail
          refine (forward_yes wr.heap.size k vs _ hF4 hk HM h1).mono ?_
          rintro r w5 ⟨rfl, hm5, hF5⟩
          have hI5 := hI.mod hm5 (by omega)
          have ho5 := ho4.mod hm5 (by omega)
          have sw := hU'.size
          have hU5 := hUU.ofMod hm5 (by omega)
          clear hF4 hI ho4
          go_wp2_with fail
          refine (inverse_yes w3.heap.size k vs _ hI5 hk HM h1).mono ?_
          rintro r w6 ⟨rfl, hm6, hI6⟩
          have hF6 := hF5.mod hm6 (by omega)
          have ho6 := ho5.mod hm6 (by omega)
          have hU6 := hU5.ofMod hm6 (by have := hU3.size; omega)
          clear hI5 hF5 ho5
          go_wp2_with fail
          refine (dft_yes V k vs _ ho6 hk HM h1).mono ?_
          rintro r w7 ⟨B, ys, rfl, hU7, hyl, h1y, hY⟩
          have hF7 := hF6.up hU7
          have hI7 := hI6.up hU7
          have hUf := hU6.trans hU7
          clear hF6 hI6 ho6
          go_wp2_with fail
          refine (cL _ _ _ hF7 (transL_length _ _ _) (transL_in _ _ _)).mono ?_
          rintro r w8 ⟨rfl, rfl⟩
          go_wp2_with fail
          refine (cL _ _ _ hI7 (inverseL_length _ _) (scaleL_in _ _)).mono ?_
          rintro r w8 ⟨rfl, rfl⟩
          go_wp2_with fail
          refine (cL _ _ _ hY hyl h1y).mono ?_
          rintro r w8 ⟨rfl, rfl⟩
          go_wp2_with fail
          refine (cN _ _ _ hF7 (transL_length _ _ _) (transL_in _ _ _)).mono ?_
          rintro r w8 ⟨rfl, rfl⟩
          go_wp2_with fail
          refine (cN _ _ _ hI7 (inverseL_length _ _) (scaleL_in _ _)).mono ?_
          rintro r w8 ⟨rfl, rfl⟩
          go_wp2_with fail
          refine (cN _ _ _ hY hyl h1y).mono ?_
          rintro r w8 ⟨rfl, rfl⟩
          go_wp2_with fail
          go_ret
          exact ⟨rfl, hUf⟩
        · have hb : belowB vs = false := by simpa using hfit
          have hnl : ∀ w : World, (binOp .eql 82 (.slice none 0 0) (.slice none 0 0)).run Tabg.prog w = .ok (.bool true) w := fun _ => by kernel_rfl
          go_wp2_with fail
          refine (fl (lbelow (some ⟨V, 0, none⟩) vs.length vs.length vs _ ho.rd hmx)).mono ?_
          rw [hb]
          rintro r w2 ⟨rfl, rfl⟩
          go_wp2_with fail
          refine (fl (nBelow (some ⟨V, 0, none⟩) vs.length vs.length vs _ ho.rd hmx)).mono ?_
          rw [hb]
          rintro r w2 ⟨rfl, rfl⟩
          go_wp2_with fail
          refine (copyE_any (some ⟨V, 0, none⟩) vs.length vs.length vs _ ho.rd hM1 (by omega)).mono ?_
          rintro r w3 ⟨rfl, hU3, hF⟩
          go_wp2_with fail
          have ho3 := ho.up hU3
          refine (copyE_any (some ⟨V, 0, none⟩) vs.length vs.length vs _ ho3.rd hM1 (by omega)).mono ?_
          rintro r w4 ⟨rfl, hU4, hI⟩
          have hF4 := hF.up hU4
          have ho4 := ho3.up hU4
          have hUU := (hU'.trans hU3).trans hU4
          clear ho ho3 hF
          go_wp2_with fail
          refine (fl (forward_no wr.heap.size k vs _ hF4 hk HM hb)).mono ?_
          rintro r w5 ⟨rfl, rfl⟩
          go_wp2_with fail
          refine (fl (inverse_no w3.heap.size k vs _ hI hk HM hb)).mono ?_
          rintro r w5 ⟨rfl, rfl⟩
          go_wp2_with fail
          refine (fl (dft_no V k vs _ ho4 hk HM hb)).mono ?_
          rintro r w5 ⟨rfl, rfl⟩
          go_wp2_with fail
          refine (sameElems_yes (some ⟨wr.heap.size, 0, none⟩) (some ⟨V, 0, none⟩) vs.length vs.length vs.length vs.length vs vs _ hF4.rd hmx ho4.rd rfl).mono ?_
          rintro r w5 ⟨rfl, hU5⟩
          go_wp2_with fail
          refine (sameElems_yes (some ⟨w3.heap.size, 0, none⟩) (some ⟨V, 0, none⟩) vs.length vs.length vs.length vs.length vs vs _ (hI.up hU5).rd hmx (ho4.up hU5).rd rfl).mono ?_
          rintro r w6 ⟨rfl, hU6⟩
          go_wp2_with fail
          go_ret
          exact ⟨rfl, (hUU.trans hU5).trans hU6⟩
end Go.Proofs.Ygctab
