import Derived.Test.YgctabNttE
namespace Go.Proofs.Ygctab
open Go.RowKit
set_option linter.unusedVariables false

theorem half_pow {n k : Nat} (h : n = 2 ^ k) : n / 2 = 0 ∨ n / 2 = 2 ^ (k - 1) := by
  subst h
  cases k with
  | zero => exact .inl rfl
  | succ k => right; rw [Nat.pow_succ, Nat.add_sub_cancel]; omega
theorem next_block {s i half step n : Nat} (hs : s = i * (2 * half)) (hn : 2 * half * step = n) (h : s < n) : s + half + half ≤ n := by
  subst hs hn
  rw [Nat.mul_comm i] at *
  have hi : i < step := Nat.lt_of_mul_lt_mul_left h
  have := Nat.mul_le_mul_left (2 * half) (show i + 1 ≤ step from hi)
  rw [Nat.mul_add, Nat.mul_one] at this
  omega
theorem last_block {s i half step n : Nat} (hh : 1 ≤ half) (hs : s = i * (2 * half)) (hn : 2 * half * step = n) (h : s ≤ n) (h' : ¬ s < n) : i = step := by
  have e : i * (2 * half) = step * (2 * half) := by rw [← hs, Nat.mul_comm step]; omega
  exact Nat.eq_of_mul_eq_mul_right (by omega) e
theorem wrap_mul {j step js : Nat} (h : js = j * step) (hl : js < 4611686018427387904) : wrap64 ((j : Int) * (step : Int)) = (js : Int) := by
  have e : (j : Int) * (step : Int) = (js : Int) := by subst h; exact (Int.natCast_mul _ _).symm
  generalize (j : Int) * (step : Int) = x at e
  unfold wrap64
  omega

/-- As 'Mod', for two blocks. -/
structure Mod2 (b c : Nat) (w w' : World) : Prop where
  os : w'.os = w.os
  tape : w'.tape = w.tape
  output : w'.output = w.output
  size : w.heap.size ≤ w'.heap.size
  block : ∀ k, k < w.heap.size → k ≠ b → k ≠ c → w'.heap[k]? = w.heap[k]?
theorem Mod2.refl (b c : Nat) (w : World) : Mod2 b c w w := ⟨rfl, rfl, rfl, Nat.le_refl _, fun _ _ _ _ => rfl⟩
theorem Mod2.trans {b c : Nat} {u v w : World} (h : Mod2 b c u v) (k : Mod2 b c v w) : Mod2 b c u w :=
  ⟨k.os.trans h.os, k.tape.trans h.tape, k.output.trans h.output, Nat.le_trans h.size k.size, fun i hi hb hc => (k.block i (Nat.lt_of_lt_of_le hi h.size) hb hc).trans (h.block i hi hb hc)⟩
theorem Mod.left {b : Nat} {u v : World} (h : Mod b u v) (c : Nat) : Mod2 b c u v := ⟨h.os, h.tape, h.output, h.size, fun k hk hb _ => h.block k hk hb⟩
theorem Mod.right {c : Nat} {u v : World} (h : Mod c u v) (b : Nat) : Mod2 b c u v := ⟨h.os, h.tape, h.output, h.size, fun k hk _ hc => h.block k hk hc⟩
/-- The second block was not there. -/
theorem Mod2.drop {b c : Nat} {u v w : World} (h : Mod b u v) (k : Mod2 b c v w) (hc : u.heap.size ≤ c) : Mod b u w :=
  ⟨k.os.trans h.os, k.tape.trans h.tape, k.output.trans h.output, Nat.le_trans h.size k.size, fun i hi hb => (k.block i (Nat.lt_of_lt_of_le hi h.size) hb (by omega)).trans (h.block i hi hb)⟩
theorem Own.mod2 {w w' : World} {a b c : Nat} {T : TypeId} {vs : List Value} (h : Own w a T vs) (u : Mod2 b c w w') (hb : a ≠ b) (hc : a ≠ c) : Own w' a T vs := by
  unfold Own; rw [u.block a h.lt hb hc]; exact h

/-! ### the plain functions -/
def firstN (xs : List Int) : Nat → List Int
  | 0 => xs
  | q + 1 => ((firstN xs q).set (2 * q) ((firstN xs q)[2 * q]?.getD 0 + (firstN xs q)[2 * q + 1]?.getD 0)).set (2 * q + 1) ((firstN xs q)[2 * q]?.getD 0 + 998244353 - (firstN xs q)[2 * q + 1]?.getD 0)
def blocksN (half : Nat) (rt : Nat → Int) (xs : List Int) : Nat → List Int
  | 0 => xs
  | i + 1 => blockN (i * (2 * half)) half rt (blocksN half rt xs i) half
def rtAt (v : Int) (step : Nat) (j : Nat) : Int := v ^ (j * step) % 998244353
def stagesN (k : Nat) (v : Int) (xs : List Int) : Nat → List Int
  | 0 => xs
  | i + 1 => blocksN (2 ^ (i + 1)) (rtAt v (2 ^ (k - (i + 2)))) (stagesN k v xs i) (2 ^ (k - (i + 2)))
def fin2 (x : Int) : Int := cut2 x % 998244353
def transL (k : Nat) (v : Int) (xs : List Int) : List Int := (stagesN k v (firstN (revL 0 xs) (xs.length / 2)) (k - 1)).map fin2

theorem firstN_length (xs : List Int) (q : Nat) : (firstN xs q).length = xs.length := by
  induction q with
  | zero => rfl
  | succ q ih => simp [firstN, ih]
theorem blocksN_length (half : Nat) (rt : Nat → Int) (xs : List Int) (i : Nat) : (blocksN half rt xs i).length = xs.length := by
  induction i with
  | zero => rfl
  | succ i ih => rw [blocksN, blockN_length, ih]
theorem stagesN_length (k : Nat) (v : Int) (xs : List Int) (i : Nat) : (stagesN k v xs i).length = xs.length := by
  induction i with
  | zero => rfl
  | succ i ih => rw [stagesN, blocksN_length, ih]

def In1 (xs : List Int) : Prop := ∀ x ∈ xs, 0 ≤ x ∧ x < 998244353
theorem In1.at {xs : List Int} (h : In1 xs) (i : Nat) : 0 ≤ xs[i]?.getD 0 ∧ xs[i]?.getD 0 < 998244353 := by
  cases e : xs[i]? with
  | none => simp
  | some x => exact h x (List.mem_of_getElem? e)
theorem In1.four {xs : List Int} (h : In1 xs) : In4 xs := fun x hx => ⟨(h x hx).1, by have := (h x hx).2; omega⟩

/-- Behind q rounds of the first pass: the places from 2q on are as they were; all is below 2P. -/
theorem firstN_facts (xs : List Int) (h : In1 xs) (q : Nat) (hq : 2 * q ≤ xs.length) : In4 (firstN xs q) ∧ ∀ i, 2 * q ≤ i → (firstN xs q)[i]? = xs[i]? := by
  induction q with
  | zero => exact ⟨h.four, fun _ _ => rfl⟩
  | succ q ih =>
    obtain ⟨i1, i2⟩ := ih (by omega)
    have a := h.at (2 * q)
    have b := h.at (2 * q + 1)
    rw [← i2 (2 * q) (by omega)] at a
    rw [← i2 (2 * q + 1) (by omega)] at b
    refine ⟨(i1.set _ _ (by omega) (by omega)).set _ _ (by omega) (by omega), fun i hi => ?_⟩
    rw [firstN, List.getElem?_set_ne (by omega), List.getElem?_set_ne (by omega)]
    exact i2 i (by omega)
theorem rtAt_range (v : Int) (step j : Nat) : 0 ≤ rtAt v step j ∧ rtAt v step j < 998244353 := by unfold rtAt; omega
theorem blocksN_in (half : Nat) (v : Int) (step : Nat) (xs : List Int) (h : In4 xs) : ∀ i, In4 (blocksN half (rtAt v step) xs i)
  | 0 => h
  | i + 1 => blockN_in _ _ _ _ (blocksN_in half v step xs h i) (fun j _ => rtAt_range v step j) _ (Nat.le_refl _)
theorem stagesN_in (k : Nat) (v : Int) (xs : List Int) (h : In4 xs) : ∀ i, In4 (stagesN k v xs i)
  | 0 => h
  | i + 1 => blocksN_in _ _ _ _ (stagesN_in k v xs h i) _
theorem fin2_range (x : Int) : 0 ≤ fin2 x ∧ fin2 x < 998244353 := by unfold fin2; omega
theorem transL_in (k : Nat) (v : Int) (xs : List Int) : In1 (transL k v xs) := by
  intro x hx
  obtain ⟨y, _, rfl⟩ := List.mem_map.1 hx
  exact fin2_range y
theorem transL_length (k : Nat) (v : Int) (xs : List Int) : (transL k v xs).length = xs.length := by
  rw [transL, List.length_map, stagesN_length, firstN_length, revL_length]

theorem fin_set {xs : List Int} {i : Nat} (hi : i < xs.length) : ((xs.take i).map fin2 ++ xs.drop i).set i (fin2 (xs[i]?.getD 0)) = (xs.take (i + 1)).map fin2 ++ xs.drop (i + 1) := by
  have hm : min i xs.length = i := Nat.min_eq_left (Nat.le_of_lt hi)
  rw [List.set_append_right _ _ (by simp [hm]), List.take_succ_eq_append_getElem hi, List.map_append, List.append_assoc]
  congr 1
  rw [List.drop_eq_getElem_cons hi]
  simp only [List.length_map, List.length_take, hm, Nat.sub_self, List.set_cons_zero, List.getElem?_eq_getElem hi, Option.getD_some, List.map_cons, List.map_nil, List.cons_append, List.nil_append]

theorem blockN_congr (s half : Nat) (rt rt' : Nat → Int) (xs : List Int) (h : ∀ j, j < half → rt j = rt' j) : ∀ j, j ≤ half → blockN s half rt xs j = blockN s half rt' xs j
  | 0, _ => rfl
  | j + 1, hj => by rw [blockN, blockN, blockN_congr s half rt rt' xs h j (by omega), h j (by omega)]

set_option maxRecDepth 100000 in
set_option maxHeartbeats 4000000 in
theorem passes_any (bx bf k H : Nat) (T : TypeId) (xs ws : List Int) (v : Int) (w : World) (hx : Own w bx 78 (ints .u32 xs)) (hf : Own w bf T (facs ws)) (hne : bx ≠ bf)
    (hk : k ≤ 11) (hxk : Hid (xs.length = 2 ^ k)) (hH : xs.length ≤ 2 * H) (hH' : H ≤ 1024) (hws : Hid (ws.length = 2 * H)) (h1 : In1 xs) (hv : 0 ≤ v) (hv' : v < 998244353) :
    Calls Tabg.prog 151 #[.slice (some ⟨bx, 0, none⟩) xs.length xs.length, .int .i64 k, .int .u32 v, .slice (some ⟨bf, 0, none⟩) H H, .slice (some ⟨bf, H * 2, none⟩) H H] w fun e w' =>
      e = .returned (.tuple #[]) ∧ Mod2 bx bf w w' ∧ Own w' bx 78 (ints .u32 (transL k v xs)) := by
  have hxl : xs.length ≤ 2048 := by omega
  have hx0 : 0 < xs.length := by rw [hxk.out]; exact Nat.pow_pos (by decide)
  go_enter Tabg.func151, Tabg.ntmps151
  go_wp2_with (go_at_call 167; refine (reverse_any bx k xs.length xs w hx hk hxk).mono ?_; rintro e w1 ⟨rfl, hm1, ho1⟩)
  have hf1 := hf.mod hm1 (Ne.symm hne)
  have h1' : In1 (revL 0 xs) := revL_all 0 xs k hxk.out _ h1
  have hrl := revL_length 0 xs
  have HL : Hid ((revL 0 xs).length = xs.length) := hrl
  have Hfa := fun q hq => firstN_facts (revL 0 xs) h1' q hq
  clear hrl
  have HFA : Hid (∀ q, 2 * q ≤ xs.length → In4 (firstN (revL 0 xs) q) ∧ ∀ i, 2 * q ≤ i → (firstN (revL 0 xs) q)[i]? = (revL 0 xs)[i]?) := fun q hq => Hfa q (by rw [HL.out]; exact hq)
  clear Hfa
  generalize hrev : revL 0 xs = rs at *
  have HREV : Hid (revL 0 xs = rs) := hrev
  clear hrev
  go_loopw [10] (fun t wr => ∃ q p : Nat, Hid (p = 2 * q) ∧ t = .int .i64 p ∧ p ≤ xs.length ∧ Mod bx w wr ∧ Own wr bx 78 (ints .u32 (firstN rs q))) (fun t _ => xs.length - (intOf t).toNat)
  case atStart => exact ⟨0, 0, rfl, rfl, by omega, hm1, ho1⟩
  case round =>
    obtain ⟨q, p, Hp, rfl, hq, hm, ho⟩ := hrel
    clear hm1 ho1
    by_cases hlt : p + 1 < xs.length
    · have hfs := HFA.out q (by have := Hp.out; omega)
      have hyl := firstN_length rs q
      have hst : firstN rs (q + 1) = ((firstN rs q).set (2 * q) ((firstN rs q)[2 * q]?.getD 0 + (firstN rs q)[2 * q + 1]?.getD 0)).set (2 * q + 1) ((firstN rs q)[2 * q]?.getD 0 + 998244353 - (firstN rs q)[2 * q + 1]?.getD 0) := rfl
      have y0 := h1'.at p
      have y1 := h1'.at (p + 1)
      rw [← hfs.2 p (by have := Hp.out; omega)] at y0
      rw [← hfs.2 (p + 1) (by have := Hp.out; omega)] at y1
      clear hfs
      rw [HL.out] at hyl
      rw [← Hp.out] at hst
      generalize firstN rs q = ys at *
      have HS : Hid (firstN rs (q + 1) = (ys.set p (ys[p]?.getD 0 + ys[p + 1]?.getD 0)).set (p + 1) (ys[p]?.getD 0 + 998244353 - ys[p + 1]?.getD 0)) := hst
      have e0 : wr.cell? ⟨bx, p, none⟩ = some (.int .u32 (ys[p]?.getD 0)) := ho.int (by omega)
      have e1 : wr.cell? ⟨bx, p + 1, none⟩ = some (.int .u32 (ys[p + 1]?.getD 0)) := ho.int (by omega)
      have f0 := ho.free p
      have f1 := ho.free (p + 1)
      have hp1 : (p : Int) + 1 < (xs.length : Int) := by omega
      have hp0 : (p : Int) < (xs.length : Int) := by omega
      clear hst hyl
      go_wp2
      go_quiet (fail)
      go_wp2
      go_roundw
      case rel =>
        refine ⟨q + 1, p + 2, by have := Hp.out; show _ = _; omega, by go_num, by omega, ((hm.up ((Up.refl _).drewN _)).setCell _ _).setCell _ _, ?_⟩
        rw [HS.out]
        exact ((ho.drewN nq).setInt _ _).setInt _ _
      case measure => simp [intOf]; omega
    · have hfw := hf1
      clear hf1
      have hqe : firstN rs q = firstN rs (xs.length / 2) := by
        have := Hp.out
        have e : q = xs.length / 2 := by omega
        rw [e]
      rw [hqe] at ho
      have h4 : In4 (firstN rs (xs.length / 2)) := (HFA.out (xs.length / 2) (by omega)).1
      have hfl : (firstN rs (xs.length / 2)).length = xs.length := by rw [firstN_length, HL.out]
      generalize hfs : firstN rs (xs.length / 2) = fs at *
      have HFS : Hid (firstN rs (xs.length / 2) = fs) := hfs
      have HFL : Hid (fs.length = xs.length) := hfl
      clear hfs hqe hfl
      have hfw := hf.mod hm (Ne.symm hne)
      have hL2 : Hid (xs.length / 2 = 0 ∨ xs.length / 2 = 2 ^ (k - 1)) := half_pow hxk.out
      have hl2 : xs.length / 2 ≤ ws.length := by have := hws.out; omega
      have hwl : ws.length ≤ 2048 := by have := hws.out; omega
      have hh0 : (xs.length : Int) / 2 ≤ (H : Int) := by omega
      have hh1 : (0 : Int) ≤ (xs.length : Int) / 2 := by omega
      have hh2 : ((xs.length : Int) / 2).toNat = xs.length / 2 := by omega
      go_wp2_with (go_at_call 168; refine (factors_any bf (xs.length / 2) H (k - 1) T ws v wr hfw hL2 hl2 hwl hv hv').mono ?_; rintro e w2 ⟨rfl, hm2, hf2⟩)
      have ho2 := ho.mod hm2 hne
      have hM2 : Mod2 bx bf w w2 := (hm.left bf).trans (hm2.right bx)
      have hT2 : Hid (∀ j, j < xs.length / 2 → (fill v (xs.length / 2) ws)[j]?.getD 0 = v ^ j % 998244353) := fun j hj => fill_at v _ ws j hj
      have hTl : Hid ((fill v (xs.length / 2) ws).length = 2 * H) := by rw [fill_length _ _ _ hl2]; exact hws.out
      generalize fill v (xs.length / 2) ws = ts at *
      obtain ⟨wo, rfl⟩ : ∃ wo : World, wo = wr := ⟨_, rfl⟩
      clear hm2 hfw hm ho hL2 hl2 hwl hh0 hh1 hh2 hf hx hws
      go_loopw [13] (fun t wr => ∃ i tt : Nat, Hid (tt = i + 2) ∧ t = .int .i64 tt ∧ 2 ≤ tt ∧ (tt ≤ k + 1 ∨ tt = 2) ∧ Mod2 bx bf w wr ∧ Own wr bx 78 (ints .u32 (stagesN k v fs i)) ∧ ∃ ts : List Int, Own wr bf T (facs ts) ∧ Hid (∀ j, j < xs.length / 2 → ts[j]?.getD 0 = v ^ j % 998244353) ∧ Hid (ts.length = 2 * H)) (fun t _ => 13 - (intOf t).toNat)
      case atStart => exact ⟨0, 2, rfl, rfl, by omega, .inr rfl, hM2, ho2, ts, hf2, hT2, hTl⟩
      case round =>
        clear hM2 ho2 hf2 hT2 hTl ts
        obtain ⟨i, tt, Ht, rfl, ht2, htk, hM, ho, ts, hfo, hT, hTl⟩ := hrel
        by_cases htk : tt ≤ k
        · have ht11 : tt ≤ 11 := by omega
          have htk' : (tt : Int) ≤ (k : Int) := by omega
          have s1 : (0 : Int) ≤ (tt : Int) - 1 := by omega
          have s2 : (0 : Int) ≤ (k : Int) - (tt : Int) := by omega
          obtain ⟨half, hhalf⟩ : ∃ half : Nat, half = 2 ^ (tt - 1) := ⟨_, rfl⟩
          obtain ⟨step, hstep⟩ : ∃ step : Nat, step = 2 ^ (k - tt) := ⟨_, rfl⟩
          have p1 : wrap64 (2 ^ (tt - 1)) = (half : Int) := by rw [wrap_pow (tt - 1) (by omega), hhalf, pow_cast]
          have p2 : wrap64 (2 ^ (k - tt)) = (step : Int) := by rw [wrap_pow (k - tt) (by omega), hstep, pow_cast]
          have P1 : Hid (wrap64 (2 ^ (tt - 1)) = (half : Int)) := p1
          have P2 : Hid (wrap64 (2 ^ (k - tt)) = (step : Int)) := p2
          have Hhalf : Hid (half = 2 ^ (tt - 1)) := hhalf
          have Hstep : Hid (step = 2 ^ (k - tt)) := hstep
          have e1 : ((tt : Int) - 1).toNat = tt - 1 := by omega
          have e2 : ((k : Int) - (tt : Int)).toNat = k - tt := by omega
          have hhs : Hid (2 * half * step = xs.length) := by
            show _ = _
            rw [hxk.out, hhalf, hstep, Nat.mul_comm 2, ← Nat.pow_succ, ← Nat.pow_add]; congr 1; omega
          clear hhalf hstep
          have hh1 : 1 ≤ half := by have := Nat.pow_pos (n := tt - 1) (show 0 < 2 by decide); have := Hhalf.out; omega
          have hs1 : 1 ≤ step := by have := Nat.pow_pos (n := k - tt) (show 0 < 2 by decide); have := Hstep.out; omega
          have hhx : 2 * half ≤ xs.length := by have := Nat.le_mul_of_pos_right (2 * half) hs1; have := hhs.out; omega
          have hsx : 2 * step ≤ xs.length := by
            have h := Nat.le_mul_of_pos_right (2 * step) hh1
            have h' := hhs.out
            rw [Nat.mul_assoc, Nat.mul_comm step half, ← Nat.mul_assoc, h'] at h
            exact h
          go_upto_region 10 with fail
          go_cut [14, 15] (fun a b wc => a = .int .i64 half ∧ b = .int .i64 step ∧ ∃ m, wc = wr.drewN m)
          case first =>
            clear p1 p2
            go_quiet (fail)
            go_wp2
            go_meet
            case rel => exact ⟨congrArg (Value.int .i64) P1.out, congrArg (Value.int .i64) P2.out, _, rfl⟩
          case rest =>
            obtain ⟨rfl, rfl, m, rfl⟩ := hcut
            clear p1 p2 e1 e2
            obtain ⟨wp, rfl⟩ : ∃ wp : World, wp = wr := ⟨_, rfl⟩
            go_wp2
            go_loopw [16] (fun t wr => ∃ j : Nat, t = .int .i64 j ∧ j ≤ half ∧ Mod2 bx bf w wr ∧ Own wr bx 78 (ints .u32 (stagesN k v fs i)) ∧ ∃ ts : List Int, Own wr bf T (facs ts) ∧ Hid (∀ j, j < xs.length / 2 → ts[j]?.getD 0 = v ^ j % 998244353) ∧ Hid (ts.length = 2 * H) ∧ Hid (∀ l, l < j → ts[H + l]?.getD 0 = rtAt v step l)) (fun t _ => half - (intOf t).toNat)
            case atStart => exact ⟨0, rfl, by omega, hM.trans (((Up.refl _).drewN _).mod bx |>.left bf), ho.drewN m, ts, hfo.drewN m, hT, hTl, fun l hl => absurd hl (Nat.not_lt_zero _)⟩
            case round =>
              clear hM ho hfo hT hTl ts
              obtain ⟨j, rfl, hj, hM, ho, ts, hfo, hT, hTl, hR⟩ := hrel
              by_cases hjh : j < half
              · obtain ⟨js, hjs⟩ : ∃ js : Nat, js = j * step := ⟨_, rfl⟩
                have Hjs : Hid (js = j * step) := hjs
                have hjsl : js < xs.length / 2 := by
                  have h := Nat.mul_lt_mul_of_pos_right hjh (show 0 < step by omega)
                  have h' := hhs.out
                  rw [Nat.mul_assoc] at h'
                  omega
                have hjs' : (j : Int) * (step : Int) = (js : Int) := by subst hjs; exact (Int.natCast_mul _ _).symm
                clear hjs
                have hjH : (js : Int) < (H : Int) := by omega
                have hjH' : js < H := by omega
                have hjj : (j : Int) < (H : Int) := by omega
                have hjj' : j < H := by omega
                have tl := hTl.out
                have e1 : wr.cell? ⟨bf, js * 2, none⟩ = some (.int .u32 (ts[js]?.getD 0)) := hfo.facW (by omega)
                have e2 : wr.cell? ⟨bf, js * 2 + 1, none⟩ = some (.int .u32 (rat (ts[js]?.getD 0))) := hfo.facR (by omega)
                have e3 : wr.cell? ⟨bf, H * 2 + j * 2, none⟩ = some (.int .u32 (ts[H + j]?.getD 0)) := by rw [← Nat.add_mul]; exact hfo.facW (by omega)
                have e4 : wr.cell? ⟨bf, H * 2 + j * 2 + 1, none⟩ = some (.int .u32 (rat (ts[H + j]?.getD 0))) := by rw [← Nat.add_mul]; exact hfo.facR (by omega)
                have f3 := hfo.free (H * 2 + j * 2)
                have f4 := hfo.free (H * 2 + j * 2 + 1)
                clear tl
                go_wp2
                go_roundw
                case rel =>
                  have tl := hTl.out
                  have hset := hfo.setFac (i := H + j) (by omega) (ts[js]?.getD 0)
                  rw [Nat.add_mul] at hset
                  refine ⟨j + 1, by go_num, by omega, hM.trans ((((Mod.refl bf _).setCell _ _).setCell _ _).right bx), (ho.other hne _).other hne _, ts.set (H + j) (ts[js]?.getD 0), hset, ?_, ?_, ?_⟩
                  · intro l hl
                    rw [List.getElem?_set_ne (by omega)]
                    exact hT.out l hl
                  · show _ = _
                    rw [List.length_set]; exact tl
                  · intro l hl
                    by_cases hlj : l = j
                    · subst hlj
                      rw [List.getElem?_set_self (by omega), Option.getD_some, hT.out js hjsl, rtAt, Hjs.out]
                    · rw [List.getElem?_set_ne (by omega)]
                      exact hR.out l (by omega)
                case measure => simp [intOf]; omega
              · have hb1 : ∀ l, l < half → 0 ≤ ts[H + l]?.getD 0 ∧ ts[H + l]?.getD 0 < 998244353 := fun l hl => by
                  rw [hR.out l (by omega)]; exact rtAt_range v step l
                have HB1 : Hid (∀ l, l < half → 0 ≤ ts[H + l]?.getD 0 ∧ ts[H + l]?.getD 0 < 998244353) := hb1
                clear hb1
                have hs4 := stagesN_in k v fs h4 i
                have hsl : (stagesN k v fs i).length = xs.length := by rw [stagesN_length]; exact HFL.out
                generalize hgs : stagesN k v fs i = gs at *
                have HGS : Hid (stagesN k v fs i = gs) := hgs
                have HGL : Hid (gs.length = xs.length) := hsl
                clear hgs hsl
                obtain ⟨wq, rfl⟩ : ∃ wq : World, wq = wr := ⟨_, rfl⟩
                go_wp2
                go_loopw [17] (fun t wr => ∃ i' s : Nat, t = .int .i64 s ∧ Hid (s = i' * (2 * half)) ∧ s ≤ xs.length ∧ Mod2 bx bf w wr ∧ Own wr bf T (facs ts) ∧ Own wr bx 78 (ints .u32 (blocksN half (rtAt v step) gs i'))) (fun t _ => xs.length - (intOf t).toNat)
                case atStart => exact ⟨0, 0, rfl, by show _ = _; omega, by omega, hM, hfo, ho⟩
                case round =>
                  clear hM hfo ho
                  obtain ⟨i', s, rfl, Hs, hs, hM, hfo, ho⟩ := hrel
                  by_cases hsl : s < xs.length
                  · have hsb : s + half + half ≤ xs.length := next_block Hs.out hhs.out hsl
                    have hbl : (blocksN half (rtAt v step) gs i').length = xs.length := by rw [blocksN_length]; exact HGL.out
                    have hb4 := blocksN_in half v step gs hs4 i'
                    have tl := hTl.out
                    have cB := fun (w' : World) (hx : Own w' bx 78 (ints .u32 (blocksN half (rtAt v step) gs i'))) (hf : Own w' bf T (facs ts)) => block_any bx bf s half H half half half T _ ts w' hx hf hne (by rw [hbl]; exact hsb) (by rw [hbl]; exact hxl) (by omega) hb4 HB1.out
                    have CB : Hid (∀ w' : World, Own w' bx 78 (ints .u32 (blocksN half (rtAt v step) gs i')) → Own w' bf T (facs ts) → Calls Tabg.prog 169 #[.slice (some ⟨bx, s, none⟩) half half, .slice (some ⟨bx, s + half, none⟩) half half, .slice (some ⟨bf, H * 2, none⟩) half half] w' fun e w'' => e = .returned (.tuple #[]) ∧ Mod bx w' w'' ∧ Own w'' bx 78 (ints .u32 (blocksN half (rtAt v step) gs (i' + 1)))) := by
                      intro w' hx hf
                      have := cB w' hx hf
                      rw [blockN_congr s half _ (rtAt v step) _ (fun l hl => hR.out l (by omega)) half (Nat.le_refl _)] at this
                      rw [blocksN, ← Hs.out]
                      exact this
                    clear cB hbl hb4 tl
                    have hsb2 : s + 2 * half ≤ xs.length := by omega
                    have sl1 := fun w => run_slice3 (P := Tabg.prog) 82 78 1 Tabg.underlying82 (by kernel_rfl) bx 0 xs.length xs.length s (s + half) (s + half) .i64 .i64 .i64 (s : Int) ((s : Int) + (half : Int)) ((s : Int) + (half : Int)) rfl (by omega) (by omega) (by omega) (by omega) (by omega) (by omega) w
                    have sl2 := fun w => run_slice3 (P := Tabg.prog) 82 78 1 Tabg.underlying82 (by kernel_rfl) bx 0 xs.length xs.length (s + half) (s + 2 * half) (s + 2 * half) .i64 .i64 .i64 ((s : Int) + (half : Int)) ((s : Int) + 2 * (half : Int)) ((s : Int) + 2 * (half : Int)) (by omega) (by omega) (by omega) (by omega) (by omega) (by omega) (by omega) w
                    have q1 : s + half - s = half := by omega
                    have q2 : s + 2 * half - (s + half) = half := by omega
                    rw [q1, Nat.zero_add, Nat.mul_one] at sl1
                    rw [q2, Nat.zero_add, Nat.mul_one] at sl2
                    have b0 : (0 : Int) ≤ (half : Int) := by omega
                    have b4 : (half : Int) ≤ (H : Int) := by omega
                    have b5 : IntKind.i64.wrap ((s : Int) + (half : Int)) = (s : Int) + (half : Int) := by rw [IntKind.wrap_i64]; omega
                    have b6 : IntKind.i64.wrap (2 * (half : Int)) = 2 * (half : Int) := by rw [IntKind.wrap_i64]; omega
                    have b7 : IntKind.i64.wrap ((s : Int) + 2 * (half : Int)) = (s : Int) + 2 * (half : Int) := by rw [IntKind.wrap_i64]; omega
                    clear q1 q2
                    go_upto_region 18 with fail
                    go_region_held3 (fun _ => True) (trivial) (first | (go_at_call 169; refine (CB.out _ ho.drew hfo.drew).mono ?_; rintro e w' ⟨rfl, hmb, hob⟩))
                    go_wp2
                    go_roundw
                    case rel => exact ⟨i' + 1, s + 2 * half, by go_num, by have := Hs.out; show _ = _; rw [Nat.add_mul, Nat.one_mul]; omega, by omega, hM.trans ((((Up.refl _).drew.mod bx).trans hmb).left bf), hfo.drew.mod hmb (Ne.symm hne), hob⟩
                    case measure => simp [intOf]; omega
                  · obtain rfl : i' = step := last_block hh1 Hs.out hhs.out hs hsl
                    go_wp2
                    go_roundw
                    case rel =>
                      have := Ht.out
                      refine ⟨i + 1, tt + 1, by show _ = _; omega, by go_num, by omega, .inl (by omega), hM, ?_, ts, hfo, hT, hTl⟩
                      rw [stagesN, HGS.out, ← this, ← Hstep.out, show i + 1 = tt - 1 by omega, ← Hhalf.out]
                      exact ho
                    case measure => simp [intOf]; omega
        · have hki : i = k - 1 := by have := Ht.out; omega
          subst hki
          have hs4 := stagesN_in k v fs h4 (k - 1)
          have hsl : (stagesN k v fs (k - 1)).length = xs.length := by rw [stagesN_length]; exact HFL.out
          have HT : Hid ((stagesN k v fs (k - 1)).map fin2 = transL k v xs) := by show _ = _; rw [transL, HREV.out, HFS.out]
          generalize stagesN k v fs (k - 1) = gs at *
          have HGL : Hid (gs.length = xs.length) := hsl
          clear hsl
          go_wp2
          go_loopw [18] (fun t wr => ∃ i : Nat, t = .int .i64 i ∧ i ≤ xs.length ∧ Mod2 bx bf w wr ∧ Own wr bx 78 (ints .u32 ((gs.take i).map fin2 ++ gs.drop i))) (fun t _ => xs.length - (intOf t).toNat)
          case atStart => exact ⟨0, rfl, by omega, hM, ho⟩
          case round =>
            clear hM ho hfo hT hTl ts
            obtain ⟨i, rfl, hi, hM, ho⟩ := hrel
            by_cases hil : i < xs.length
            · have hg := hs4.at i
              have hc := cut2_range _ hg.1 hg.2
              have gl := HGL.out
              have e0 : wr.cell? ⟨bx, i, none⟩ = some (.int .u32 (gs[i]?.getD 0)) := by
                rw [ho.int (by simp; omega), List.getElem?_append_right (by simp; omega)]
                simp [Nat.min_eq_left (show i ≤ gs.length by omega)]
              have f0 := ho.free i
              clear gl
              go_upto_if 131 with (fail)
              go_cut [19] (fun a wc => a = .int .u32 (cut2 (gs[i]?.getD 0)) ∧ wr = wc)
              case first =>
                by_cases hcc : gs[i]?.getD 0 < 1996488706
                · go_wp2
                  go_meet
                  case rel => exact ⟨by unfold cut2; rw [if_neg (by omega)], rfl⟩
                · go_wp2
                  go_meet
                  case rel => exact ⟨by unfold cut2; rw [if_pos (by omega)], rfl⟩
              case rest =>
                obtain ⟨rfl, rfl⟩ := hcut
                go_wp2_with (go_at_call 119; refine (fold _ _ hc.1 hc.2).mono ?_; rintro e w' ⟨rfl, rfl⟩)
                go_roundw
                case rel =>
                  refine ⟨i + 1, by go_num, by omega, hM.trans (((Mod.refl bx _).setCell _ _).left bf), ?_⟩
                  rw [← fin_set (by rw [HGL.out]; exact hil)]
                  exact ho.setInt i _
                case measure => simp [intOf]; omega
            · go_wp2
              go_end0
              refine ⟨rfl, hM, ?_⟩
              rw [← HT.out]
              rw [List.take_of_length_le (by rw [HGL.out]; omega), List.drop_eq_nil_of_le (by rw [HGL.out]; omega), List.append_nil] at ho
              exact ho
end Go.Proofs.Ygctab
