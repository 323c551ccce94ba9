import Derived.Test.YgctabNttF
namespace Go.Proofs.Ygctab
open Go.RowKit
set_option linter.unusedVariables false

def Z32 : Array Value := (facs (List.replicate 32 0)).toArray
def Z2048 : Array Value := (facs (List.replicate 2048 0)).toArray
theorem alloc177 (w : World) : (Instr.alloc 177 true (.tuple #[])).run Tabg.prog w = .ok (.pointer (some ⟨w.heap.size, 0, none⟩)) (w.alloc (.cells Z32 177)) := by kernel_rfl
theorem alloc180 (w : World) : (Instr.alloc 180 true (.tuple #[])).run Tabg.prog w = .ok (.pointer (some ⟨w.heap.size, 0, none⟩)) (w.alloc (.cells Z2048 180)) := by kernel_rfl

/-- 'var x T', T of whatever size: the law for the walk. -/
theorem wpList_alloc {P : Program} (w : World) {ops : Array Oper} {rest : List Oper} {o : Oper} {a : Act} {Q : Exit → Act → World → Prop}
    (hg : o.guard = none) (t : TypeId) (hop : o.op = Op.alloc t) (Z : Array Value)
    (hz : ∀ w, (Instr.alloc t true (.tuple #[])).run P w = .ok (.pointer (some ⟨w.heap.size, 0, none⟩)) (w.alloc (.cells Z t)))
    (hK : wpList P ops Q rest (a.put o.dst (.pointer (some ⟨w.heap.size, 0, none⟩))) (w.alloc (.cells Z t))) :
    wpList P ops Q (o :: rest) a w := by
  refine wpList_plain hg fun K hK' => ?_
  unfold Oper.wp
  rw [execOp, hop]
  simp only [Sem.run_bind, hz, Result.andThen_ok]
  exact hK' _ _ hK

set_option maxRecDepth 100000 in
set_option maxHeartbeats 800000 in
theorem transform_any (bx k : Nat) (xs : List Int) (v : Int) (w : World) (hx : Own w bx 78 (ints .u32 xs)) 
    (hk : k ≤ 11) (hxk : Hid (xs.length = 2 ^ k)) (h1 : In1 xs) (hv : 0 ≤ v) (hv' : v < 998244353) :
    Calls Tabg.prog 116 #[.slice (some ⟨bx, 0, none⟩) xs.length xs.length, .int .i64 k, .int .u32 v] w fun e w' =>
      e = .returned (.tuple #[]) ∧ Mod bx w w' ∧ Own w' bx 78 (ints .u32 (transL k v xs)) := by
  have hxl : xs.length ≤ 2048 := by rw [hxk.out]; exact Nat.pow_le_pow_right (by decide) hk
  have hb := hx.lt
  by_cases h32 : xs.length ≤ 32
  · have hx1 := hx.alloc (.cells Z32 177)
    have hf1 : Own (w.alloc (.cells Z32 177)) w.heap.size 177 (facs (List.replicate 32 0)) := Own.new w 177 Z32
    have cP : Calls Tabg.prog 151 #[.slice (some ⟨bx, 0, none⟩) xs.length xs.length, .int .i64 k, .int .u32 v, .slice (some ⟨w.heap.size, 0, none⟩) 16 16, .slice (some ⟨w.heap.size, 32, none⟩) 16 16] (w.alloc (.cells Z32 177)).drew fun e w' =>
      e = .returned (.tuple #[]) ∧ Mod2 bx w.heap.size (w.alloc (.cells Z32 177)).drew w' ∧ Own w' bx 78 (ints .u32 (transL k v xs)) := passes_any bx w.heap.size k 16 177 xs (List.replicate 32 0) v (w.alloc (.cells Z32 177)).drew hx1.drew hf1.drew (by omega) hk hxk (by omega) (by decide) (by show _ = _; simp) h1 hv hv'
    go_enter Tabg.func116, Tabg.ntmps116
    go_wp2_with (first | (refine wpList_alloc _ rfl 177 rfl Z32 alloc177 ?_; simp only [Act.put, List.setIfInBounds_toArray, List.set_cons_succ, List.set_cons_zero]))
    go_region_held3 (fun _ => True) (trivial) (first | (go_at_call 151; refine cP.mono ?_; rintro e w' ⟨rfl, hmb, hob⟩))
    go_wp2
    refine bodyPost_ret (results_none rfl _ _ _) rfl ?_
    exact ⟨rfl, hmb.drop ((((Up.refl _).alloc _).drew).mod bx) (Nat.le_refl _), hob⟩
  · have hx1 := hx.alloc (.cells Z2048 180)
    have hf1 : Own (w.alloc (.cells Z2048 180)) w.heap.size 180 (facs (List.replicate 2048 0)) := Own.new w 180 Z2048
    have cP : Calls Tabg.prog 151 #[.slice (some ⟨bx, 0, none⟩) xs.length xs.length, .int .i64 k, .int .u32 v, .slice (some ⟨w.heap.size, 0, none⟩) 1024 1024, .slice (some ⟨w.heap.size, 2048, none⟩) 1024 1024] (w.alloc (.cells Z2048 180)).drew fun e w' =>
      e = .returned (.tuple #[]) ∧ Mod2 bx w.heap.size (w.alloc (.cells Z2048 180)).drew w' ∧ Own w' bx 78 (ints .u32 (transL k v xs)) := passes_any bx w.heap.size k 1024 180 xs (List.replicate 2048 0) v (w.alloc (.cells Z2048 180)).drew hx1.drew hf1.drew (by omega) hk hxk (by omega) (by decide) (by show _ = _; simp) h1 hv hv'
    go_enter Tabg.func116, Tabg.ntmps116
    go_wp2_with (first | (refine wpList_alloc _ rfl 180 rfl Z2048 alloc180 ?_; simp only [Act.put, List.setIfInBounds_toArray, List.set_cons_succ, List.set_cons_zero]))
    go_region_held3 (fun _ => True) (trivial) (first | (go_at_call 151; refine cP.mono ?_; rintro e w' ⟨rfl, hmb, hob⟩))
    go_wp2
    go_end0
    exact ⟨rfl, hmb.drop ((((Up.refl _).alloc _).drew).mod bx) (Nat.le_refl _), hob⟩

theorem root_any (k : Nat) (w : World) (hk : k ≤ 11) :
    Calls Tabg.prog 117 #[.int .u8 k] w fun e w' => e = .returned (.int .u32 ((3 : Int) ^ (998244352 / 2 ^ k) % 998244353)) ∧ w' = w := by
  have hk' : (k : Int) ≤ 11 := by omega
  have e1 : ((998244352 : Int) / 2 ^ k) = ((998244352 / 2 ^ k : Nat) : Int) := by simp
  have e2 : 998244352 / 2 ^ k ≤ 998244352 := Nat.div_le_self _ _
  have cP := powMod 3 ((998244352 : Int) / 2 ^ k) w (by decide) (by decide) (by rw [e1]; exact Int.natCast_nonneg _) (by rw [e1]; exact Int.ofNat_lt.2 (Nat.lt_of_le_of_lt e2 (by decide)))
  have e3 : ((998244352 : Int) / 2 ^ k).toNat = 998244352 / 2 ^ k := by rw [e1]; exact Int.toNat_natCast _
  rw [e3] at cP
  clear e1 e2 e3
  go_enter Tabg.func117, Tabg.ntmps117
  go_wp2_with (go_at_call 51; refine cP.mono ?_; rintro e w' ⟨rfl, rfl⟩)
  go_ret
  exact ⟨rfl, rfl⟩

/-- Block b is a row of n cells; whatever it held, it now holds cs. -/
theorem Own.setRow {w : World} {b : Nat} {T : TypeId} {vs : List Value} (h : Own w b T vs) (cs : List Value) : Own (w.setRow b cs.toArray) b T cs := by
  have hlt := h.lt
  unfold Own at *
  have h' : w.heap[b] = .cells vs.toArray T (0, 0) := by simpa [Array.getElem?_eq_getElem hlt] using h
  show (w.heap.modify b _)[b]? = _
  rw [Array.getElem?_eq_getElem (by simpa using hlt), Array.getElem_modify_self, h']
theorem Mod.setRow {b : Nat} {u v : World} (h : Mod b u v) (cs : Array Value) : Mod b u (v.setRow b cs) :=
  h.trans ⟨rfl, rfl, rfl, by simp [World.setRow], fun k _ hk => by
    show (v.heap.modify b _)[k]? = _
    rw [Array.getElem?_modify, if_neg (Ne.symm hk)]⟩

theorem addr_add (b off i : Nat) : (⟨b, off, none⟩ : Addr).add i = ⟨b, off + i, none⟩ := by
  unfold Addr.add
  split <;> simp_all

set_option maxRecDepth 100000 in
theorem copyE_any (a : Option Addr) (n c : Nat) (zs : List Int) (w : World) (h : RdI .u32 w a n zs) (hn : n ≤ 2048) (h0 : 0 < n) :
    Calls Tabg.prog 56 #[.slice a n c] w fun e w' => e = .returned (.slice (some ⟨w.heap.size, 0, none⟩) n n) ∧ Up w w' ∧ Own w' w.heap.size 78 (ints .u32 zs) := by
  obtain ⟨rfl, hc⟩ := h
  obtain ⟨b, off, rfl, _⟩ := hc 0 h0
  have hmk := fun w => run_make_row' (P := Tabg.prog) 82 78 (.int .u32 0) 4 Tabg.underlying82 (by kernel_rfl) rfl .i64 .i64 zs.length (by omega) (by omega) w
  have hO := Own.made w 78 (.int .u32 0) zs.length
  have hcp := fun ty => run_copy_row (P := Tabg.prog) (w.alloc (.cells (madeCells #[.int .u32 0] zs.length) 78)) 82 82 ty 78 w.heap.size 0 zs.length zs.length ⟨b, off, none⟩ zs.length c _ 78 (ints .u32 zs) Tabg.underlying82 (by kernel_rfl) hO (by simp [ints_length])
    (by
      intro j v hj
      have hl : j < zs.length := by have := (List.getElem?_eq_some_iff.1 hj).1; rwa [ints_length] at this
      obtain ⟨b', off', e, hcell⟩ := hc j hl
      cases e
      rw [ints_at .u32 hl] at hj
      cases hj
      rw [addr_add]
      exact ((Up.refl w).alloc _).cell hcell)
    (by simp [ints_length]) (by intro v hv; simp [ints] at hv; obtain ⟨x, _, rfl⟩ := hv; rfl)
  have e1 : (List.take 0 (List.replicate zs.length (Value.int .u32 0)).toArray.toList ++ ints .u32 zs ++ List.drop (0 + (ints .u32 zs).length) (List.replicate zs.length (Value.int .u32 0)).toArray.toList) = ints .u32 zs := by
    simp [ints_length]
  rw [e1] at hcp
  clear e1
  go_enter Tabg.func56, Tabg.ntmps56
  go_wp2
  go_ret
  exact ⟨rfl, ((Up.refl w).alloc _).ofMod ((Mod.refl w.heap.size _).setRow _) (Nat.le_refl _), hO.setRow _⟩
end Go.Proofs.Ygctab
