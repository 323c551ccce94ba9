import Derived.Test.YgctabTowA
namespace Go.Proofs.Ygctab
open Go.RowKit
set_option linter.unusedVariables false
set_option linter.unusedSimpArgs false

theorem run_slice_hi0 {P : Program} (t e : TypeId) (sz : Nat) (ht : P.underlying t = some (.slice e)) (hz : (P.info? e).map (·.size) = some sz) (a : Option Addr) (len cap h : Nat) (ha : a = none ∨ ∃ b off, a = some ⟨b, off, none⟩) (k2 : IntKind) (H : Int)
    (eH : H = h) (h3 : h ≤ cap) (w : World) :
    (Instr.slice t (.slice a len cap) none (some (.int k2 H)) none).run P w = .ok (.slice a h cap) w := by
  subst eH
  have ee : P.elem t = e := by simp [Program.elem, ht]
  have ht' : P.underlying t = some (.slice (P.elem t)) := by rw [ee]; exact ht
  rw [run_slice_h w t _ len cap ht' k2 h (by omega) (by omega), ee]
  cases hq : P.info? e with
  | none => simp [hq] at hz
  | some i =>
    have hi : i.size = sz := by simpa [hq] using hz
    rcases ha with rfl | ⟨b, off, rfl⟩
    · by_cases hm : cap = 0 <;> simp [sizeOf, typeInfo, hq, hi, sliced, hm]
    · by_cases hm : cap = 0 <;> simp [sizeOf, typeInfo, hq, hi, sliced, hm, Addr.add]

theorem splice_head {α : Type} (cur cs : List α) (h : cs.length ≤ cur.length) : splice cur 0 cs = cs ++ cur.drop cs.length := by simp [splice]

set_option maxRecDepth 100000 in
set_option maxHeartbeats 1600000 in
theorem stacked_any (a : Option Addr) (n c k ct l v : Nat) (A : Option Addr) (es : List (Option Addr × Nat)) (vs : List Nat) (w : World) (hR : RdE w a n es) (hH : Hold w es vs) (ha : a = none ∨ ∃ b off, a = some ⟨b, off, none⟩) (hc : n ≤ c) (hn : n ≤ 64) (hk : n = k + ct) (hN : NS w A l v) :
    Calls Tabg.prog 132 #[.slice a n c, .int .i64 ct, .slice A l l] w fun e w' => ∃ B, e = .returned (.slice (some ⟨B, 0, none⟩) (k + 1) (k + 1)) ∧ w.heap.size ≤ B ∧ Up w w' ∧ Own w' B 87 (ents (es.take k ++ [(A, l)])) ∧ Hold w' (es.take k ++ [(A, l)]) (vs.take k ++ [v]) := by
  obtain ⟨M, hM⟩ : ∃ M, M = k + 1 := ⟨_, rfl⟩
  have eM : (k : Int) + 1 = (M : Int) := by omega
  have ek : (n : Int) - (ct : Int) = (k : Int) := by omega
  have hmk := fun w => run_make_row' (P := Tabg.prog) 100 87 (.slice none 0 0) 24 Tabg.underlying100 (by kernel_rfl) rfl .i64 .i64 M (by omega) (by omega) w
  have hO := Own.made w 87 (.slice none 0 0) M
  have HO : Hid (Own (w.alloc (.cells (madeCells #[.slice none 0 0] M) 87)) w.heap.size 87 (List.replicate M (.slice none 0 0))) := hO
  have hs := fun w' => run_slice_hi0 (P := Tabg.prog) 100 87 1 Tabg.underlying100 (by kernel_rfl) a n c k ha .i64 (k : Int) rfl (by omega) w'
  have hl := hR.1
  have HS : Hid ((ents (es.take k)).length = k ∧ (∀ i, i < k → ∃ b o', a = some ⟨b, o', none⟩ ∧ (w.alloc (.cells (madeCells #[.slice none 0 0] M) 87)).cell? ⟨b, o' + i, none⟩ = (ents (es.take k))[i]?) ∧ ∀ x ∈ ents (es.take k), x.oneCell' = true) := by
    refine ⟨by rw [ents_length, List.length_take]; omega, fun i hi => ?_, fun x hx => ?_⟩
    · obtain ⟨b, off, e, hcc⟩ := hR.2 i (by omega)
      refine ⟨b, off, e, ?_⟩
      rw [ents_at (by simp; omega)]
      have := ((Up.refl w).alloc (.cells (madeCells #[.slice none 0 0] M) 87)).cell hcc
      rw [this]
      unfold entAt
      rw [List.getElem?_take, if_pos hi]
    · simp only [ents, List.mem_map] at hx
      obtain ⟨y, _, rfl⟩ := hx
      rfl
  have HF : Hid (∀ w', Up w w' → Hold w' (es.take k ++ [(A, l)]) (vs.take k ++ [v])) := fun w' hu => ((hH.take k).up hu).push (hN.up hu)
  have HM : Hid (M = k + 1) := hM
  have HE : Hid ((ents (es.take k)) ++ [Value.slice A l l] = ents (es.take k ++ [(A, l)])) := by show _ = _; simp [ents, slE]
  have kI : (k : Int) ≤ 64 := by omega
  have k0 : (0 : Int) ≤ (k : Int) := by omega
  have MI : (M : Int) ≤ 65 := by omega
  have kM : (k : Int) < (M : Int) := by omega
  have M1 : (1 : Int) ≤ (M : Int) := by omega
  rw [← hM]
  clear hO hR hH hN hl hM hk
  go_enter Tabg.func132, Tabg.ntmps132
  have L1 : Hid ((splice (List.replicate M (Value.slice none 0 0)) 0 (ents (es.take k))).set k (.slice A l l) = ents (es.take k) ++ [.slice A l l] ∧ (splice (List.replicate M (Value.slice none 0 0)) 0 (ents (es.take k)))[k]? = some (.slice none 0 0)) := by
    have q1 := HS.out.1
    have q2 := HM.out
    constructor
    · rw [splice_head _ _ (by simp; omega), List.set_append, if_neg (by omega), q1, Nat.sub_self, List.drop_replicate, q2, show k + 1 - k = 1 by omega]; rfl
    · rw [splice_head _ _ (by simp; omega), List.getElem?_append_right (by omega), q1, Nat.sub_self, List.drop_replicate, q2, show k + 1 - k = 1 by omega]; rfl
  go_wp2_with (
    refine wpList_copyV rfl (.tmp 16) (.tmp 19) 100 100 87 rfl Tabg.underlying100 (by kernel_rfl) a M M k c w.heap.size 0 rfl rfl (List.replicate M (.slice none 0 0)) (ents (es.take k)) 87 HO.out HS.out.1 HS.out.2.1 HS.out.2.2 (by have := HM.out; omega) (by have := HM.out; simp; omega) w ((Up.refl w).alloc _) (Nat.le_refl _) ?_
    intro w1 hw hb
    have O1 : Hid (Own w1 w.heap.size 87 (splice (List.replicate M (.slice none 0 0)) 0 (ents (es.take k)))) := hw
    have cz : w1.cell? ⟨w.heap.size, k, none⟩ = some (.slice none 0 0) := by rw [(O1.out).cell]; exact L1.out.2
    have fz := Own.free O1.out k
    clear hw)
  go_ret
  refine ⟨w.heap.size, rfl, Nat.le_refl _, (hb.out).setCell (Nat.le_refl _) _, ?_, HF.out _ ((hb.out).setCell (Nat.le_refl _) _)⟩
  have := (O1.out).set k (.slice A l l)
  rw [L1.out.1, HE.out] at this
  exact this
end Go.Proofs.Ygctab
