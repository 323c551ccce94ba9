import Derived.Test.YgctabTowN
namespace Go.Proofs.Ygctab
open Go.RowKit
set_option linter.unusedVariables false
set_option linter.unusedSimpArgs false
set_option exponentiation.threshold 9000

/-- The machine holds these numbers. -/
def MV (w0 w : World) (m : Nat) (vs : List Nat) (os : List Int) : Prop := ∃ ps : List (Nat × Nat), ps.map Prod.snd = vs ∧ MS w0 w m ps os

set_option maxRecDepth 100000 in
theorem replace_any {w0 w : World} {m : Nat} {ps : List (Nat × Nat)} {os : List Int} (h : MS w0 w m ps os) (hl : ps.length ≤ 64) (k ct : Nat) (hk : ps.length = k + ct) (q : Nat × Nat) (hq : EntOk w0.heap.size w q) (ha : ∀ p ∈ ps, ApartE p q) :
    Calls Tabg.prog 164 #[.pointer (some ⟨m, 0, none⟩), .int .i64 ct, entC q] w fun e w' => e = .returned (.tuple #[]) ∧ MS w0 w' m (ps.take k ++ [q]) os := by
  obtain ⟨hU, vS, vO, hM⟩ := h
  obtain ⟨sa, sc, hvS, hsc, hsa, hx⟩ := ownsRow_slice hM.st
  clear hx
  have hc0 : w.cell? ⟨m, 0, none⟩ = some vS := by rw [hM.own.cell]; rfl
  have hfr := hM.own.free 0
  obtain ⟨n, hn⟩ : ∃ n, n = ps.length := ⟨_, rfl⟩
  rw [← hn] at hvS hl hk hsc
  subst hvS
  have hs := fun w' => run_slice_hi0 (P := Tabg.prog) 100 87 1 Tabg.underlying100 (by kernel_rfl) sa n sc k (hsa.imp id fun ⟨b, h⟩ => ⟨b, 0, h⟩) .i64 (k : Int) rfl (by omega) w'
  have HN : Hid (∀ w', Up w w' → MS w0 (w'.setCell ⟨m, 0, none⟩ (.slice sa k sc)) m (ps.take k) os ∧ EntOk w0.heap.size (w'.setCell ⟨m, 0, none⟩ (.slice sa k sc)) q) := by
    intro w' hu
    have hM' := hM.up hu
    have h1 := hM'.st
    rw [← hn] at h1
    have h2 := ownsRow_take h1 (m := k) (by omega)
    have hlk : (ps.take k).length = k := by simp; omega
    rw [← List.map_take] at h2
    refine ⟨⟨(hU.trans hu).setCell hM.le _, _, _, hM'.setS (ps' := ps.take k) (by rw [hlk]; exact h2) (fun p hp => hM'.ent p (List.mem_of_mem_take hp)) (hM.apart.sublist (List.take_sublist _ _))⟩, ?_⟩
    refine (hq.up hu).of fun g cur hg => setCell_block (fun e => ?_)
    subst e
    have := hM'.own
    unfold Own at this
    rw [hg] at this
    simp at this
  have C : Hid (∀ w', MS w0 w' m (ps.take k) os → EntOk w0.heap.size w' q → Calls Tabg.prog 159 #[.pointer (some ⟨m, 0, none⟩), entC q] w' fun e w' => e = .returned (.tuple #[]) ∧ MS w0 w' m (ps.take k ++ [q]) os) :=
    fun w' h1 h2 => push_any h1 (by simp; omega) q h2 (fun p hp => ha p (List.mem_of_mem_take hp))
  have ek : (n : Int) - (ct : Int) = (k : Int) := by omega
  have kI : (k : Int) ≤ 64 := by omega
  have k0 : (0 : Int) ≤ (k : Int) := by omega
  generalize entC q = eq at *
  clear hM hU hn hq ha hk hsa
  go_enter Tabg.func164, Tabg.ntmps164
  go_wp2_with (fail)
  go_cut [] (fun wc => Hid (MS w0 wc m (ps.take k) os ∧ EntOk w0.heap.size wc q))
  case first =>
    go_region
    go_wp2
    go_meet
    case rel =>
      have := HN.out w (Up.refl _)
      exact ⟨this.1.up ((Up.refl _).drew), this.2.up ((Up.refl _).drew)⟩
  case rest =>
    clear HN hs
    go_wp2_with (fail)
    refine (C.out _ hcut.out.1 hcut.out.2).mono ?_
    rintro e w1 ⟨rfl, hu1⟩
    have HQ : Hid (MS w0 w1 m (ps.take k ++ [q]) os) := hu1
    go_wp2_with (fail)
    go_end0
    exact ⟨rfl, HQ.out⟩

theorem MS.ns {w0 w : World} {m : Nat} {ps : List (Nat × Nat)} {os : List Int} (h : MS w0 w m ps os) {p : Nat × Nat} (hp : p ∈ ps) : NS w (nrmA (some ⟨p.1, 0, none⟩) p.2) (dig p.2).length p.2 := by
  obtain ⟨_, vS, vO, hM⟩ := h
  exact (hM.ent p hp).ns
theorem sum_lt {x y n : Nat} (hx : x < 256 ^ n) (hy : y < 256 ^ n) : x + y < 256 ^ (n + 4096) := by
  have h : 256 ^ n * 256 ^ 1 ≤ 256 ^ (n + 4096) := by
    rw [← Nat.pow_add]
    exact Nat.pow_le_pow_right (by decide) (by omega)
  omega
/-- A result of one's own, as an entry. -/
theorem Res.ent {w0 w w' : World} {m : Nat} {ps : List (Nat × Nat)} {os : List Int} (h : MS w0 w m ps os) {B v : Nat} {zs : List Nat} (hB : w.heap.size ≤ B) (hz : v ≠ 0 → Own w' B 5 (u8s zs) ∧ Digs zs ∧ bv zs = v) :
    EntOk w0.heap.size w' (B, v) ∧ ∀ p ∈ ps, ApartE p (B, v) := by
  obtain ⟨hU, vS, vO, hM⟩ := h
  exact ⟨fun hv => ⟨Nat.le_trans hU.size hB, zs, hz hv⟩, hM.fresh hB⟩
theorem map_putP {ps : List (Nat × Nat)} {vs : List Nat} (h : ps.map Prod.snd = vs) {k ct : Nat} (hk : ps.length = k + ct) (B v : Nat) : (ps.take k ++ [(B, v)]).map Prod.snd = putP vs ct v := by
  subst h
  unfold putP
  rw [List.map_append, List.map_take, List.length_map, hk, Nat.add_sub_cancel]
  rfl

set_option maxRecDepth 100000 in
theorem madd_any {w0 w : World} {m : Nat} {ps : List (Nat × Nat)} {os : List Int} {vs : List Nat} (h : MS w0 w m ps os) (hvs : ps.map Prod.snd = vs) (hl : ps.length ≤ 64) (ho : os.length ≤ 4096) (h2 : 2 ≤ ps.length) (p q : Nat × Nat) (hp : p ∈ ps) (hq : q ∈ ps) (dp : (dig p.2).length ≤ 4096) (dq : (dig q.2).length ≤ 4096) :
    Calls Tabg.prog 163 #[.pointer (some ⟨m, 0, none⟩), entC p, entC q] w fun e w' => e = .returned (.tuple #[]) ∧
      MV w0 w' m (if 1024 < (dig (p.2 + q.2)).length then vs else putP vs 2 (p.2 + q.2)) (if 1024 < (dig (p.2 + q.2)).length then os ++ [-2] else os) := by
  have np := h.ns hp
  have nq := h.ns hq
  have C1 : Hid (Calls Tabg.prog 69 #[entC p, entC q] w fun e w' => Res w w' e (p.2 + q.2)) := by
    have := add_any _ _ _ _ _ _ _ _ w np.1 nq.1 (Nat.le_refl _) (Nat.le_refl _) dp dq
    rw [bv_dig, bv_dig] at this
    exact this
  obtain ⟨A, L, eA⟩ : ∃ A L, entC p = .slice A L L := ⟨_, _, rfl⟩
  obtain ⟨A', L', eA'⟩ : ∃ A L, entC q = .slice A L L := ⟨_, _, rfl⟩
  rw [eA, eA'] at C1 ⊢
  have hds : (dig (p.2 + q.2)).length ≤ 8192 := by
    refine dig_length_le ?_
    have h1 := dig_ltN dp
    have h2 := dig_ltN dq
    exact sum_lt h1 h2
  generalize p.2 + q.2 = v at *
  clear np nq eA eA' dp dq hp hq
  have H : Hid (MS w0 w m ps os ∧ ps.map Prod.snd = vs) := ⟨h, hvs⟩
  clear h hvs
  by_cases hb : 1024 < (dig v).length
  · rw [if_pos hb, if_pos hb]
    go_enter Tabg.func163, Tabg.ntmps163
    go_wp2_with (fail)
    refine (C1.out).mono ?_
    rintro e w1 ⟨B, zs, rfl, hB, hu, hz⟩
    have HM1 : Hid (MS w0 w1 m ps os) := (H.out.1).up hu
    obtain ⟨he, hap⟩ := Res.ent H.out.1 hB hz
    have HE : Hid (EntOk w0.heap.size w1 (B, v) ∧ ∀ p ∈ ps, ApartE p (B, v)) := ⟨he, hap⟩
    clear he hap hz hB hu C1
    have C2 : Hid (Calls Tabg.prog 158 #[.pointer (some ⟨m, 0, none⟩), .int .i8 (-2)] w1 fun e w' => e = .returned (.tuple #[]) ∧ MS w0 w' m ps (os ++ [-2])) := put_any HM1.out ho (-2)
    generalize nrmA (some ⟨B, 0, none⟩) v = P at *
    generalize (dig v).length = LL at *
    have bI : (1024 : Int) < (LL : Int) := by omega
    go_wp2_with (fail)
    refine (C2.out).mono ?_
    rintro e w2 ⟨rfl, h2⟩
    have HQ : Hid (MS w0 w2 m ps (os ++ [-2])) := h2
    go_wp2_with (fail)
    refine bodyPost_ret (results_none rfl _ _ _) rfl ?_
    exact ⟨rfl, ps, H.out.2, HQ.out⟩
  · rw [if_neg hb, if_neg hb]
    go_enter Tabg.func163, Tabg.ntmps163
    go_wp2_with (fail)
    refine (C1.out).mono ?_
    rintro e w1 ⟨B, zs, rfl, hB, hu, hz⟩
    have HM1 : Hid (MS w0 w1 m ps os) := (H.out.1).up hu
    obtain ⟨he, hap⟩ := Res.ent H.out.1 hB hz
    have HE : Hid (EntOk w0.heap.size w1 (B, v) ∧ ∀ p ∈ ps, ApartE p (B, v)) := ⟨he, hap⟩
    clear he hap hz hB hu C1
    have C2 : Hid (Calls Tabg.prog 164 #[.pointer (some ⟨m, 0, none⟩), .int .i64 2, .slice (nrmA (some ⟨B, 0, none⟩) v) (dig v).length (dig v).length] w1 fun e w' => e = .returned (.tuple #[]) ∧ MS w0 w' m (ps.take (ps.length - 2) ++ [(B, v)]) os) := replace_any HM1.out hl (ps.length - 2) 2 (by omega) (B, v) HE.out.1 HE.out.2
    generalize nrmA (some ⟨B, 0, none⟩) v = P at *
    have bI : ((dig v).length : Int) ≤ 1024 := by omega
    have bD : decide ((1024 : Int) < ((dig v).length : Int)) = false := decide_eq_false (by omega)
    generalize (dig v).length = LL at *
    go_wp2_with (fail)
    refine (C2.out).mono ?_
    rintro e w2 ⟨rfl, h2⟩
    have HQ : Hid (MS w0 w2 m (ps.take (ps.length - 2) ++ [(B, v)]) os) := h2
    go_wp2_with (fail)
    go_end0
    exact ⟨rfl, _, map_putP H.out.2 (by omega) B v, HQ.out⟩

set_option maxRecDepth 100000 in
theorem mmul_any {w0 w : World} {m : Nat} {ps : List (Nat × Nat)} {os : List Int} {vs : List Nat} (h : MS w0 w m ps os) (hvs : ps.map Prod.snd = vs) (hl : ps.length ≤ 64) (ho : os.length ≤ 4096) (eng : Nat) (hen : eng < 4) (k ct : Nat) (hk : ps.length = k + ct) (p q : Nat × Nat) (hp : p ∈ ps) (hq : q ∈ ps) (dp : (dig p.2).length ≤ 4096) (dq : (dig q.2).length ≤ 4096) :
    Calls Tabg.prog 162 #[.pointer (some ⟨m, 0, none⟩), .int .u8 (eng : Int), .int .i64 ct, entC p, entC q] w fun e w' => e = .returned (.tuple #[]) ∧
      MV w0 w' m (if 512 < (dig p.2).length ∨ 512 < (dig q.2).length then vs else putP vs ct (p.2 * q.2)) (if 512 < (dig p.2).length ∨ 512 < (dig q.2).length then os ++ [-2] else os) := by
  have np := h.ns hp
  have nq := h.ns hq
  have C2 : Hid (Calls Tabg.prog 158 #[.pointer (some ⟨m, 0, none⟩), .int .i8 (-2)] w fun e w' => e = .returned (.tuple #[]) ∧ MS w0 w' m ps (os ++ [-2])) := put_any h ho (-2)
  have H : Hid (MS w0 w m ps os ∧ ps.map Prod.snd = vs) := ⟨h, hvs⟩
  by_cases hf : 512 < (dig p.2).length ∨ 512 < (dig q.2).length
  · rw [if_pos hf, if_pos hf]
    unfold entC
    generalize nrmA (some ⟨p.1, 0, none⟩) p.2 = P at *
    generalize nrmA (some ⟨q.1, 0, none⟩) q.2 = P' at *
    generalize (dig p.2).length = L at *
    generalize (dig q.2).length = L' at *
    clear np nq hp hq h hvs
    by_cases hf1 : 512 < L
    · have g : (512 : Int) < (L : Int) := by omega
      clear hf
      go_enter Tabg.func162, Tabg.ntmps162
      go_wp2_with (fail)
      refine (C2.out).mono ?_
      rintro e w2 ⟨rfl, h2⟩
      have HQ : Hid (MS w0 w2 m ps (os ++ [-2])) := h2
      go_wp2_with (fail)
      refine bodyPost_ret (results_none rfl _ _ _) rfl ?_
      exact ⟨rfl, ps, H.out.2, HQ.out⟩
    · have g : (512 : Int) < (L' : Int) := by omega
      have g1 : decide ((512 : Int) < (L : Int)) = false := decide_eq_false (by omega)
      have g2 : (L : Int) ≤ 512 := by omega
      clear hf
      go_enter Tabg.func162, Tabg.ntmps162
      go_wp2_with (fail)
      refine (C2.out).mono ?_
      rintro e w2 ⟨rfl, h2⟩
      have HQ : Hid (MS w0 w2 m ps (os ++ [-2])) := h2
      go_wp2_with (fail)
      refine bodyPost_ret (results_none rfl _ _ _) rfl ?_
      exact ⟨rfl, ps, H.out.2, HQ.out⟩
  · rw [if_neg hf, if_neg hf]
    clear C2
    have C1 : Hid (Calls Tabg.prog 175 #[.int .u8 (eng : Int), entC p, entC q] w fun e w' => ResOk w w' e (p.2 * q.2)) := by
      have := product_any eng hen _ _ _ _ _ _ w np.1 nq.1 (by omega) (by omega)
      rw [bv_dig, bv_dig] at this
      exact this
    have C2 : Hid (∀ w1 B zs, Up w w1 → w.heap.size ≤ B → (p.2 * q.2 ≠ 0 → Own w1 B 5 (u8s zs) ∧ Digs zs ∧ bv zs = p.2 * q.2) → Calls Tabg.prog 164 #[.pointer (some ⟨m, 0, none⟩), .int .i64 ct, .slice (nrmA (some ⟨B, 0, none⟩) (p.2 * q.2)) (dig (p.2 * q.2)).length (dig (p.2 * q.2)).length] w1 fun e w' => e = .returned (.tuple #[]) ∧ MS w0 w' m (ps.take k ++ [(B, p.2 * q.2)]) os) := by
      intro w1 B zs hu hB hz
      obtain ⟨he, hap⟩ := Res.ent h hB hz
      exact replace_any (h.up hu) hl k ct hk (B, p.2 * q.2) he hap
    unfold entC at C1 ⊢
    generalize p.2 * q.2 = v at *
    generalize nrmA (some ⟨p.1, 0, none⟩) p.2 = P at *
    generalize nrmA (some ⟨q.1, 0, none⟩) q.2 = P' at *
    generalize (dig p.2).length = L at *
    generalize (dig q.2).length = L' at *
    have g1 : decide ((512 : Int) < (L : Int)) = false := decide_eq_false (by omega)
    have g2 : (L : Int) ≤ 512 := by omega
    have g3 : decide ((512 : Int) < (L' : Int)) = false := decide_eq_false (by omega)
    have g4 : (L' : Int) ≤ 512 := by omega
    clear hf np nq hp hq h hvs
    go_enter Tabg.func162, Tabg.ntmps162
    go_wp2_with (fail)
    refine (C1.out).mono ?_
    rintro e w1 ⟨B, zs, rfl, hB, hu, hz⟩
    have C3 := C2.out w1 B zs hu hB hz
    generalize nrmA (some ⟨B, 0, none⟩) v = R at *
    generalize (dig v).length = LL at *
    have C3' : Hid (Calls Tabg.prog 164 #[.pointer (some ⟨m, 0, none⟩), .int .i64 ct, .slice R LL LL] w1 fun e w' => e = .returned (.tuple #[]) ∧ MS w0 w' m (ps.take k ++ [(B, v)]) os) := C3
    clear C1 C2 C3 hB hu hz
    go_wp2_with (fail)
    refine (C3'.out).mono ?_
    rintro e w2 ⟨rfl, h2⟩
    have HQ : Hid (MS w0 w2 m (ps.take k ++ [(B, v)]) os) := h2
    go_wp2_with (fail)
    go_end0
    exact ⟨rfl, _, map_putP H.out.2 hk B v, HQ.out⟩
end Go.Proofs.Ygctab
