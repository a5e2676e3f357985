/-
  THE SCRIPT AND THE PLANS AS THEY CAME IN; planAt, cut.
-/
import Derived.Test.YgdacgBlocks
namespace Go.Proofs.Ygdacg
open Go.RowKit
set_option linter.unusedVariables false
set_option linter.unusedSimpArgs false

/-- The plans: each two cells, in a block below B. -/
def Plans (w : World) (B : Nat) (pv : Value) (ps : List (Int × Int)) : Prop :=
  ∃ ao c, pv = .slice ao ps.length c ∧ ps.length ≤ maxLen ∧ ∀ j (h : j < ps.length), ∃ b off, ao = some ⟨b, off, none⟩ ∧ b < B ∧ w.cell? ⟨b, off + j * 2, none⟩ = some (.int .i64 ps[j].1) ∧ w.cell? ⟨b, off + j * 2 + 1, none⟩ = some (.int .u64 ps[j].2)
theorem Plans.keep {w w' : World} {B : Nat} {pv : Value} {ps : List (Int × Int)} {F : Nat → Prop} (h : Plans w B pv ps) (hk : Keep F w w') (hF : ∀ k, F k → B ≤ k) : Plans w' B pv ps := by
  obtain ⟨ao, c, h1, h2, h3⟩ := h
  refine ⟨ao, c, h1, h2, fun j hj => ?_⟩
  obtain ⟨b, off, g1, g2, g3, g4⟩ := h3 j hj
  exact ⟨b, off, g1, g2, hk.cell g3 (fun hf => by have := hF b hf; omega), hk.cell g4 (fun hf => by have := hF b hf; omega)⟩
/-- Plan number j. -/
def planL (ps : List (Int × Int)) (j : Nat) : Int × Int := (ps[j]?).getD (0, 0)

set_option maxHeartbeats 400000 in
theorem planAt_any (w : World) (B : Nat) (pv : Value) (ps : List (Int × Int)) (h : Plans w B pv ps) (j : Int) (hj : 0 ≤ j) :
    Calls Yacd.prog 15 #[pv, .int .i64 j] w fun e w' => e = .returned (.agg #[.int .i64 (planL ps j.toNat).1, .int .u64 (planL ps j.toNat).2]) ∧ Keep Non w w' := by
  obtain ⟨ao, c, rfl, hm, hc⟩ := h
  by_cases hlt : j.toNat < ps.length
  · obtain ⟨b, off, rfl, hb, g1, g2⟩ := hc _ hlt
    have e : planL ps j.toNat = ps[j.toNat] := by simp [planL, hlt]
    rw [e]
    generalize ps[j.toNat] = q at *
    have hlt' : j < (ps.length : Int) := by omega
    have hbl : b < w.heap.size := World.block_lt_of_cell? w _ g1
    clear hc e
    go_enter Yacd.func15, Yacd.ntmps15
    go_wp2
    exact bodyPost_ret (v := .agg #[.int .i64 q.1, .int .u64 q.2]) (by simp [results, Yacd.results15, go_sem]) rfl ⟨rfl, by repeat (first | exact Keep.refl _ _ | refine Keep.alloc ?_ _ | (refine Keep.setCell ?_ _ (.inr (Nat.le_refl _))))⟩
  · have e : planL ps j.toNat = (0, 0) := by simp [planL, hlt]
    rw [e]
    have hlt' : decide (j < (ps.length : Int)) = false := decide_eq_false (by omega)
    clear hc e
    go_enter Yacd.func15, Yacd.ntmps15
    go_wp2
    exact bodyPost_ret (v := .agg #[.int .i64 0, .int .u64 0]) (by simp [results, Yacd.results15, go_sem]) rfl ⟨rfl, by repeat (first | exact Keep.refl _ _ | refine Keep.alloc ?_ _ | (refine Keep.setCell ?_ _ (.inr (Nat.le_refl _))))⟩

/-- The script: each step four cells, in a block below B. -/
def Script (w : World) (B : Nat) (ov : Value) (os : List (Nat × Nat × Nat × Nat)) : Prop :=
  ∃ ao c, ov = .slice ao os.length c ∧ os.length ≤ c ∧ c ≤ maxLen ∧ ∀ j (h : j < os.length), ∃ b off, ao = some ⟨b, off, none⟩ ∧ b < B ∧
    w.cell? ⟨b, off + j * 4, none⟩ = some (.int .u8 os[j].1) ∧ w.cell? ⟨b, off + j * 4 + 1, none⟩ = some (.int .u8 os[j].2.1) ∧
    w.cell? ⟨b, off + j * 4 + 2, none⟩ = some (.int .u16 os[j].2.2.1) ∧ w.cell? ⟨b, off + j * 4 + 3, none⟩ = some (.int .u8 os[j].2.2.2)
theorem Script.keep {w w' : World} {B : Nat} {ov : Value} {os : List (Nat × Nat × Nat × Nat)} {F : Nat → Prop} (h : Script w B ov os) (hk : Keep F w w') (hF : ∀ k, F k → B ≤ k) : Script w' B ov os := by
  obtain ⟨ao, c, h1, h2, h2', h3⟩ := h
  refine ⟨ao, c, h1, h2, h2', fun j hj => ?_⟩
  obtain ⟨b, off, g1, g2, g3, g4, g5, g6⟩ := h3 j hj
  have hn : ¬ F b := fun hf => by have := hF b hf; omega
  exact ⟨b, off, g1, g2, hk.cell g3 hn, hk.cell g4 hn, hk.cell g5 hn, hk.cell g6 hn⟩

set_option maxHeartbeats 400000 in
theorem cut_any (w : World) (B : Nat) (ov : Value) (os : List (Nat × Nat × Nat × Nat)) (h : Script w B ov os) :
    Calls Yacd.prog 14 #[ov] w fun e w' => ∃ v, e = .returned v ∧ Script w B v (os.take 64) ∧ w' = w := by
  obtain ⟨ao, c, rfl, hle, hm, hc⟩ := h
  by_cases h64 : 64 < os.length
  · have h1 : (64 : Int) < (os.length : Int) := by omega
    have h2 : (64 : Int) ≤ (c : Int) := by omega
    obtain ⟨b, off, rfl, hb, -⟩ := hc 0 (by omega)
    have fin : Script w B (.slice (some ⟨b, off, none⟩) 64 64) (os.take 64) := by
      have hl : (os.take 64).length = 64 := by rw [List.length_take]; omega
      refine ⟨some ⟨b, off, none⟩, 64, by rw [hl], by omega, by simp only [maxLen]; omega, fun j hj => ?_⟩
      rw [List.getElem_take]
      exact hc j (by omega)
    clear hc
    go_enter Yacd.func14, Yacd.ntmps14
    go_wp2
    go_ret
    exact ⟨_, rfl, fin, rfl⟩
  · have h1 : ¬ (64 : Int) < (os.length : Int) := by omega
    have h2 : (os.length : Int) ≤ (c : Int) := by omega
    have fin : Script w B (.slice ao os.length os.length) (os.take 64) := by
      rw [List.take_of_length_le (by omega)]
      exact ⟨ao, os.length, rfl, Nat.le_refl _, by omega, hc⟩
    clear hc
    go_enter Yacd.func14, Yacd.ntmps14
    go_wp2
    go_ret
    exact ⟨_, rfl, fin, rfl⟩
end Go.Proofs.Ygdacg
