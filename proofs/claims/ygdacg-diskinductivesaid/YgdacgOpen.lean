/-
  THE SCRIPT AND THE PLANS, AS THE ROW HANDS THEM IN.
-/
import Derived.Test.YgdacgArgs
import Derived.Deep.Slices
namespace Go.Proofs.Ygdacg
open Go.RowKit
set_option linter.unusedVariables false
set_option linter.unusedSimpArgs false

theorem spot_none {w : World} {a : Addr} {v : Value} (h : w.cell? a = some v) : a.spot = none := by
  unfold World.cell? at h
  split at h
  · cases hs : a.spot with
    | none => rfl
    | some s => simp [hs] at h
  · cases h
theorem add_none {a : Addr} (h : a.spot = none) (n : Nat) : a.add n = ⟨a.block, a.off + n, none⟩ := by
  obtain ⟨b, o, s⟩ := a
  simp only at h
  subst h
  unfold Addr.add
  split
  · rename_i h0
    subst h0
    rfl
  · rfl
theorem nat_of_wf {k : IntKind} {n : Int} (h : (Lit.int k n).wf = true) (hk : k.min = 0) : ∃ m : Nat, n = m := by
  have : 0 ≤ n := by
    have h1 : k.min ≤ n ∧ n ≤ k.max := by simpa [Lit.wf] using h
    omega
  exact ⟨n.toNat, by omega⟩

section
variable {H : Type} {enc : TypeId × Value → H} {w : World} {base : Nat} {spare : Nat → Bool} {held : Bool}
theorem cells52 : Yacd.prog.cellsOf 52 = 4 := by kernel_rfl
theorem cells54 : Yacd.prog.cellsOf 54 = 2 := by kernel_rfl
theorem cells5 : Yacd.prog.cellsOf 5 = 1 := by kernel_rfl
theorem cells36 : Yacd.prog.cellsOf 36 = 1 := by kernel_rfl
theorem cells3 : Yacd.prog.cellsOf 3 = 1 := by kernel_rfl
theorem cells44 : Yacd.prog.cellsOf 44 = 1 := by kernel_rfl

theorem step_cells {n : Nat} {a : Addr} {cs : List Value} {x : DataW H × List MemPlace} (h1 : w.cells? base a 4 = some cs) (h2 : DataW.trod enc Yacd.prog w base spare held n 52 cs = some x) :
    ∃ q : Nat × Nat × Nat × Nat, cs = [.int .u8 q.1, .int .u8 q.2.1, .int .u16 q.2.2.1, .int .u8 q.2.2.2] := by
  obtain ⟨xs, k, hk, hxy, hl, hxl, hf⟩ := DataW.trod_struct Yacd.underlying52 h2
  rw [cells52] at hl
  match xs, hxl, cs, hl with
  | [y0, y1, y2, y3], _, [v0, v1, v2, v3], _ =>
    have g0 := hf 0 _ rfl
    have g1 := hf 1 _ rfl
    have g2 := hf 2 _ rfl
    have g3 := hf 3 _ rfl
    simp [cells5, cells36] at g0 g1 g2 g3
    obtain ⟨n0, e0, -, w0⟩ := DataW.trod_int Yacd.underlying5 g0
    obtain ⟨n1, e1, -, w1⟩ := DataW.trod_int Yacd.underlying5 g1
    obtain ⟨n2, e2, -, w2⟩ := DataW.trod_int Yacd.underlying36 g2
    obtain ⟨n3, e3, -, w3⟩ := DataW.trod_int Yacd.underlying5 g3
    obtain ⟨m0, rfl⟩ := nat_of_wf w0 rfl
    obtain ⟨m1, rfl⟩ := nat_of_wf w1 rfl
    obtain ⟨m2, rfl⟩ := nat_of_wf w2 rfl
    obtain ⟨m3, rfl⟩ := nat_of_wf w3 rfl
    simp only [List.cons.injEq, and_true] at e0 e1 e2 e3
    exact ⟨(m0, m1, m2, m3), by rw [e0, e1, e2, e3]⟩
theorem plan_cells {n : Nat} {a : Addr} {cs : List Value} {x : DataW H × List MemPlace} (h1 : w.cells? base a 2 = some cs) (h2 : DataW.trod enc Yacd.prog w base spare held n 54 cs = some x) :
    ∃ q : Int × Int, cs = [.int .i64 q.1, .int .u64 q.2] ∧ (Lit.int .i64 q.1).wf = true ∧ (Lit.int .u64 q.2).wf = true := by
  obtain ⟨xs, k, hk, hxy, hl, hxl, hf⟩ := DataW.trod_struct Yacd.underlying54 h2
  rw [cells54] at hl
  match xs, hxl, cs, hl with
  | [y0, y1], _, [v0, v1], _ =>
    have g0 := hf 0 _ rfl
    have g1 := hf 1 _ rfl
    simp [cells3, cells44] at g0 g1
    obtain ⟨n0, e0, -, w0⟩ := DataW.trod_int Yacd.underlying3 g0
    obtain ⟨n1, e1, -, w1⟩ := DataW.trod_int Yacd.underlying44 g1
    simp only [List.cons.injEq, and_true] at e0 e1
    exact ⟨(n0, n1), by rw [e0, e1], w0, w1⟩
theorem list_of_fn {α : Type} [Inhabited α] (n : Nat) (f : Nat → α) : ∃ l : List α, l.length = n ∧ ∀ i (h : i < l.length), l[i] = f i :=
  ⟨(List.range n).map f, by simp, fun i h => by simp⟩

theorem script_of {fuel len cap : Nat} {ao : Option Addr} {x : DataW H × List MemPlace} (h : DataW.trod enc Yacd.prog w base spare held fuel 22 [.slice ao len cap] = some x) :
    ∃ os, Script w w.heap.size (.slice ao len cap) os := by
  rcases Deep.open_slice Yacd.underlying22 h with ⟨h0, -⟩ | ⟨a, l, c, m, n, Dd, Pl, hcs, hb, hl, hm, hmm, -, hx⟩
  · simp only [List.cons.injEq, Value.slice.injEq, and_true] at h0
    obtain ⟨rfl, rfl, rfl⟩ := h0
    exact ⟨[], none, 0, rfl, Nat.le_refl _, Nat.zero_le _, fun j hj => by simp at hj⟩
  · simp only [List.cons.injEq, Value.slice.injEq, and_true] at hcs
    obtain ⟨rfl, rfl, rfl⟩ := hcs
    have hlm : len ≤ m := by rw [hmm]; split <;> omega
    have each : ∀ i, i < len → ∃ q : Nat × Nat × Nat × Nat, w.cells? base (a.add (i * 4)) 4 = some [.int .u8 q.1, .int .u8 q.2.1, .int .u16 q.2.2.1, .int .u8 q.2.2.2] := fun i hi => by
      obtain ⟨cs', g1, g2⟩ := hx i (by omega)
      rw [cells52] at g1
      obtain ⟨q, rfl⟩ := step_cells g1 g2
      exact ⟨q, g1⟩
    obtain ⟨f, hf⟩ := Deep.choose_lt each
    obtain ⟨os, hlen, hos⟩ := list_of_fn len f
    refine ⟨os, some a, cap, by rw [hlen], by rw [hlen]; exact hl, hm, fun j hj => ?_⟩
    have hsp : a.spot = none := by
      obtain ⟨-, -, hc⟩ := World.cells?_some (hf 0 (by omega))
      have := hc 0 (by omega)
      simp only [Nat.zero_mul] at this
      exact spot_none (a := a) (by simpa [Addr.add] using this)
    obtain ⟨-, -, hc⟩ := World.cells?_some (hf j (by omega))
    have hj4 : (a.add (j * 4)) = ⟨a.block, a.off + j * 4, none⟩ := add_none hsp _
    rw [hj4] at hc
    have c0 := hc 0 (by omega)
    have c1 := hc 1 (by omega)
    have c2 := hc 2 (by omega)
    have c3 := hc 3 (by omega)
    rw [add_none rfl] at c0 c1 c2 c3
    refine ⟨a.block, a.off, by rw [← hsp], ?_, ?_⟩
    · exact World.block_lt_of_cell? w ⟨a.block, a.off + j * 4, none⟩ c0
    · rw [hos j hj]
      exact ⟨c0, c1, c2, c3⟩
theorem plans_of {fuel len cap : Nat} {ao : Option Addr} {x : DataW H × List MemPlace} (h : DataW.trod enc Yacd.prog w base spare held fuel 23 [.slice ao len cap] = some x) :
    ∃ ps, Plans w w.heap.size (.slice ao len cap) ps ∧ ∀ j, (planL ps j).1 ≤ 9223372036854775807 ∧ -9223372036854775808 ≤ (planL ps j).1 ∧ 0 ≤ (planL ps j).2 ∧ (planL ps j).2 ≤ 18446744073709551615 := by
  rcases Deep.open_slice Yacd.underlying23 h with ⟨h0, -⟩ | ⟨a, l, c, m, n, Dd, Pl, hcs, hb, hl, hm, hmm, -, hx⟩
  · simp only [List.cons.injEq, Value.slice.injEq, and_true] at h0
    obtain ⟨rfl, rfl, rfl⟩ := h0
    exact ⟨[], ⟨none, 0, rfl, Nat.zero_le _, fun j hj => by simp at hj⟩, fun j => by simp [planL]⟩
  · simp only [List.cons.injEq, Value.slice.injEq, and_true] at hcs
    obtain ⟨rfl, rfl, rfl⟩ := hcs
    have hlm : len ≤ m := by rw [hmm]; split <;> omega
    have each : ∀ i, i < len → ∃ q : Int × Int, w.cells? base (a.add (i * 2)) 2 = some [.int .i64 q.1, .int .u64 q.2] ∧ (Lit.int .i64 q.1).wf = true ∧ (Lit.int .u64 q.2).wf = true := fun i hi => by
      obtain ⟨cs', g1, g2⟩ := hx i (by omega)
      rw [cells54] at g1
      obtain ⟨q, rfl, hq⟩ := plan_cells g1 g2
      exact ⟨q, g1, hq⟩
    obtain ⟨f, hf⟩ := Deep.choose_lt each
    obtain ⟨ps, hlen, hps⟩ := list_of_fn len f
    refine ⟨ps, ⟨some a, cap, by rw [hlen], by rw [hlen]; omega, fun j hj => ?_⟩, fun j => ?_⟩
    · have hsp : a.spot = none := by
        obtain ⟨-, -, hc⟩ := World.cells?_some (hf 0 (by omega)).1
        have := hc 0 (by omega)
        simp only [Nat.zero_mul] at this
        exact spot_none (a := a) (by simpa [Addr.add] using this)
      obtain ⟨-, -, hc⟩ := World.cells?_some (hf j (by omega)).1
      have hj4 : (a.add (j * 2)) = ⟨a.block, a.off + j * 2, none⟩ := add_none hsp _
      rw [hj4] at hc
      have c0 := hc 0 (by omega)
      have c1 := hc 1 (by omega)
      rw [add_none rfl] at c0 c1
      refine ⟨a.block, a.off, by rw [← hsp], ?_, ?_⟩
      · exact World.block_lt_of_cell? w ⟨a.block, a.off + j * 2, none⟩ c0
      · rw [hps j hj]
        exact ⟨c0, c1⟩
    · unfold planL
      by_cases hj : j < ps.length
      · rw [List.getElem?_eq_getElem hj, Option.getD_some, hps j hj]
        obtain ⟨-, h1, h2⟩ := hf j (by omega)
        have g1 : IntKind.i64.min ≤ (f j).1 ∧ (f j).1 ≤ IntKind.i64.max := by simpa [Lit.wf] using h1
        have g2 : IntKind.u64.min ≤ (f j).2 ∧ (f j).2 ≤ IntKind.u64.max := by simpa [Lit.wf] using h2
        have e1 : IntKind.i64.min = -9223372036854775808 := by rfl
        have e2 : IntKind.i64.max = 9223372036854775807 := by rfl
        have e3 : IntKind.u64.min = 0 := by rfl
        have e4 : IntKind.u64.max = 18446744073709551615 := by rfl
        omega
      · rw [List.getElem?_eq_none (by omega)]
        simp
end
end Go.Proofs.Ygdacg
