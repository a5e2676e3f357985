/-
  A DISK BY VALUE, AS THE ROW HANDS IT IN.
-/
import Derived.Test.YgdacgOpen
import Derived.Test.YgdacgClone
import Derived.OpenShut
import Derived.SizedLaws
namespace Go.Proofs.Ygdacg
open Go.RowKit
set_option linter.unusedVariables false
set_option linter.unusedSimpArgs false

section
variable {H : Type} {enc : TypeId × Value → H} {w : World} {base : Nat} {spare : Nat → Bool} {held : Bool}
theorem cells61 : Yacd.prog.cellsOf 61 = 128 := by kernel_rfl
theorem cells76 : Yacd.prog.cellsOf 76 = 130 := by kernel_rfl
theorem cells39 : Yacd.prog.cellsOf 39 = 7 := by kernel_rfl
theorem cells34 : Yacd.prog.cellsOf 34 = 2 := by kernel_rfl
theorem cells37 : Yacd.prog.cellsOf 37 = 2 := by kernel_rfl
theorem cells33 : Yacd.prog.cellsOf 33 = 1 := by kernel_rfl
theorem cells35 : Yacd.prog.cellsOf 35 = 1 := by kernel_rfl
theorem bytes61 : Yacd.prog.bytesOf 61 = 128 := by kernel_rfl
theorem bytes76 : Yacd.prog.bytesOf 76 = 132 := by kernel_rfl

theorem page_is {n : Nat} {cs : List Value} {x : DataW H × List MemPlace} (h : DataW.trod enc Yacd.prog w base spare held n 61 cs = some x) : IsPg cs := by
  obtain ⟨xs, m, -, -, hl, hxl, hf⟩ := DataW.trod_array Yacd.underlying61 h
  rw [cells61] at hl
  refine ⟨hl, fun v hv => ?_⟩
  obtain ⟨i, hi, rfl⟩ := List.getElem_of_mem hv
  have g := hf i (by omega)
  rw [cells5, Nat.mul_one, List.drop_eq_getElem_cons hi, List.take_succ_cons, List.take_zero, List.getElem?_eq_getElem (by omega)] at g
  obtain ⟨k, e, -, -⟩ := DataW.trod_int Yacd.underlying5 g
  exact ⟨k, by simpa using e⟩
theorem cw_is {n : Nat} {cs : List Value} {x : DataW H × List MemPlace} (h : DataW.trod enc Yacd.prog w base spare held n 76 cs = some x) : ∃ e : Nat × Nat × List Value, cs = cwc e ∧ IsPg e.2.2 ∧ e.1 < 256 ∧ e.2.1 < 65536 := by
  obtain ⟨xs, k, hk, hxy, hl, hxl, hf⟩ := DataW.trod_struct Yacd.underlying76 h
  rw [cells76] at hl
  match xs, hxl, cs, hl with
  | [y0, y1, y2], _, v0 :: v1 :: r, hl =>
    have g0 := hf 0 _ rfl
    have g1 := hf 1 _ rfl
    have g2 := hf 2 _ rfl
    have hr : r.length = 128 := by simpa using hl
    simp [cells5, cells36, cells61] at g0 g1 g2
    obtain ⟨n0, e0, -, w0⟩ := DataW.trod_int Yacd.underlying5 g0
    obtain ⟨n1, e1, -, w1⟩ := DataW.trod_int Yacd.underlying36 g1
    rw [List.take_of_length_le (by omega)] at g2
    have hp := page_is g2
    have b0 : IntKind.u8.min ≤ n0 ∧ n0 ≤ IntKind.u8.max := by simpa [Lit.wf] using w0
    have b1 : IntKind.u16.min ≤ n1 ∧ n1 ≤ IntKind.u16.max := by simpa [Lit.wf] using w1
    have d1 : IntKind.u8.max = 255 := by rfl
    have d2 : IntKind.u16.max = 65535 := by rfl
    obtain ⟨m0, rfl⟩ := nat_of_wf w0 rfl
    obtain ⟨m1, rfl⟩ := nat_of_wf w1 rfl
    simp only [List.cons.injEq, and_true] at e0 e1
    exact ⟨(m0, m1, r), by rw [e0, e1]; rfl, hp, by show m0 < 256; omega, by show m1 < 65536; omega⟩

/-- A row of elements of sz cells each, out of the reading. -/
theorem src_row {t e : TypeId} {sz : Nat} {fuel len cap : Nat} {ao : Option Addr} {x : DataW H × List MemPlace} (ht : Yacd.prog.underlying t = some (.slice e)) (hce : Yacd.prog.cellsOf e = sz) (hsz : 0 < sz)
    (h : DataW.trod enc Yacd.prog w base spare held fuel t [.slice ao len cap] = some x) :
    ∃ L : List (List Value), (∀ p ∈ L, p.length = sz ∧ ∃ n y, DataW.trod enc Yacd.prog w base spare held n e p = some y) ∧ SrcRow w sz (.slice ao len cap) L.length L.flatten ∧
      ((x.1.weights Yacd.prog t).all (· ≤ reachBytes) = true → L.length * Yacd.prog.bytesOf e ≤ reachBytes) := by
  rcases Deep.open_slice ht h with ⟨h0, hx⟩ | ⟨a, l, c, m, n, Dd, Pl, hcs, hb, hl, hm, hmm, hxx, hx⟩
  · simp only [List.cons.injEq, Value.slice.injEq, and_true] at h0
    obtain ⟨rfl, rfl, rfl⟩ := h0
    exact ⟨[], fun p hp => by simp at hp, .inl ⟨rfl, rfl, rfl⟩, fun _ => by simp⟩
  · simp only [List.cons.injEq, Value.slice.injEq, and_true] at hcs
    obtain ⟨rfl, rfl, rfl⟩ := hcs
    have hlm : len ≤ m := by rw [hmm]; split <;> omega
    have each : ∀ i, i < len → ∃ cs : List Value, w.cells? base (a.add (i * sz)) sz = some cs ∧ ∃ n y, DataW.trod enc Yacd.prog w base spare held n e cs = some y := fun i hi => by
      obtain ⟨cs', g1, g2⟩ := hx i (by omega)
      rw [hce] at g1
      exact ⟨cs', g1, n, _, g2⟩
    obtain ⟨f, hf⟩ := Deep.choose_lt each
    obtain ⟨L, hlen, hL⟩ := list_of_fn len f
    have hall : ∀ p ∈ L, p.length = sz := fun p hp => by
      obtain ⟨i, hi, rfl⟩ := List.getElem_of_mem hp
      rw [hL i hi]
      exact (World.cells?_some (hf i (by omega)).1).2.1
    refine ⟨L, fun p hp => ⟨hall p hp, ?_⟩, .inr ⟨a, cap, by rw [hlen], by rw [hlen]; exact hl, hm, flat_len hall, fun j u hu => ?_⟩, fun hw => ?_⟩
    · obtain ⟨i, hi, rfl⟩ := List.getElem_of_mem hp
      rw [hL i hi]
      exact (hf i (by omega)).2
    · have hjl : j < L.flatten.length := (List.getElem?_eq_some_iff.1 hu).1
      rw [flat_len hall] at hjl
      have hi : j / sz < L.length := Nat.div_lt_of_lt_mul (by rw [Nat.mul_comm]; exact hjl)
      have hr : j % sz < sz := Nat.mod_lt _ hsz
      have hj : j / sz * sz + j % sz = j := by rw [Nat.mul_comm]; exact Nat.div_add_mod j sz
      have e1 := flat_get hall (j / sz) (j % sz) hi hr
      rw [hj, hu, hL _ hi] at e1
      obtain ⟨-, -, hc⟩ := World.cells?_some (hf (j / sz) (by omega)).1
      have e2 := hc (j % sz) hr
      rw [Deep.add_add, hj] at e2
      rw [e2, ← e1]
    · rw [hxx] at hw
      simp only [DataW.weights, ht, List.all_cons, Bool.and_eq_true, List.length_map, List.length_range, decide_eq_true_eq] at hw
      refine Nat.le_trans (Nat.mul_le_mul_right _ ?_) hw.1
      omega

theorem slice_is {t e : TypeId} {fuel : Nat} {v : Value} {x : DataW H × List MemPlace} (ht : Yacd.prog.underlying t = some (.slice e)) (h : DataW.trod enc Yacd.prog w base spare held fuel t [v] = some x) : ∃ ao len cap, v = .slice ao len cap := by
  rcases Deep.open_slice ht h with ⟨h0, -⟩ | ⟨a, l, c, m, n, Dd, Pl, hcs, -⟩
  · exact ⟨_, _, _, by simpa using h0⟩
  · exact ⟨_, _, _, by simpa using hcs⟩
theorem cws_of : ∀ (L : List (List Value)), (∀ p ∈ L, ∃ n y, DataW.trod enc Yacd.prog w base spare held n 76 p = some y) → ∃ c : List (Nat × Nat × List Value), L = c.map cwc ∧ ∀ e ∈ c, IsPg e.2.2 ∧ e.1 < 256 ∧ e.2.1 < 65536
  | [], _ => ⟨[], rfl, fun e he => by cases he⟩
  | p :: L, h => by
    obtain ⟨n, y, hy⟩ := h p (by simp)
    obtain ⟨e, he, hpe⟩ := cw_is hy
    obtain ⟨c, hc, hpc⟩ := cws_of L (fun q hq => h q (by simp [hq]))
    refine ⟨e :: c, by rw [hc, he]; rfl, fun x hx => ?_⟩
    rcases List.mem_cons.1 hx with rfl | hx
    · exact hpe
    · exact hpc x hx
theorem disk_of {fuel : Nat} {cs : List Value} {x : DataW H × List MemPlace} (h : DataW.trod enc Yacd.prog w base spare held fuel 39 cs = some x) :
    ∃ (sv : Nat → Value) (cv : Value) (D : DS), cs = [sv 0, sv 1, cv, .int .u16 (D.z 0), .int .u16 (D.z 1), .int .i64 D.at_, .int .i64 D.calls] ∧ DOK D ∧ (∀ f, f < 2 → SrcRow w 128 (sv f) (D.s f).length (D.s f).flatten) ∧
      SrcRow w 130 cv D.c.length (D.c.map cwc).flatten ∧ ((x.1.weights Yacd.prog 39).all (· ≤ reachBytes) = true → (∀ f, f < 2 → (D.s f).length * 128 ≤ 140737488355328) ∧ D.c.length * 132 ≤ 140737488355328) := by
  obtain ⟨xs, k, hk, hxy, hl, hxl, hf⟩ := DataW.trod_struct Yacd.underlying39 h
  rw [cells39] at hl
  match xs, hxl, cs, hl with
  | [y0, y1, y2, y3, y4], _, [v0, v1, v2, v3, v4, v5, v6], _ =>
    have g0 := hf 0 _ rfl
    have g1 := hf 1 _ rfl
    have g2 := hf 2 _ rfl
    have g3 := hf 3 _ rfl
    have g4 := hf 4 _ rfl
    simp [cells34, cells35, cells37, cells3] at g0 g1 g2 g3 g4
    obtain ⟨za, ka, -, hya, -, hza, fa⟩ := DataW.trod_array Yacd.underlying34 g0
    obtain ⟨zb, kb, -, -, -, hzb, fb⟩ := DataW.trod_array Yacd.underlying37 g2
    match za, hza, zb, hzb with
    | [a0, a1], _, [b0, b1], _ =>
      have r0 := fa 0 (by omega)
      have r1 := fa 1 (by omega)
      have r3 := fb 0 (by omega)
      have r4 := fb 1 (by omega)
      simp [cells33, cells36] at r0 r1 r3 r4
      obtain ⟨o0, l0, p0, rfl⟩ := slice_is Yacd.underlying33 r0
      obtain ⟨o1, l1, p1, rfl⟩ := slice_is Yacd.underlying33 r1
      obtain ⟨o2, l2, p2, rfl⟩ := slice_is Yacd.underlying35 g1
      obtain ⟨n3, e3, -, w3⟩ := DataW.trod_int Yacd.underlying36 r3
      obtain ⟨n4, e4, -, w4⟩ := DataW.trod_int Yacd.underlying36 r4
      obtain ⟨n5, e5, -, w5⟩ := DataW.trod_int Yacd.underlying3 g3
      obtain ⟨n6, e6, -, w6⟩ := DataW.trod_int Yacd.underlying3 g4
      obtain ⟨L0, hL0, s0, c0⟩ := src_row Yacd.underlying33 cells61 (by omega) r0
      obtain ⟨L1, hL1, s1, c1⟩ := src_row Yacd.underlying33 cells61 (by omega) r1
      obtain ⟨L2, hL2, s2, c2⟩ := src_row Yacd.underlying35 cells76 (by omega) g1
      obtain ⟨c, rfl, hc⟩ := cws_of L2 (fun p hp => (hL2 p hp).2)
      have b3 : IntKind.u16.min ≤ n3 ∧ n3 ≤ IntKind.u16.max := by simpa [Lit.wf] using w3
      have b4 : IntKind.u16.min ≤ n4 ∧ n4 ≤ IntKind.u16.max := by simpa [Lit.wf] using w4
      have b5 : IntKind.i64.min ≤ n5 ∧ n5 ≤ IntKind.i64.max := by simpa [Lit.wf] using w5
      have b6 : IntKind.i64.min ≤ n6 ∧ n6 ≤ IntKind.i64.max := by simpa [Lit.wf] using w6
      have d2 : IntKind.u16.max = 65535 := by rfl
      have d3 : IntKind.i64.min = -9223372036854775808 := by rfl
      have d4 : IntKind.i64.max = 9223372036854775807 := by rfl
      obtain ⟨m3, rfl⟩ := nat_of_wf w3 rfl
      obtain ⟨m4, rfl⟩ := nat_of_wf w4 rfl
      simp only [List.cons.injEq, and_true] at e3 e4 e5 e6
      refine ⟨fun f => if f = 0 then .slice o0 l0 p0 else .slice o1 l1 p1, .slice o2 l2 p2, { s := fun f => if f = 0 then L0 else L1, c := c, z := fun f => if f = 0 then m3 else m4, at_ := n5, calls := n6 }, ?_, ⟨fun f hf p hp => ?_, hc, fun f hf => ?_, by show n5 ≤ _; omega, by show _ ≤ n5; omega, by show n6 ≤ _; omega, by show _ ≤ n6; omega⟩, fun f hf => ?_, by simpa using s2, fun hw => ?_⟩
      · rw [e3, e4, e5, e6]
        rfl
      · have hp' : p ∈ if f = 0 then L0 else L1 := hp
        split at hp'
        · obtain ⟨n, y, hy⟩ := (hL0 p hp').2
          exact page_is hy
        · obtain ⟨n, y, hy⟩ := (hL1 p hp').2
          exact page_is hy
      · show (if f = 0 then m3 else m4) < 65536
        split <;> omega
      · by_cases h0 : f = 0
        · simpa [h0] using s0
        · simpa [h0] using s1
      · rw [hxy] at hw
        have e7 : y0.1 = .agg [a0.1, a1.1] := by rw [hya]; rfl
        simp only [DataW.weights, DataW.weightsEach, DataW.weightsAll, Yacd.underlying39, List.map_cons, List.map_nil, e7, Yacd.underlying34, List.all_append, Bool.and_eq_true] at hw
        have x0 := c0 hw.1.1
        have x1 := c1 hw.1.2.1
        have x2 := c2 hw.2.1
        rw [bytes61] at x0 x1
        rw [bytes76] at x2
        simp only [List.length_map] at x2
        have hrb : reachBytes = 140737488351232 := by rfl
        refine ⟨fun f hf => ?_, by show c.length * 132 ≤ _; omega⟩
        show (if f = 0 then L0 else L1).length * 128 ≤ _
        split <;> omega
end
end Go.Proofs.Ygdacg
