/-
  THE OPERATIONS ON PAGES AND ON WRITES, AS ONE STEP EACH: a long array is never opened cell by cell.
-/
import Derived.Test.YgdacgBase
namespace Go.Proofs.Ygdacg
open Go.RowKit
set_option linter.unusedVariables false
set_option linter.unusedSimpArgs false

/-! ### fill, build, buildSlice -/
theorem foldl_put (off : Nat) : ∀ (v : List Value) (k : Nat) (cells : List Value), off + k + v.length ≤ cells.length →
    (v.zipIdx k).foldl (fun (cs : Array Value) (x : Value × Nat) => cs.setIfInBounds (off + x.2) x.1) cells.toArray = (cells.take (off + k) ++ v ++ cells.drop (off + k + v.length)).toArray
  | [], k, cells, _ => by simp
  | x :: v, k, cells, h => by
    simp only [List.length_cons] at h
    rw [List.zipIdx_cons, List.foldl_cons, List.setIfInBounds_toArray, foldl_put off v (k + 1) _ (by simp only [List.length_set]; omega)]
    congr 1
    apply List.ext_getElem?
    intro j
    simp only [List.getElem?_append, List.getElem?_take, List.getElem?_drop, List.getElem?_set, List.length_append, List.length_take, List.length_set, List.length_cons]
    by_cases h1 : j < off + k
    · simp [show j < off + (k + 1) by omega, show j < min (off + (k + 1)) cells.length + v.length by omega, show j < min (off + (k + 1)) cells.length by omega, show j < min (off + k) cells.length by omega, show j < min (off + k) cells.length + (v.length + 1) by omega, h1, show off + k ≠ j by omega]
    · by_cases h2 : j = off + k
      · subst h2
        simp [show off + k < off + (k + 1) by omega, show off + k < min (off + (k + 1)) cells.length + v.length by omega, show off + k < min (off + (k + 1)) cells.length by omega, show ¬ off + k < min (off + k) cells.length by omega, show off + k < min (off + k) cells.length + (v.length + 1) by omega, show off + k < cells.length by omega, show off + k - min (off + k) cells.length = 0 by omega]
      · by_cases h3 : j < off + k + 1 + v.length
        · have e1 : min (off + (k + 1)) cells.length = off + k + 1 := by omega
          have e2 : min (off + k) cells.length = off + k := by omega
          have e3 : j - (off + k) = (j - (off + k + 1)) + 1 := by omega
          simp only [e1, e2]
          rw [if_pos (by omega), if_neg (by omega), if_pos (by omega), if_neg (by omega), e3, List.getElem?_cons_succ]
        · have e1 : min (off + (k + 1)) cells.length = off + k + 1 := by omega
          have e2 : min (off + k) cells.length = off + k := by omega
          simp only [e1, e2]
          rw [if_neg (by omega), if_neg (by omega), if_neg (by omega)]
          congr 1
          omega

theorem fill_cons {place : Nat → Option (Nat × Nat)} {i off size : Nat} {v : Value} {rest : List (Nat × Value)} {cells : List Value} (hp : place i = some (off, size)) (hs : v.cells.size = size) (hfit : off + size ≤ cells.length) :
    Instr.fill place cells.toArray ((i, v) :: rest) = Instr.fill place (cells.take off ++ v.cells.toList ++ cells.drop (off + size)).toArray rest := by
  subst hs
  have hb : (decide (v.cells.size ≠ v.cells.size) || decide (off + v.cells.size > cells.toArray.size)) = false := by simp; omega
  have key := foldl_put off v.cells.toList 0 cells (by simpa using hfit)
  simp only [Nat.add_zero, Array.length_toList] at key
  rw [← key]
  simp only [Instr.fill, hp]
  rw [hb]
  simp only [Bool.false_eq_true, if_false]
  rw [← Array.foldl_toList, Array.toList_zipIdx]
theorem fill_nil (place : Nat → Option (Nat × Nat)) (cells : Array Value) : Instr.fill place cells [] = some cells := rfl

theorem run_build61 (w : World) : (Instr.build 61 #[]).run Yacd.prog w = .ok (.agg zpg.toArray) w := by
  simp [Instr.build, zero61, Value.cells, Instr.fill]

theorem run_build76 (w : World) (f p : Nat) (pg : List Value) (h : IsPg pg) :
    (Instr.build 76 #[(0, .int .u8 f), (1, .int .u16 p), (2, .agg pg.toArray)]).run Yacd.prog w = .ok (.agg (cwc (f, p, pg)).toArray) w := by
  have e : ∀ place : Nat → Option (Nat × Nat), place 0 = some (0, 1) → place 1 = some (1, 1) → place 2 = some (2, 128) →
      Instr.fill place (cwc (0, 0, zpg)).toArray [(0, .int .u8 f), (1, .int .u16 p), (2, .agg pg.toArray)] = some (cwc (f, p, pg)).toArray := by
    intro place h0 h1 h2
    have hz := zpg_is.len
    rw [fill_cons h0 rfl (by simp [cwc]), fill_cons h1 rfl (by simp [cwc, Value.cells, hz]), fill_cons h2 (by simp [Value.cells, h.len]) (by simp [cwc, Value.cells, hz]), fill_nil]
    simp [cwc, Value.cells, hz]
  simp [Instr.build, zero76, Value.cells, e]

theorem run_build82 (w : World) (f p : Nat) (pg : List Value) (h : IsPg pg) :
    (Instr.build 82 #[(0, .int .u8 f), (1, .int .u16 p), (2, .agg pg.toArray)]).run Yacd.prog w = .ok (.agg (mwc (f, p, pg, false)).toArray) w := by
  have e : ∀ place : Nat → Option (Nat × Nat), place 0 = some (0, 1) → place 1 = some (1, 1) → place 2 = some (2, 128) →
      Instr.fill place (mwc (0, 0, zpg, false)).toArray [(0, .int .u8 f), (1, .int .u16 p), (2, .agg pg.toArray)] = some (mwc (f, p, pg, false)).toArray := by
    intro place h0 h1 h2
    have hz := zpg_is.len
    rw [fill_cons h0 rfl (by simp [mwc]), fill_cons h1 rfl (by simp [mwc, Value.cells, hz]), fill_cons h2 (by simp [Value.cells, h.len]) (by simp [mwc, Value.cells, hz]), fill_nil]
    simp [mwc, Value.cells, hz, List.drop_append]
  simp [Instr.build, zero82, Value.cells, e]

theorem run_buildSlice1 {P : Program} (w : World) (t e : TypeId) {z : Value} {size bytes : Nat} (ht : P.underlying t = some (.slice e)) (hinfo : (P.info? e).map (fun i => (i.zero, i.size, i.bytes)) = some (some z, size, bytes))
    (hsz : 0 < size) (hsm : size ≤ 16777216) (cs : List Value) (hl : cs.length = size) :
    (Instr.buildSlice t 1 #[(0, .agg cs.toArray)]).run P w = .ok (.slice (some ⟨w.heap.size, 0, none⟩) 1 1) (w.alloc (.cells cs.toArray e)) := by
  obtain ⟨i, hi, hz, hsize, hby⟩ := info_parts hinfo
  have e1 : ∀ cells : List Value, cells.length = size → Instr.fill (fun i => some (i * size, size)) cells.toArray [(0, .agg cs.toArray)] = some cs.toArray := by
    intro cells hc
    rw [fill_cons (off := 0) (size := size) (by simp) (by simp [Value.cells, hl]) (by omega), fill_nil]
    simp [Value.cells, ← hc]
  have e2 : Instr.fill (fun i => some (i * size, size)) ((Array.range (1 * size)).map (z.cells[· % z.cells.size]!)) [(0, .agg cs.toArray)] = some cs.toArray := by
    have := e1 ((Array.range (1 * size)).map (z.cells[· % z.cells.size]!)).toList (by simp)
    rwa [Array.toArray_toList] at this
  have hn : ¬ (16777216 < size) := by omega
  have h0 : size ≠ 0 := by omega
  simp only [Nat.one_mul] at e2
  simp [Instr.buildSlice, run_underlying ht, sizeOf, typeInfo, hi, hsize, hn, h0, zeroValue, hz, e2, newRow]

/-! ### Steps of a plain region's list -/
section
variable {ops : Array Oper} {rest : List Oper} {o : Oper} {a : Act} {w : World} {Q : Exit → Act → World → Prop}
theorem wl_load61 (hgd : o.guard = none) (x : Operand) (ho : o.op = .load 61 x) (b off : Nat) (hx : a.eval x = .pointer (some ⟨b, off, none⟩)) (cs : List Value) (hl : cs.length = 128) (hc : w.rangeAt b off cs)
    (h : wpList Yacd.prog ops Q rest (a.put o.dst (.agg cs.toArray)) w) : wpList Yacd.prog ops Q (o :: rest) a w :=
  wpList_load_mid hgd 61 x ho b off hx cs (.array 128 5) hc Yacd.underlying61 rfl (by rw [hl]; exact size61) h
theorem wl_load76 (hgd : o.guard = none) (x : Operand) (ho : o.op = .load 76 x) (b off : Nat) (hx : a.eval x = .pointer (some ⟨b, off, none⟩)) (cs : List Value) (hl : cs.length = 130) (hc : w.rangeAt b off cs)
    (h : wpList Yacd.prog ops Q rest (a.put o.dst (.agg cs.toArray)) w) : wpList Yacd.prog ops Q (o :: rest) a w :=
  wpList_load_mid hgd 76 x ho b off hx cs _ hc Yacd.underlying76 rfl (by rw [hl]; exact size76) h
theorem wl_load82 (hgd : o.guard = none) (x : Operand) (ho : o.op = .load 82 x) (b off : Nat) (hx : a.eval x = .pointer (some ⟨b, off, none⟩)) (cs : List Value) (hl : cs.length = 131) (hc : w.rangeAt b off cs)
    (h : wpList Yacd.prog ops Q rest (a.put o.dst (.agg cs.toArray)) w) : wpList Yacd.prog ops Q (o :: rest) a w :=
  wpList_load_mid hgd 82 x ho b off hx cs _ hc Yacd.underlying82 rfl (by rw [hl]; exact size82) h
theorem wl_store61 (hgd : o.guard = none) (x y : Operand) (ho : o.op = .store 61 x y) (b off : Nat) (cs : List Value) (hx : a.eval x = .pointer (some ⟨b, off, none⟩)) (hy : a.eval y = .agg cs.toArray) (hl : cs.length = 128)
    (h1 : ∀ v ∈ cs, v.oneCell' = true) (ht : w.there b off 128) (h : wpList Yacd.prog ops Q rest (a.put o.dst undef) (w.setCells b off cs)) : wpList Yacd.prog ops Q (o :: rest) a w :=
  wpList_store_mid hgd 61 x y ho b off cs.toArray hx hy (by simpa [hl] using ht) (by simp only [List.size_toArray, hl]; exact size61) (all_oneCell_toArray h1) h
theorem wl_store82 (hgd : o.guard = none) (x y : Operand) (ho : o.op = .store 82 x y) (b off : Nat) (cs : List Value) (hx : a.eval x = .pointer (some ⟨b, off, none⟩)) (hy : a.eval y = .agg cs.toArray) (hl : cs.length = 131)
    (h1 : ∀ v ∈ cs, v.oneCell' = true) (ht : w.there b off 131) (h : wpList Yacd.prog ops Q rest (a.put o.dst undef) (w.setCells b off cs)) : wpList Yacd.prog ops Q (o :: rest) a w :=
  wpList_store_mid hgd 82 x y ho b off cs.toArray hx hy (by simpa [hl] using ht) (by simp only [List.size_toArray, hl]; exact size82) (all_oneCell_toArray h1) h
theorem wl_build61 (hgd : o.guard = none) (ho : o.op = .build 61 #[]) (h : wpList Yacd.prog ops Q rest (a.put o.dst (.agg zpg.toArray)) w) : wpList Yacd.prog ops Q (o :: rest) a w :=
  wpList_plain hgd fun K hK => by
    unfold Oper.wp execOp
    simp only [ho, List.map_toArray, List.map_nil, Sem.run_bind, run_build61, Result.andThen_ok, Sem.run_pure]
    exact hK _ _ h
theorem wl_buildSlice (hgd : o.guard = none) (x : Operand) (t e : TypeId) (ho : o.op = .buildSlice t 1 #[(0, x)]) {z : Value} {size bytes : Nat} (ht : Yacd.prog.underlying t = some (.slice e))
    (hinfo : (Yacd.prog.info? e).map (fun i => (i.zero, i.size, i.bytes)) = some (some z, size, bytes)) (hsz : 0 < size) (hsm : size ≤ 16777216) (cs : List Value) (hx : a.eval x = .agg cs.toArray) (hl : cs.length = size)
    (h : wpList Yacd.prog ops Q rest (a.put o.dst (.slice (some ⟨w.heap.size, 0, none⟩) 1 1)) (w.alloc (.cells cs.toArray e))) : wpList Yacd.prog ops Q (o :: rest) a w :=
  wpList_plain hgd fun K hK => by
    unfold Oper.wp execOp
    simp only [ho, List.map_toArray, List.map_cons, List.map_nil, hx, Sem.run_bind, run_buildSlice1 w t e ht hinfo hsz hsm cs hl, Result.andThen_ok, Sem.run_pure]
    exact hK _ _ h
theorem wl_append (hgd : o.guard = none) (s x : Operand) (t : TypeId)
    (ho : o.op = .call { callee := .builtin .append, args := #[s, x], argTypes := #[t, t] })
    (e : TypeId) {z : Value} {size bytes : Nat} (ht : Yacd.prog.underlying t = some (.slice e)) (hinfo : (Yacd.prog.info? e).map (fun i => (i.zero, i.size, i.bytes)) = some (some z, size, bytes))
    (hzs : z.cells.size = size) (hsz : 0 < size)
    (v : Value) (n : Nat) (xs : List Value) (hs : a.eval s = v) (hown : w.ownsRow 0 e size v n xs)
    (ad : Addr) (m c : Nat) (news : List Value) (hx : a.eval x = .slice (some ad) m c) (hl : news.length = m * size) (hnews : ∀ j u, news[j]? = some u → w.cell? (ad.add j) = some u) (h1 : ∀ u ∈ news, u.oneCell' = true)
    (h63 : n + m ≤ maxLen) (hbytes : (n + m) * bytes ≤ 140737488355328)
    (h : ∀ v' w', w'.ownsRow 0 e size v' (n + m) (xs ++ news) → w.grownBy w' v.ownBlock → (v'.ownBlock = v.ownBlock ∨ v'.ownBlock = some w.heap.size) → wpList Yacd.prog ops Q rest (a.put o.dst v') w') : wpList Yacd.prog ops Q (o :: rest) a w :=
  wpList_plain hgd fun K hK => wp_append_mine s x t ho e ht hinfo hzs hsz v n xs hs hown ad m c news hx hl hnews h1 h63 hbytes (fun v' w' g1 g2 g3 => hK _ _ (h v' w' g1 g2 g3))
end

/-! ### A result that lies in memory -/
theorem results61 {fn : Func} {t : Tmp} (hf : fn.results = #[.cell t 61]) {a : Act} {w : World} {b : Nat} (ha : a.tmps.getD t undef = .pointer (some ⟨b, 0, none⟩)) {cs : List Value} (hl : cs.length = 128) (hc : w.rangeAt b 0 cs) :
    (results fn a.tmps).run Yacd.prog w = .ok (.agg cs.toArray) w := by
  have := run_loadVar_mid (P := Yacd.prog) w b 0 61 cs (.array 128 5) hc Yacd.underlying61 rfl (by rw [hl]; exact size61)
  simp only [results, hf]
  simp [Sem.run_bind, Result.andThen, asAddr, this, -Array.getD_eq_getD_getElem?, ha]
theorem results61b {fn : Func} {t u : Tmp} (hf : fn.results = #[.cell t 61, .tmp u]) {a : Act} {w : World} {b : Nat} (ha : a.tmps.getD t undef = .pointer (some ⟨b, 0, none⟩)) {cs : List Value} (hl : cs.length = 128) (hc : w.rangeAt b 0 cs) :
    (results fn a.tmps).run Yacd.prog w = .ok (.tuple #[.agg cs.toArray, a.tmps.getD u undef]) w := by
  have := run_loadVar_mid (P := Yacd.prog) w b 0 61 cs (.array 128 5) hc Yacd.underlying61 rfl (by rw [hl]; exact size61)
  rw [results_cell_tmp hf]
  simp [Sem.run_bind, Result.andThen, asAddr, this, -Array.getD_eq_getD_getElem?, ha]

/-! ### Whole blocks -/
/-- A fresh block of 128 cells may be read and written as a page. -/
theorem there_alloc_new (w : World) (cs : Array Value) (e : TypeId) (n : Nat) (h : n ≤ cs.size) : (w.alloc (.cells cs e)).there w.heap.size 0 n := fun j hj => by
  rw [Nat.zero_add, World.cell?_alloc_new, World.frozen?_alloc_new]
  simp [show j < cs.size by omega]
theorem range_alloc_new (w : World) (cs : List Value) (e : TypeId) : (w.alloc (.cells cs.toArray e)).rangeAt w.heap.size 0 cs := fun j v hv => by
  rw [Nat.zero_add, World.cell?_alloc_new]
  simpa using hv
end Go.Proofs.Ygdacg
