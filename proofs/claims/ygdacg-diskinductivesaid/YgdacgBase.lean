/-
  PAGES, ROWS OF PAGES, AND WHAT A CALL LEAVES ALONE: the words in which the walks over package disk and its model speak of memory.
-/
import Derived.Test.YgdacgRows
import Derived.Test.YgdacgPlan
import Derived.WalkKit
import Derived.WalkSpells
import Derived.Deep.MidRow
import Derived.Laws.AppendOwn
import Derived.Deep.QuietTactic
import Derived.BigQuiet
import Derived.Deep.LoopGhost
namespace Go.Proofs.Ygdacg
open Go.RowKit
set_option linter.unusedVariables false
set_option linter.unusedSimpArgs false

/-! ### Pages -/
/-- The cells of a page of zeros. -/
def zpg : List Value := List.replicate 128 (.int .u8 0)
/-- The cells of a page. -/
structure IsPg (p : List Value) : Prop where
  len : p.length = 128
  byte : ∀ v ∈ p, ∃ n : Int, v = .int .u8 n
theorem zpg_is : IsPg zpg := ⟨by simp [zpg], fun v hv => ⟨0, List.eq_of_mem_replicate hv⟩⟩
theorem IsPg.one {p : List Value} (h : IsPg p) : ∀ v ∈ p, v.oneCell' = true := fun v hv => by
  obtain ⟨n, rfl⟩ := h.byte v hv
  rfl
/-- A cached write's cells. -/
def cwc (e : Nat × Nat × List Value) : List Value := .int .u8 e.1 :: .int .u16 e.2.1 :: e.2.2
/-- A model write's cells. -/
def mwc (e : Nat × Nat × List Value × Bool) : List Value := .int .u8 e.1 :: .int .u16 e.2.1 :: (e.2.2.1 ++ [.bool e.2.2.2])
theorem cwc_len {e : Nat × Nat × List Value} (h : IsPg e.2.2) : (cwc e).length = 130 := by simp [cwc, h.len]
theorem mwc_len {e : Nat × Nat × List Value × Bool} (h : IsPg e.2.2.1) : (mwc e).length = 131 := by simp [mwc, h.len]
theorem cwc_one {e : Nat × Nat × List Value} (h : IsPg e.2.2) : ∀ v ∈ cwc e, v.oneCell' = true := by
  intro v hv
  simp only [cwc, List.mem_cons] at hv
  rcases hv with rfl | rfl | hv
  · rfl
  · rfl
  · exact h.one v hv
theorem mwc_one {e : Nat × Nat × List Value × Bool} (h : IsPg e.2.2.1) : ∀ v ∈ mwc e, v.oneCell' = true := by
  intro v hv
  simp only [mwc, List.mem_cons, List.mem_append, List.mem_singleton, List.not_mem_nil, or_false] at hv
  rcases hv with rfl | rfl | hv | rfl
  · rfl
  · rfl
  · exact h.one v hv
  · rfl

theorem info61 : (Yacd.prog.info? 61).map (fun i => (i.zero, i.size, i.bytes)) = some (some (.agg zpg.toArray), 128, 128) := by kernel_rfl
theorem info76 : (Yacd.prog.info? 76).map (fun i => (i.zero, i.size, i.bytes)) = some (some (.agg (cwc (0, 0, zpg)).toArray), 130, 132) := by kernel_rfl
theorem info82 : (Yacd.prog.info? 82).map (fun i => (i.zero, i.size, i.bytes)) = some (some (.agg (mwc (0, 0, zpg, false)).toArray), 131, 134) := by kernel_rfl
theorem size61 : (Yacd.prog.info? 61).map (·.size) = some 128 := by kernel_rfl
theorem size76 : (Yacd.prog.info? 76).map (·.size) = some 130 := by kernel_rfl
theorem size82 : (Yacd.prog.info? 82).map (·.size) = some 131 := by kernel_rfl
theorem zero61 (w : World) : (zeroValue 61).run Yacd.prog w = .ok (.agg zpg.toArray) w := by
  obtain ⟨i, hi, hz, _, _⟩ := info_parts info61
  simp [zeroValue, typeInfo, hi, hz]
theorem zero76 (w : World) : (zeroValue 76).run Yacd.prog w = .ok (.agg (cwc (0, 0, zpg)).toArray) w := by
  obtain ⟨i, hi, hz, _, _⟩ := info_parts info76
  simp [zeroValue, typeInfo, hi, hz]
theorem zero82 (w : World) : (zeroValue 82).run Yacd.prog w = .ok (.agg (mwc (0, 0, zpg, false)).toArray) w := by
  obtain ⟨i, hi, hz, _, _⟩ := info_parts info82
  simp [zeroValue, typeInfo, hi, hz]

/-! ### Rows of elements of one width -/
theorem flat_len {sz : Nat} : ∀ {ls : List (List Value)}, (∀ x ∈ ls, x.length = sz) → ls.flatten.length = ls.length * sz
  | [], _ => by simp
  | x :: ls, h => by
    rw [List.flatten_cons, List.length_append, h x (by simp), flat_len (fun y hy => h y (by simp [hy])), List.length_cons, Nat.add_mul]
    omega
theorem flat_get {sz : Nat} : ∀ {ls : List (List Value)}, (∀ x ∈ ls, x.length = sz) → ∀ (i j : Nat) (hi : i < ls.length), j < sz → ls.flatten[i * sz + j]? = ls[i][j]?
  | [], _, i, j, hi, _ => by simp at hi
  | x :: ls, h, 0, j, _, hj => by
    have hx := h x (by simp)
    simp [List.getElem?_append_left (show j < x.length by omega)]
  | x :: ls, h, i + 1, j, hi, hj => by
    have hx := h x (by simp)
    have e : (i + 1) * sz + j = x.length + (i * sz + j) := by rw [hx, Nat.add_mul]; omega
    rw [List.flatten_cons, e, List.getElem?_append_right (by omega), Nat.add_sub_cancel_left, flat_get (fun y hy => h y (by simp [hy])) i j (by simpa using hi) hj]
    simp

/-- The element number i of a row that is owned lies where it should. -/
theorem owns_elem {w : World} {e : TypeId} {sz : Nat} {v : Value} {ls : List (List Value)} (h : w.ownsRow 0 e sz v ls.length ls.flatten) (hsz : ∀ x ∈ ls, x.length = sz) (i : Nat) (hi : i < ls.length) :
    ∃ g cap, v = .slice (some ⟨g, 0, none⟩) ls.length cap ∧ ls.length ≤ cap ∧ cap ≤ maxLen ∧ w.rangeAt g (i * sz) ls[i] := by
  rcases h.2 with ⟨_, h0⟩ | ⟨g, cap, cur, rfl, _, hg, hc, hm, hs, ht⟩
  · omega
  · refine ⟨g, cap, rfl, hc, hm, fun j u hu => ?_⟩
    have hj : j < sz := by
      have := (List.getElem?_eq_some_iff.1 hu).1
      rw [hsz _ (List.getElem_mem hi)] at this
      exact this
    rw [cell_of_row w g (i * sz + j) cur e (0, 0) hg]
    rw [← flat_get hsz i j hi hj, ← ht, List.getElem?_take] at hu
    split at hu
    · simpa using hu
    · cases hu
/-- What is owned is a slice value of that length. -/
theorem owns_slice {w : World} {e : TypeId} {sz : Nat} {v : Value} {n : Nat} {xs : List Value} (h : w.ownsRow 0 e sz v n xs) : ∃ ao cap, v = .slice ao n cap ∧ n ≤ cap ∧ cap ≤ maxLen := by
  rcases h.2 with ⟨rfl, rfl⟩ | ⟨g, cap, cur, rfl, _, hg, hc, hm, hs, ht⟩
  · exact ⟨none, 0, rfl, Nat.le_refl _, Nat.zero_le _⟩
  · exact ⟨_, _, rfl, hc, hm⟩

/-! ### What a call leaves alone -/
/-- All blocks but those of F are as they were; the streams too. -/
structure Keep (F : Nat → Prop) (w w' : World) : Prop where
  os : w'.os = w.os
  tape : w'.tape = w.tape
  output : w'.output = w.output
  size : w.heap.size ≤ w'.heap.size
  block : ∀ k, k < w.heap.size → ¬ F k → w'.heap[k]? = w.heap[k]?
/-- No block. -/
def Non : Nat → Prop := fun _ => False
/-- F, and whatever has been made between w and w'. -/
def Ext (F : Nat → Prop) (w w' : World) : Nat → Prop := fun k => F k ∨ (w.heap.size ≤ k ∧ k < w'.heap.size)

section
variable {F G : Nat → Prop} {w w' w'' : World}
theorem Keep.refl (F : Nat → Prop) (w : World) : Keep F w w := ⟨rfl, rfl, rfl, Nat.le_refl _, fun _ _ _ => rfl⟩
theorem Keep.mono (h : Keep F w w') (hFG : ∀ k, F k → G k) : Keep G w w' := ⟨h.os, h.tape, h.output, h.size, fun k hk hn => h.block k hk (fun hf => hn (hFG k hf))⟩
theorem Keep.of_non (h : Keep Non w w') (F : Nat → Prop) : Keep F w w' := h.mono (fun _ hf => hf.elim)
theorem Keep.trans (h : Keep F w w') (h' : Keep G w' w'') (hG : ∀ k, G k → k < w.heap.size → F k) : Keep F w w'' :=
  ⟨h'.os.trans h.os, h'.tape.trans h.tape, h'.output.trans h.output, Nat.le_trans h.size h'.size, fun k hk hn =>
    (h'.block k (Nat.lt_of_lt_of_le hk h.size) (fun hg => hn (hG k hg hk))).trans (h.block k hk hn)⟩
theorem Keep.trans_same (h : Keep F w w') (h' : Keep F w' w'') : Keep F w w'' := h.trans h' fun _ hf _ => hf
theorem Keep.trans_ext (h : Keep F w w') (h' : Keep (Ext F w w') w' w'') : Keep F w w'' := h.trans h' fun k hk hlt => by
  rcases hk with hk | ⟨h1, _⟩
  · exact hk
  · omega
theorem Keep.trans_non (h : Keep F w w') (h' : Keep Non w' w'') : Keep F w w'' := h.trans h' fun _ hf _ => hf.elim
theorem Keep.drew (h : Keep F w w') : Keep F w w'.drew := ⟨h.os, h.tape, h.output, h.size, h.block⟩
theorem Keep.drewN (h : Keep F w w') (n : Nat) : Keep F w (w'.drewN n) := ⟨h.os, h.tape, h.output, h.size, h.block⟩
theorem Keep.alloc (h : Keep F w w') (o : Obj) : Keep F w (w'.alloc o) :=
  h.trans_same ⟨rfl, rfl, rfl, by simp, fun k hk _ => Below.heap_alloc _ _ _ hk⟩
theorem Keep.setCell (h : Keep F w w') {p : Addr} (u : Value) (hp : F p.block ∨ w.heap.size ≤ p.block) : Keep F w (w'.setCell p u) :=
  h.trans (G := fun k => k = p.block) ⟨rfl, rfl, rfl, by simp, fun k hk hn => Below.heap_setCell _ _ _ _ hn⟩ fun k hk hlt => by
    subst hk
    rcases hp with hp | hp
    · exact hp
    · omega
theorem heap_setCells (b : Nat) : ∀ (vs : List Value) (o : Nat) (w : World), (w.setCells b o vs).heap.size = w.heap.size ∧ ∀ k, k ≠ b → (w.setCells b o vs).heap[k]? = w.heap[k]?
  | [], _, _ => ⟨rfl, fun _ _ => rfl⟩
  | v :: vs, o, w => by
    obtain ⟨h1, h2⟩ := heap_setCells b vs (o + 1) (w.setCell ⟨b, o, none⟩ v)
    rw [World.setCells]
    exact ⟨h1.trans (by simp), fun k hk => (h2 k hk).trans (Below.heap_setCell _ _ _ _ hk)⟩
theorem streams_setCells (b : Nat) : ∀ (vs : List Value) (o : Nat) (w : World), (w.setCells b o vs).os = w.os ∧ (w.setCells b o vs).tape = w.tape ∧ (w.setCells b o vs).output = w.output
  | [], _, _ => ⟨rfl, rfl, rfl⟩
  | v :: vs, o, w => by
    rw [World.setCells]
    exact streams_setCells b vs (o + 1) (w.setCell ⟨b, o, none⟩ v)
theorem Keep.setCells (h : Keep F w w') (b o : Nat) (vs : List Value) (hp : F b ∨ w.heap.size ≤ b) : Keep F w (w'.setCells b o vs) := by
  obtain ⟨h1, h2⟩ := heap_setCells b vs o w'
  obtain ⟨s1, s2, s3⟩ := streams_setCells b vs o w'
  refine h.trans (G := fun k => k = b) ⟨s1, s2, s3, by rw [h1]; exact Nat.le_refl _, fun k hk hn => h2 k hn⟩ fun k hk hlt => ?_
  subst hk
  rcases hp with hp | hp
  · exact hp
  · omega
theorem Keep.grown (h : Keep F w w') {row : Option Nat} (hg : w'.grownBy w'' row) (hr : ∀ k, row = some k → F k ∨ w.heap.size ≤ k) : Keep F w w'' :=
  h.trans (G := fun k => row = some k) ⟨hg.os, hg.tape, hg.output, hg.size, fun k hk hn => hg.block k hk (fun e => hn e.symm)⟩ fun k hk hlt => by
    rcases hr k hk with hp | hp
    · exact hp
    · omega
theorem Keep.at (h : Keep F w w') {k : Nat} {o : Obj} (ho : w.heap[k]? = some o) (hn : ¬ F k) : w'.heap[k]? = some o :=
  (h.block k (Array.getElem?_eq_some_iff.1 ho).1 hn).trans ho
theorem Keep.cell (h : Keep F w w') {a : Addr} {v : Value} (ha : w.cell? a = some v) (hn : ¬ F a.block) : w'.cell? a = some v :=
  (World.cell?_of_block (h.block a.block (World.block_lt_of_cell? w a ha) hn)).trans ha
theorem Keep.frozen (h : Keep F w w') {a : Addr} (ha : a.block < w.heap.size) (hn : ¬ F a.block) : w'.frozen? a = w.frozen? a :=
  World.frozen?_of_block (h.block a.block ha hn)
theorem Keep.range (h : Keep F w w') {b o : Nat} {cs : List Value} (hr : w.rangeAt b o cs) (hn : ¬ F b) : w'.rangeAt b o cs := fun j v hv => h.cell (hr j v hv) hn
theorem Keep.owns (h : Keep F w w') {e : TypeId} {sz : Nat} {v : Value} {n : Nat} {xs : List Value} (ho : w.ownsRow 0 e sz v n xs) (hn : ∀ k, v.ownBlock = some k → ¬ F k) : w'.ownsRow 0 e sz v n xs := by
  refine ⟨ho.1, ?_⟩
  rcases ho.2 with h0 | ⟨g, cap, cur, rfl, hb, hg, rest⟩
  · exact .inl h0
  · exact .inr ⟨g, cap, cur, rfl, hb, h.at hg (hn g rfl), rest⟩
theorem Keep.below {B : Nat} (h : Keep F w w') (hB : B ≤ w.heap.size) (hF : ∀ k, F k → B ≤ k) : Below B w w' :=
  ⟨h.os, h.tape, h.output, h.size, fun k hk => h.block k (by omega) (fun hf => by have := hF k hf; omega)⟩
end

/-! ### append, with what it tells of the new row's block -/
theorem run_append_mine {P : Program} (w : World) (t ty e : TypeId) {z : Value} {size bytes : Nat} (ht : P.underlying t = some (.slice e)) (hinfo : (P.info? e).map (fun i => (i.zero, i.size, i.bytes)) = some (some z, size, bytes))
    (hzs : z.cells.size = size) (hsz : 0 < size) (v : Value) (n : Nat) (xs : List Value) (hown : w.ownsRow 0 e size v n xs)
    (a : Addr) (m c : Nat) (news : List Value) (hl : news.length = m * size) (hnews : ∀ j u, news[j]? = some u → w.cell? (a.add j) = some u) (h1 : ∀ u ∈ news, u.oneCell' = true)
    (h63 : n + m ≤ maxLen) (hbytes : (n + m) * bytes ≤ 140737488355328) :
    ∃ v' w', (Builtin.append_ #[t, t] ty #[v, .slice (some a) m c]).run P w = .ok v' w' ∧ w'.ownsRow 0 e size v' (n + m) (xs ++ news) ∧ w.grownBy w' v.ownBlock ∧
      (v'.ownBlock = v.ownBlock ∨ v'.ownBlock = some w.heap.size) := by
  obtain ⟨i, hi, hz, hsize, hby⟩ := info_parts hinfo
  obtain ⟨v', w', hr, h2, h3, h4⟩ := run_append_own (P := P) w 0 t ty e i z size bytes ht hi hz hsize hby hzs hsz v n xs hown a m c news hl hnews h1 h63 hbytes (Nat.zero_le _)
  refine ⟨v', w', hr, h2, h3, ?_⟩
  have hsmall : n + m ≤ 9223372036854775807 := by simp only [maxLen] at h63; omega
  subst hsize
  subst hby
  rcases hown.2 with ⟨rfl, rfl⟩ | ⟨g, cap, cur, rfl, hbg, hg, hnc, hcm, hcs, htake⟩
  · by_cases hm : m = 0
    · rw [h4.2 ⟨rfl, hm⟩]
      exact .inl rfl
    · have := run_append_nil (P := P) w t ty e i z ht hi hz a m c news hl hnews (by omega) (by omega) (by have hb := hbytes; simp only [Nat.zero_add] at hb; omega)
      rw [this] at hr
      simp only [Result.ok.injEq] at hr
      rw [← hr.1]
      exact .inr rfl
  · by_cases hroom : n + m ≤ cap
    · have hfit : n * i.size + news.length ≤ cur.size := by rw [hl, hcs, ← Nat.add_mul]; exact Nat.mul_le_mul_right _ hroom
      have := run_append_room (P := P) w t ty e i ht hi g n cap cur hg a m c news hl hnews h1 hroom hfit
      rw [this] at hr
      simp only [Result.ok.injEq] at hr
      rw [← hr.1]
      exact .inl rfl
    · have holds : ∀ j u, xs[j]? = some u → w.cell? ((⟨g, 0, none⟩ : Addr).add j) = some u := hown.cells (g := g) rfl
      have := run_append_grow (P := P) w t ty e i z ht hi hz ⟨g, 0, none⟩ n cap xs hown.1 holds a m c news hl hnews (by omega) (by omega) (growslice_fits (by omega) hbytes)
      rw [this] at hr
      simp only [Result.ok.injEq] at hr
      rw [← hr.1]
      exact .inr rfl

/-- The operation. -/
theorem wp_append_mine {P : Program} {w : World} {o : Oper} {a : Act} {K : Act → World → Prop} {Q : Exit → Act → World → Prop} (s x : Operand) (t : TypeId)
    (ho : o.op = .call { callee := .builtin .append, args := #[s, x], argTypes := #[t, t] })
    (e : TypeId) {z : Value} {size bytes : Nat} (ht : P.underlying t = some (.slice e)) (hinfo : (P.info? e).map (fun i => (i.zero, i.size, i.bytes)) = some (some z, size, bytes))
    (hzs : z.cells.size = size) (hsz : 0 < size)
    (v : Value) (n : Nat) (xs : List Value) (hs : a.eval s = v) (hown : w.ownsRow 0 e size v n xs)
    (ad : Addr) (m c : Nat) (news : List Value) (hx : a.eval x = .slice (some ad) m c) (hl : news.length = m * size) (hnews : ∀ j u, news[j]? = some u → w.cell? (ad.add j) = some u) (h1 : ∀ u ∈ news, u.oneCell' = true)
    (h63 : n + m ≤ maxLen) (hbytes : (n + m) * bytes ≤ 140737488355328)
    (h : ∀ v' w', w'.ownsRow 0 e size v' (n + m) (xs ++ news) → w.grownBy w' v.ownBlock → (v'.ownBlock = v.ownBlock ∨ v'.ownBlock = some w.heap.size) → K (a.put o.dst v') w') : o.wp P a w K Q := by
  obtain ⟨v', w', hr, h2, h3, h4⟩ := run_append_mine (P := P) w t o.type e ht hinfo hzs hsz v n xs hown ad m c news hl hnews h1 h63 hbytes
  unfold Oper.wp execOp
  simp only [ho, resolve, invoke, builtin, Sem.run_bind, Sem.run_pure, Result.andThen_ok, List.map_toArray, List.map_cons, List.map_nil, hs, hx, hr]
  exact h v' w' h2 h3 h4
end Go.Proofs.Ygdacg
