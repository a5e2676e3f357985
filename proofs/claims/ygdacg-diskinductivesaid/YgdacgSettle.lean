/-
  settle.
-/
import Derived.Test.YgdacgDisk
namespace Go.Proofs.Ygdacg
open Go.RowKit
set_option linter.unusedVariables false
set_option linter.unusedSimpArgs false

theorem flat_set {sz : Nat} {x : List Value} : ∀ {ls : List (List Value)} (i : Nat), (∀ y ∈ ls, y.length = sz) → i < ls.length → (ls.set i x).flatten = ls.flatten.take (i * sz) ++ x ++ ls.flatten.drop (i * sz + sz)
  | [], i, _, hi => by simp at hi
  | y :: ls, 0, h, _ => by
    have hy := h y (by simp)
    simp [← hy]
  | y :: ls, i + 1, h, hi => by
    have hy := h y (by simp)
    have ih := flat_set (x := x) (ls := ls) i (fun z hz => h z (by simp [hz])) (by simpa using hi)
    have e1 : (i + 1) * sz = y.length + i * sz := by rw [hy, Nat.add_mul]; omega
    rw [List.set_cons_succ, List.flatten_cons, List.flatten_cons, ih, e1, Nat.add_assoc, List.take_length_add_append, List.drop_length_add_append]
    simp

/-- The element number i of an owned row is written. -/
theorem owns_set {w : World} {e : TypeId} {sz g : Nat} {v : Value} {ls : List (List Value)} {x : List Value} {i : Nat} (h : w.ownsRow 0 e sz v ls.length ls.flatten) (hsz : ∀ y ∈ ls, y.length = sz) (hi : i < ls.length) (hx : x.length = sz) (hv : v.ownBlock = some g) :
    w.there g (i * sz) sz ∧ (w.setCells g (i * sz) x).ownsRow 0 e sz v (ls.set i x).length (ls.set i x).flatten := by
  rcases h.2 with ⟨rfl, _⟩ | ⟨g', cap, cur, rfl, hb, hg, hc, hm, hs, ht⟩
  · simp [Value.ownBlock] at hv
  · obtain rfl : g' = g := by simpa [Value.ownBlock] using hv
    have hblk : World.blk w g' e cur.toList := by simpa [World.blk] using hg
    have hle : (i + 1) * sz ≤ ls.length * sz := Nat.mul_le_mul_right _ hi
    have hle2 : ls.length * sz ≤ cap * sz := Nat.mul_le_mul_right _ hc
    rw [Nat.add_mul, Nat.one_mul] at hle
    have hset : ∀ y ∈ ls.set i x, y.length = sz := fun y hy => by
      rcases List.mem_or_eq_of_mem_set hy with hy | rfl
      · exact hsz y hy
      · exact hx
    refine ⟨blk_there_at hblk _ _ (by simp [hs]; omega), by rw [flat_len hset], .inr ⟨g', cap, (cur.toList.take (i * sz) ++ x ++ cur.toList.drop (i * sz + x.length)).toArray, by simp, hb, blk_sets x (i * sz) hblk (by simp [hs, hx]; omega), by simpa using hc, hm, ?_, ?_⟩⟩
    · simp only [List.size_toArray, List.length_append, List.length_take, List.length_drop, Array.length_toList, hs, hx]
      omega
    · rw [flat_set i hsz hi, ← ht, hx]
      simp only [List.length_set]
      apply List.ext_getElem?
      intro j
      have e1 : min (i * sz) cur.size = i * sz := by omega
      have e2 : min (i * sz) (min (ls.length * sz) cur.size) = i * sz := by omega
      simp only [List.getElem?_append, List.getElem?_take, List.getElem?_drop, List.length_append, List.length_take, List.size_toArray, Array.length_toList, hx, e1, e2]
      by_cases h1 : j < i * sz
      · rw [if_pos (by omega), if_pos (by omega), if_pos h1, if_pos h1, if_pos (by omega), if_pos h1, if_pos h1, if_pos (by omega)]
      · by_cases h2 : j < i * sz + sz
        · rw [if_pos (by omega), if_pos (by omega), if_neg h1, if_pos (by omega), if_neg h1]
        · by_cases h3 : j < ls.length * sz
          · rw [if_pos h3, if_neg (by omega), if_neg (by omega), if_pos (by omega)]
          · rw [if_neg h3, if_neg (by omega), if_neg (by omega)]

theorem grown_trans {w w1 w2 : World} {row row' : Option Nat} (h : w.grownBy w1 row) (h' : w1.grownBy w2 row') (hr : row' = row ∨ row' = none ∨ ∃ k, row' = some k ∧ w.heap.size ≤ k) : w.grownBy w2 row :=
  ⟨h'.os.trans h.os, h'.tape.trans h.tape, h'.output.trans h.output, Nat.le_trans h.size h'.size, fun k hk hn => by
    refine (h'.block k (Nat.lt_of_lt_of_le hk h.size) ?_).trans (h.block k hk hn)
    rcases hr with rfl | rfl | ⟨k', rfl, hk'⟩
    · exact hn
    · simp
    · simp; omega⟩
theorem grown_setCells {w w1 : World} {row : Option Nat} (h : w.grownBy w1 row) (g o : Nat) (vs : List Value) (hr : row = some g ∨ w.heap.size ≤ g) : w.grownBy (w1.setCells g o vs) row := by
  obtain ⟨h1, h2⟩ := heap_setCells g vs o w1
  obtain ⟨s1, s2, s3⟩ := streams_setCells g vs o w1
  refine ⟨s1.trans h.os, s2.trans h.tape, s3.trans h.output, by rw [h1]; exact h.size, fun k hk hn => ?_⟩
  rw [h2 k (fun e => by
    subst e
    rcases hr with rfl | hr
    · exact hn rfl
    · omega)]
  exact h.block k hk hn

def settleL (ls : List (List Value)) (pg : Nat) (p : List Value) : List (List Value) := (ls ++ List.replicate (pg + 1 - ls.length) zpg).set pg p

theorem settleL_is {ls : List (List Value)} {pg : Nat} {p : List Value} (h : ∀ q ∈ ls, IsPg q) (hp : IsPg p) : ∀ q ∈ settleL ls pg p, IsPg q := by
  intro q hq
  unfold settleL at hq
  rcases List.mem_or_eq_of_mem_set hq with hq | rfl
  · rcases List.mem_append.1 hq with hq | hq
    · exact h q hq
    · rw [List.eq_of_mem_replicate hq]
      exact zpg_is
  · exact hp

set_option maxRecDepth 100000 in
set_option maxHeartbeats 1000000 in
theorem settle_any (w : World) (v : Value) (ls : List (List Value)) (pg pb po : Nat) (p : List Value) (hls : ∀ q ∈ ls, IsPg q) (hp : IsPg p) (hpg : pg < 1024) (hown : w.ownsRow 0 61 128 v ls.length ls.flatten)
    (hr : w.rangeAt pb po p) (hne : ∀ k, v.ownBlock = some k → k ≠ pb) :
    Calls Yacd.prog 34 #[v, .int .u16 pg, .pointer (some ⟨pb, po, none⟩)] w fun e w' => ∃ v', e = .returned v' ∧ w'.ownsRow 0 61 128 v' (settleL ls pg p).length (settleL ls pg p).flatten ∧ w.grownBy w' v.ownBlock ∧
      (v'.ownBlock = v.ownBlock ∨ ∃ k, v'.ownBlock = some k ∧ w.heap.size ≤ k) := by
  have h1 : (pg : Int) < 1024 := by omega
  go_enter Yacd.func34, Yacd.ntmps34
  go_wp2_with fail
  go_loopg [0] (pg + 1 - ls.length) (fun k u wr => ∃ m : Nat, m + k = pg + 1 - ls.length ∧ wr.ownsRow 0 61 128 u (ls ++ List.replicate m zpg).length (ls ++ List.replicate m zpg).flatten ∧ w.grownBy wr v.ownBlock ∧
      (u.ownBlock = v.ownBlock ∨ ∃ k, u.ownBlock = some k ∧ w.heap.size ≤ k))
  case atStart => exact ⟨0, by omega, by simpa using hown, World.grownBy.refl _ _, .inl rfl⟩
  case round =>
    obtain ⟨m, hm, ho, hg, hu⟩ := hrel
    have hlen : (ls ++ List.replicate m zpg).length = ls.length + m := by simp
    have hall : ∀ q ∈ ls ++ List.replicate m zpg, IsPg q := fun q hq => by
      rcases List.mem_append.1 hq with hq | hq
      · exact hls q hq
      · rw [List.eq_of_mem_replicate hq]
        exact zpg_is
    obtain ⟨ao, cap, rfl, hc1, hc2⟩ := owns_slice ho
    by_cases hlt : ls.length + m ≤ pg
    · have hlt' : ((ls ++ List.replicate m zpg).length : Int) ≤ (pg : Int) := by omega
      generalize hL : ls ++ List.replicate m zpg = L at *
      have HL : Hid (ls ++ List.replicate m zpg = L) := hL
      have Hlen : Hid (L.length = ls.length + m) := hlen
      have ho' := ho.alloc (.cells zpg.toArray 61)
      clear hL hlen
      go_wp2_with (first | (refine wl_build61 rfl rfl ?_) | (refine wl_buildSlice rfl _ 33 61 rfl Yacd.underlying33 info61 (by omega) (by omega) zpg rfl zpg_is.len ?_) | (at_builtin; refine wl_append rfl _ _ 33 rfl 61 Yacd.underlying33 info61 (by simp [Value.cells, zpg_is.len]) (by omega) _ L.length L.flatten rfl ho' _ 1 1 zpg rfl (by simp [zpg_is.len]) (fun j u hu => by rw [Addr.add_mid]; exact range_alloc_new _ _ _ j u hu) zpg_is.one (by simp only [maxLen]; omega) (by omega) ?_))
      intro v1 w1 g1 g2 g3
      go_wp2
      go_roundg (gk - 1)
      case measure => omega
      case rel =>
        have e1 : ls ++ List.replicate (m + 1) zpg = L ++ [zpg] := by rw [← HL.out, List.replicate_succ', List.append_assoc]
        have g4 : wr.grownBy w1 (Value.slice ao L.length cap).ownBlock := grown_trans (World.grownBy_alloc _ _ _) g2 (.inl rfl)
        refine ⟨m + 1, by omega, ?_, grown_trans hg g4 (hu.imp id .inr), ?_⟩
        · rw [e1]
          simpa using g1
        · rcases g3 with g3 | g3
          · rw [g3]
            exact hu
          · exact .inr ⟨_, g3, by have := hg.size; omega⟩
    · have hgk : m = pg + 1 - ls.length := by omega
      have eS : settleL ls pg p = (ls ++ List.replicate m zpg).set pg p := by rw [settleL, hgk]
      have hlt' : (pg : Int) < ((ls ++ List.replicate m zpg).length : Int) := by omega
      generalize hL : ls ++ List.replicate m zpg = L at *
      have hpl : pg < L.length := by omega
      have HS : Hid (settleL ls pg p = L.set pg p) := eS
      clear hL eS hgk hlen
      obtain ⟨g, cap', hv, -, -, -⟩ := owns_elem ho (fun q hq => (hall q hq).len) pg hpl
      simp only [Value.slice.injEq] at hv
      obtain ⟨rfl, -, -⟩ := hv
      have hos := owns_set (g := g) (x := p) ho (fun q hq => (hall q hq).len) hpl hp.len rfl
      have hgne : g ≠ pb := by
        rcases hu with hu | ⟨k, hk, hkl⟩
        · exact hne g (by rw [← hu]; rfl)
        · intro e
          have h0 : pb < w.heap.size := by
            have := hr 0 (p[0]'(by have := hp.len; omega)) (by simp)
            exact World.block_lt_of_cell? w _ this
          have : g = k := by simpa [Value.ownBlock] using hk
          omega
      have hr' : wr.rangeAt pb po p := fun j u hj => hg.cell (hr j u hj) (fun e => hne pb e.symm rfl)
      go_wp2_with (first | (refine wl_load61 rfl _ rfl _ _ rfl p hp.len hr' ?_) | (refine wl_store61 rfl _ _ rfl _ _ p rfl rfl hp.len hp.one hos.1 ?_))
      go_ret
      refine ⟨_, rfl, ?_, ?_, hu⟩
      · rw [HS.out]
        exact hos.2
      · refine grown_setCells hg g _ p ?_
        rcases hu with hu | ⟨k, hk, hkl⟩
        · exact .inl (by rw [← hu]; rfl)
        · have : g = k := by simpa [Value.ownBlock] using hk
          exact .inr (by omega)
end Go.Proofs.Ygdacg
