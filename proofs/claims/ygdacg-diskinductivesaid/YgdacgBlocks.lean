/-
  BLOCKS THAT ARE KNOWN WHOLE.
-/
import Derived.Test.YgdacgLaws
namespace Go.Proofs.Ygdacg
open Go.RowKit
set_option linter.unusedVariables false
set_option linter.unusedSimpArgs false

/-- Block b holds the cells cs. -/
def World.blk (w : World) (b : Nat) (e : TypeId) (cs : List Value) : Prop := w.heap[b]? = some (.cells cs.toArray e (0, 0))

section
variable {w w' : World} {b : Nat} {e : TypeId} {cs : List Value}
theorem blk_lt (h : World.blk w b e cs) : b < w.heap.size := (Array.getElem?_eq_some_iff.1 h).1
theorem blk_cell (h : World.blk w b e cs) (j : Nat) : w.cell? ⟨b, j, none⟩ = cs[j]? := by
  rw [cell_of_row w b j cs.toArray e (0, 0) h]
  simp
theorem blk_frozen (h : World.blk w b e cs) (j : Nat) : w.frozen? ⟨b, j, none⟩ = false := by
  unfold World.blk at h
  simp [World.frozen?, h]
theorem blk_range (h : World.blk w b e cs) : w.rangeAt b 0 cs := fun j v hv => by
  rw [Nat.zero_add, blk_cell h]
  exact hv
theorem blk_there (h : World.blk w b e cs) (n : Nat) (hn : n ≤ cs.length) : w.there b 0 n := fun j hj => by
  rw [Nat.zero_add, blk_cell h, blk_frozen h]
  simp [show j < cs.length by omega]
theorem blk_there_at (h : World.blk w b e cs) (o n : Nat) (hn : o + n ≤ cs.length) : w.there b o n := fun j hj => by
  rw [blk_cell h, blk_frozen h]
  simp [show o + j < cs.length by omega]
theorem blk_set (h : World.blk w b e cs) (j : Nat) (v : Value) : World.blk (w.setCell ⟨b, j, none⟩ v) b e (cs.set j v) := by
  unfold World.blk at *
  simp [World.setCell, Array.getElem?_modify, h]
theorem blk_set_other (h : World.blk w b e cs) {p : Addr} (hp : b ≠ p.block) (v : Value) : World.blk (w.setCell p v) b e cs := by
  unfold World.blk at *
  rw [Below.heap_setCell _ _ _ _ hp]
  exact h
theorem blk_sets_other (h : World.blk w b e cs) (g o : Nat) (vs : List Value) (hp : b ≠ g) : World.blk (w.setCells g o vs) b e cs := by
  unfold World.blk at *
  rw [(heap_setCells g vs o w).2 b hp]
  exact h
theorem blk_sets : ∀ (vs : List Value) (o : Nat) {w : World} {cs : List Value}, World.blk w b e cs → o + vs.length ≤ cs.length → World.blk (w.setCells b o vs) b e (cs.take o ++ vs ++ cs.drop (o + vs.length))
  | [], o, w, cs, h, _ => by simpa [World.setCells] using h
  | v :: vs, o, w, cs, h, hl => by
    simp only [List.length_cons] at hl
    have := blk_sets vs (o + 1) (blk_set h o v) (by simp only [List.length_set]; omega)
    rw [World.setCells]
    have key : List.take o cs ++ v :: vs ++ List.drop (o + (v :: vs).length) cs = List.take (o + 1) (cs.set o v) ++ vs ++ List.drop (o + 1 + vs.length) (cs.set o v) := ?_
    · rw [key]; exact this
    apply List.ext_getElem?
    intro j
    have e1 : min (o + 1) cs.length = o + 1 := by omega
    have e2 : min o cs.length = o := by omega
    simp only [List.getElem?_append, List.getElem?_take, List.getElem?_drop, List.getElem?_set, List.length_append, List.length_take, List.length_set, List.length_cons, e1, e2]
    by_cases h1 : j < o
    · rw [if_pos (by omega), if_pos h1, if_pos h1, if_pos (by omega), if_pos (by omega), if_pos (by omega), if_neg (by omega)]
    · by_cases h2 : j = o
      · subst h2
        rw [if_pos (by omega), if_neg (by omega), if_pos (by omega), if_pos (by omega), if_pos (by omega), if_pos rfl, if_pos (by omega)]
        simp
      · by_cases h3 : j < o + 1 + vs.length
        · rw [if_pos (by omega), if_neg (by omega), if_pos (by omega), if_neg (by omega), show j - o = (j - (o + 1)) + 1 by omega, List.getElem?_cons_succ]
        · rw [if_neg (by omega), if_neg (by omega), if_neg (by omega)]
          congr 1
          omega
theorem blk_sets_whole (h : World.blk w b e cs) (vs : List Value) (hl : vs.length = cs.length) : World.blk (w.setCells b 0 vs) b e vs := by
  have := blk_sets vs 0 h (by omega)
  have e1 : List.drop (0 + vs.length) cs = [] := List.drop_of_length_le (by omega)
  rw [e1] at this
  simpa using this
theorem blk_alloc (h : World.blk w b e cs) (o : Obj) : World.blk (w.alloc o) b e cs := by
  have hlt := blk_lt h
  unfold World.blk at *
  rw [Below.heap_alloc w o b hlt]
  exact h
theorem blk_new (w : World) (e : TypeId) (cs : List Value) : World.blk (w.alloc (.cells cs.toArray e)) w.heap.size e cs := by
  unfold World.blk
  exact heap_alloc_new w _
theorem blk_drew (h : World.blk w b e cs) : World.blk w.drew b e cs := h
theorem blk_drewN (h : World.blk w b e cs) (n : Nat) : World.blk (w.drewN n) b e cs := h
theorem blk_keep {F : Nat → Prop} (h : World.blk w b e cs) (hk : Keep F w w') (hn : ¬ F b) : World.blk w' b e cs := hk.at h hn
theorem blk_grown {row : Option Nat} (h : World.blk w b e cs) (hg : w.grownBy w' row) (hn : row ≠ some b) : World.blk w' b e cs := by
  have hlt := blk_lt h
  unfold World.blk at *
  rw [hg.block b hlt (fun e => hn e.symm)]
  exact h
end
end Go.Proofs.Ygdacg
