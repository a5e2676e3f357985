/-
  THE PLAN, AS THE WALKS TAKE IT: the operations themselves in the place of their numbers; what follows the quiet ones stands behind a variable.
-/
import Derived.Test.YgdacgBlocks
namespace Go.Proofs.Ygdacg
open Go.RowKit
set_option linter.unusedVariables false
section
variable {P : Program} {ops : Array Oper} {Q : Exit → Act → World → Prop}

/-- The quiet operations. -/
def quietO (P : Program) (ops : Array Oper) (w0 : World) (S : World → Prop) (N : Act → Prop) : List (Nat × Oper) → Act → Prop
  | [], a => N a
  | (e, o) :: rest, a => ∃ v, YieldsIf P ops (fun w' => (e = 2 → w' = w0) ∧ (e = 1 → S w')) o v a ∧ quietO P ops w0 S N rest (a.put o.dst v)
/-- The first loud ones. -/
def loudO (P : Program) (ops : Array Oper) (Q : Exit → Act → World → Prop) (S : World → Prop) (N : Act → World → Prop) : List Oper → Act → World → Prop
  | [], a, w => N a w
  | o :: rest, a, w => Region.wanted o (yielded ops a.tmps) = true ∧ o.wp P a w (fun a' w' => S w' ∧ loudO P ops Q S N rest a' w') Q

section
variable {w0 : World} {S : World → Prop} {N : Act → Prop} {rest : List (Nat × Oper)} {a : Act} {o : Oper} {v : Value}
theorem quiet_early (hw : Region.wanted o (yielded ops a.tmps) = true) (hy : (execOp a.eval o).run P w0 = .ok (.value v) w0) (h : quietO P ops w0 S N rest (a.put o.dst v)) : quietO P ops w0 S N ((2, o) :: rest) a :=
  ⟨v, .inl ⟨hw, fun w' hw' => by rw [hw'.1 rfl]; exact hy⟩, h⟩
theorem quiet_held (hw : Region.wanted o (yielded ops a.tmps) = true) (hy : ∀ w', S w' → (execOp a.eval o).run P w' = .ok (.value v) w') (h : quietO P ops w0 S N rest (a.put o.dst v)) : quietO P ops w0 S N ((1, o) :: rest) a :=
  ⟨v, .inl ⟨hw, fun w' hw' => hy w' (hw'.2 rfl)⟩, h⟩
theorem quiet_free (hw : Region.wanted o (yielded ops a.tmps) = true) (hy : ∀ w', (execOp a.eval o).run P w' = .ok (.value v) w') (h : quietO P ops w0 S N rest (a.put o.dst v)) : quietO P ops w0 S N ((0, o) :: rest) a :=
  ⟨v, .inl ⟨hw, fun w' _ => hy w'⟩, h⟩
theorem quiet_skip {e : Nat} (hw : Region.wanted o (yielded ops a.tmps) = false) (h : quietO P ops w0 S N rest (a.put o.dst undef)) : quietO P ops w0 S N ((e, o) :: rest) a :=
  ⟨undef, .inr ⟨hw, rfl⟩, h⟩
theorem quiet_done (h : N a) : quietO P ops w0 S N [] a := h
end
section
variable {S : World → Prop} {N : Act → World → Prop} {rest : List Oper} {a : Act} {w w' : World} {o : Oper} {v : Value}
theorem loud_step (hw : Region.wanted o (yielded ops a.tmps) = true) (h : ∀ K : Act → World → Prop, (∀ a' w', S w' → loudO P ops Q S N rest a' w' → K a' w') → o.wp P a w K Q) : loudO P ops Q S N (o :: rest) a w :=
  ⟨hw, h _ fun _ _ h1 h2 => ⟨h1, h2⟩⟩
/-- A loud operation whose run is known. -/
theorem loud_run (hw : Region.wanted o (yielded ops a.tmps) = true) (hr : (execOp a.eval o).run P w = .ok (.value v) w') (hS : S w') (h : loudO P ops Q S N rest (a.put o.dst v) w') : loudO P ops Q S N (o :: rest) a w :=
  loud_step hw fun K hK => by
    unfold Oper.wp
    rw [hr]
    exact hK _ _ hS h
/-- A call of a Go function. -/
theorem loud_call {f : FuncId} {args : Array Value} (hw : Region.wanted o (yielded ops a.tmps) = true) (hr : (execOp a.eval o).run P w = .ok (.enter f args) w)
    (h : Calls P f args w fun e w' => ∃ v, e = .returned v ∧ S w' ∧ loudO P ops Q S N rest (a.put o.dst v) w') : loudO P ops Q S N (o :: rest) a w :=
  loud_step hw fun K hK => by
    unfold Oper.wp
    rw [hr, Oper.upon_enter]
    refine h.mono ?_
    rintro e w' ⟨v, rfl, hS, hr⟩
    exact hK _ _ hS hr
theorem loud_done (h : N a w) : loudO P ops Q S N [] a w := h
end

theorem pre_of_quietO {w0 : World} {S : World → Prop} {N N' : Act → Prop} (hN : ∀ a, N a → N' a) : ∀ (pre : List (Nat × Nat)) (a : Act), (∀ x ∈ pre, x.2 < ops.size) →
    quietO P ops w0 S N (pre.filterMap fun x => (ops[x.2]?).map (Prod.mk x.1)) a → wpPre P ops w0 S N' pre a
  | [], a, _, h => hN a h
  | (e, i) :: pre, a, hlt, h => by
    have hi : i < ops.size := hlt (e, i) (by simp)
    simp only [List.filterMap_cons, Array.getElem?_eq_getElem hi, Option.map_some] at h
    obtain ⟨v, hy, hr⟩ := h
    exact ⟨ops[i], Array.getElem?_eq_getElem hi, v, hy, pre_of_quietO hN pre _ (fun x hx => hlt x (by simp [hx])) hr⟩
theorem ls_of_loudO {S : World → Prop} {N : Act → World → Prop} : ∀ (l : List Nat) (a : Act) (w : World), (∀ i ∈ l, i < ops.size) → loudO P ops Q S N (l.filterMap (ops[·]?)) a w → wpLS P ops Q S N l a w
  | [], a, w, _, h => h
  | i :: l, a, w, hlt, h => by
    have hi : i < ops.size := hlt i (by simp)
    simp only [List.filterMap_cons, Array.getElem?_eq_getElem hi] at h
    obtain ⟨hw, h⟩ := h
    refine wpLS_cons (Array.getElem?_eq_getElem hi) hw fun K hK => Oper.wp_mono (fun a' w' h' => hK a' w' h'.1 (ls_of_loudO l a' w' (fun x hx => hlt x (by simp [hx])) h'.2)) h
theorem map_filterMap_of : ∀ (l : List Nat), (∀ i ∈ l, i < ops.size) → l.map (fun i => ops[i]?) = (l.filterMap (ops[·]?)).map some
  | [], _ => rfl
  | i :: l, hlt => by
    have hi : i < ops.size := hlt i (by simp)
    simp only [List.map_cons, List.filterMap_cons, Array.getElem?_eq_getElem hi, map_filterMap_of l (fun x hx => hlt x (by simp [hx]))]

def sizesB (ops : Array Oper) (pre : List (Nat × Nat)) (l : List Nat) : Bool := pre.all (fun x => decide (x.2 < ops.size)) && l.all (fun i => decide (i < ops.size))

theorem wp_plan {id : Nat} {a : Act} {w : World} (S : World → Prop) (pre : List (Nat × Nat)) (l1 : List Nat) (mid : Nat) (l2 : List Nat) (hm : P.follows .mixedOrders = true)
    (hB : planB ops pre l1 mid l2 = true) (hsz : sizesB ops pre (l1 ++ mid :: l2) = true) (hS : S w.drew)
    (h : ∀ N : Act → Prop, (∀ a', loudO P ops (NP Q) S (fun a w => wpList P ops (NP Q) ((mid :: l2).filterMap (ops[·]?)) a w) (l1.filterMap (ops[·]?)) a' w.drew → N a') →
      quietO P ops w.drew S N (pre.filterMap fun x => (ops[x.2]?).map (Prod.mk x.1)) a) : (Code.region id ops true).wp P Q a w := by
  simp only [sizesB, Bool.and_eq_true, List.all_eq_true, decide_eq_true_eq] at hsz
  have h1 : ∀ i ∈ l1, i < ops.size := fun i hi => hsz.2 i (by simp [hi])
  have h2 : ∀ i ∈ mid :: l2, i < ops.size := fun i hi => hsz.2 i (List.mem_append_right _ hi)
  refine wp_region_plan S pre l1 mid l2 _ hm hB (map_filterMap_of (mid :: l2) h2) hS ?_
  exact pre_of_quietO (fun a' h' => ls_of_loudO l1 a' _ h1 h') pre a hsz.1 (h _ fun _ h => h)
end

/-! ### Runs of single operations on long values -/
section
variable {o : Oper} {a : Act} {w : World}
theorem exec_load61 (x : Operand) (ho : o.op = .load 61 x) (b off : Nat) (hx : a.eval x = .pointer (some ⟨b, off, none⟩)) (cs : List Value) (hl : cs.length = 128) (hc : w.rangeAt b off cs) : (execOp a.eval o).run Yacd.prog w = .ok (.value (.agg cs.toArray)) w := by
  have := run_loadAt_mid (P := Yacd.prog) w b off 61 cs (.array 128 5) hc Yacd.underlying61 rfl (by rw [hl]; exact size61)
  unfold execOp
  simp only [ho, hx, Sem.run_bind, this, Result.andThen_ok, Sem.run_pure]
theorem exec_build76 (x y z : Operand) (ho : o.op = .build 76 #[(0, x), (1, y), (2, z)]) (f p : Nat) (pg : List Value) (hx : a.eval x = .int .u8 f) (hy : a.eval y = .int .u16 p) (hz : a.eval z = .agg pg.toArray) (h : IsPg pg) :
    (execOp a.eval o).run Yacd.prog w = .ok (.value (.agg (cwc (f, p, pg)).toArray)) w := by
  have := run_build76 w f p pg h
  unfold execOp
  simp only [ho, List.map_toArray, List.map_cons, List.map_nil, hx, hy, hz, Sem.run_bind, this, Result.andThen_ok, Sem.run_pure]
theorem exec_build82 (x y z : Operand) (ho : o.op = .build 82 #[(0, x), (1, y), (2, z)]) (f p : Nat) (pg : List Value) (hx : a.eval x = .int .u8 f) (hy : a.eval y = .int .u16 p) (hz : a.eval z = .agg pg.toArray) (h : IsPg pg) :
    (execOp a.eval o).run Yacd.prog w = .ok (.value (.agg (mwc (f, p, pg, false)).toArray)) w := by
  have := run_build82 w f p pg h
  unfold execOp
  simp only [ho, List.map_toArray, List.map_cons, List.map_nil, hx, hy, hz, Sem.run_bind, this, Result.andThen_ok, Sem.run_pure]
theorem exec_buildSlice (x : Operand) (t e : TypeId) (ho : o.op = .buildSlice t 1 #[(0, x)]) {z : Value} {size bytes : Nat} (ht : Yacd.prog.underlying t = some (.slice e))
    (hinfo : (Yacd.prog.info? e).map (fun i => (i.zero, i.size, i.bytes)) = some (some z, size, bytes)) (hsz : 0 < size) (hsm : size ≤ 16777216) (cs : List Value) (hx : a.eval x = .agg cs.toArray) (hl : cs.length = size) :
    (execOp a.eval o).run Yacd.prog w = .ok (.value (.slice (some ⟨w.heap.size, 0, none⟩) 1 1)) (w.alloc (.cells cs.toArray e)) := by
  have := run_buildSlice1 (P := Yacd.prog) w t e ht hinfo hsz hsm cs hl
  unfold execOp
  simp only [ho, List.map_toArray, List.map_cons, List.map_nil, hx, Sem.run_bind, this, Result.andThen_ok, Sem.run_pure]
end
end Go.Proofs.Ygdacg
