/-
  diskKeeps: the loop.
-/
import Derived.Test.YgdacgAgree2
import Derived.Test.YgdacgArgs
import Derived.Test.YgdacgFill
namespace Go.Proofs.Ygdacg
open Go.RowKit
set_option linter.unusedVariables false
set_option linter.unusedSimpArgs false
attribute [local simp] zero61 zero76 zero82

/-- A step's cells. -/
def opc (o : Nat × Nat × Nat × Nat) : List Value := [.int .u8 o.1, .int .u8 o.2.1, .int .u16 o.2.2.1, .int .u8 o.2.2.2]
theorem size52 : (Yacd.prog.info? 52).map (·.size) = some 4 := by kernel_rfl
theorem wl_load52 {ops : Array Oper} {rest : List Oper} {o : Oper} {a : Act} {w : World} {Q : Exit → Act → World → Prop} (hgd : o.guard = none) (x : Operand) (ho : o.op = .load 52 x) (b off : Nat) (hx : a.eval x = .pointer (some ⟨b, off, none⟩)) (q : Nat × Nat × Nat × Nat) (hc : w.rangeAt b off (opc q))
    (h : wpList Yacd.prog ops Q rest (a.put o.dst (.agg (opc q).toArray)) w) : wpList Yacd.prog ops Q (o :: rest) a w :=
  wpList_load_mid hgd 52 x ho b off hx (opc q) _ hc Yacd.underlying52 rfl size52 h
theorem wl_store52_new {ops : Array Oper} {rest : List Oper} {o : Oper} {a : Act} {w : World} {Q : Exit → Act → World → Prop} (hgd : o.guard = none) (x y : Operand) (ho : o.op = .store 52 x y) (b : Nat) (q q0 : Nat × Nat × Nat × Nat)
    (hx : a.eval x = .pointer (some ⟨b, 0, none⟩)) (hy : a.eval y = .agg (opc q).toArray) (hb : World.blk w b 52 (opc q0))
    (h : ∀ w', World.blk w' b 52 (opc q) → Keep (fun k => k = b) w w' → w'.heap.size = w.heap.size → wpList Yacd.prog ops Q rest (a.put o.dst undef) w') : wpList Yacd.prog ops Q (o :: rest) a w :=
  wpList_store_mid hgd 52 x y ho b 0 (opc q).toArray hx hy (by simpa using blk_there hb (opc q).length (Nat.le_refl 4)) size52 (all_oneCell_toArray (fun v hv => by simp [opc] at hv; rcases hv with rfl | rfl | rfl | rfl <;> rfl))
    (h _ (blk_sets_whole hb (opc q) rfl) ((Keep.refl _ w).setCells b 0 (opc q) (.inl rfl)) (heap_setCells b (opc q) 0 w).1)
section
variable {o : Oper} {a : Act} {w : World} {b : Nat} {tys : Array TypeId}
theorem exec_inv_dead (x : Operand) (ho : o.op = .call { callee := .invoke x "Dead", args := #[], argTypes := tys }) (hx : a.eval x = dv b) : (execOp a.eval o).run Yacd.prog w = .ok (.enter 29 #[.pointer (some ⟨b, 0, none⟩)]) w :=
  exec_invoke x _ #[] tys ho b hx 29 (.pointer (some ⟨b, 0, none⟩)) (m_dead _) c_29 _ (by simp)
theorem exec_inv_size (x y : Operand) (ho : o.op = .call { callee := .invoke x "Size", args := #[y], argTypes := tys }) (hx : a.eval x = dv b) (vy : Value) (hy : a.eval y = vy) : (execOp a.eval o).run Yacd.prog w = .ok (.enter 27 #[.pointer (some ⟨b, 0, none⟩), vy]) w :=
  exec_invoke x _ #[y] tys ho b hx 27 (.pointer (some ⟨b, 0, none⟩)) (m_size _) c_27 _ (by simp [hy])
theorem exec_inv_sync (x y : Operand) (ho : o.op = .call { callee := .invoke x "Sync", args := #[y], argTypes := tys }) (hx : a.eval x = dv b) (vy : Value) (hy : a.eval y = vy) : (execOp a.eval o).run Yacd.prog w = .ok (.enter 26 #[.pointer (some ⟨b, 0, none⟩), vy]) w :=
  exec_invoke x _ #[y] tys ho b hx 26 (.pointer (some ⟨b, 0, none⟩)) (m_sync _) c_26 _ (by simp [hy])
theorem exec_inv_write (x y z u : Operand) (ho : o.op = .call { callee := .invoke x "Write", args := #[y, z, u], argTypes := tys }) (hx : a.eval x = dv b) (vy vz vu : Value) (hy : a.eval y = vy) (hz : a.eval z = vz) (hu : a.eval u = vu) : (execOp a.eval o).run Yacd.prog w = .ok (.enter 10 #[.pointer (some ⟨b, 0, none⟩), vy, vz, vu]) w :=
  exec_invoke x _ #[y, z, u] tys ho b hx 10 (.pointer (some ⟨b, 0, none⟩)) (m_write _) c_10 _ (by simp [hy, hz, hu])
end
@[go_sem] theorem field54_0 (x y : Value) (w : World) : (Instr.field 54 (.agg #[x, y]) 0).run Yacd.prog w = .ok x w := by kernel_rfl
@[go_sem] theorem field54_1 (x y : Value) (w : World) : (Instr.field 54 (.agg #[x, y]) 1).run Yacd.prog w = .ok y w := by kernel_rfl
theorem Script.step {w : World} {B : Nat} {ov : Value} {os : List (Nat × Nat × Nat × Nat)} (h : Script w B ov os) {k : Nat} (hk : k < os.length) : ∃ g off cap, ov = .slice (some ⟨g, off, none⟩) os.length cap ∧ w.rangeAt g (off + k * 4) (opc os[k]) := by
  obtain ⟨ao, c, rfl, h1, h2, h3⟩ := h
  obtain ⟨g, off, rfl, hg, g1, g2, g3, g4⟩ := h3 k hk
  refine ⟨g, off, c, rfl, fun j v hv => ?_⟩
  match j, hv with
  | 0, hv => obtain rfl := Option.some.inj hv; exact g1
  | 1, hv => obtain rfl := Option.some.inj hv; exact g2
  | 2, hv => obtain rfl := Option.some.inj hv; exact g3
  | 3, hv => obtain rfl := Option.some.inj hv; exact g4
  | n + 4, hv => simp [opc] at hv

/-- What stands ahead of round k. -/
def KRel (w : World) (m k b : Nat) (wr : World) : Prop := ∃ D M F G, DiskAt wr F b D ∧ ModAt wr G m M ∧ (∀ j, F j → ¬ G j) ∧ (∀ j, F j → w.heap.size ≤ j) ∧ (∀ j, G j → w.heap.size ≤ j) ∧ Agree D M ∧ M.ws.length ≤ k ∧ Keep Non w wr

theorem mod_new (w : World) (at_ : Int) (ha : at_ ≤ 9223372036854775807) (ha0 : -9223372036854775808 ≤ at_) : ModAt (w.alloc (.cells #[.slice none 0 0, .int .i64 0, .int .i64 at_, .bool false] 59)) (fun j => j = w.heap.size) w.heap.size { ws := [], calls := 0, at_ := at_, dead := false } := by
  have hok : MOK { ws := [], calls := 0, at_ := at_, dead := false } := by
    refine ⟨fun e he => ?_, ha, ha0, ?_, ?_⟩
    · cases he
    · show (0 : Int) ≤ _
      decide
    · show _ ≤ (0 : Int)
      decide
  refine ⟨.slice none 0 0, ⟨hok, fun j hj => ?_, rfl, blk_new _ _ [.slice none 0 0, .int .i64 0, .int .i64 at_, .bool false], World.ownsRow_nil _ 0 82 131, fun j e => ?_⟩⟩
  · subst hj
    simp
  · simp [Value.ownBlock] at e
theorem KRel.keep {w : World} {m k b : Nat} {w1 w2 : World} (h : KRel w m k b w1) (hk : Keep Non w1 w2) : KRel w m k b w2 := by
  obtain ⟨D, M, F, G, h1, h2, h3, h4, h5, h6, h7, h8⟩ := h
  exact ⟨D, M, F, G, h1.keep hk (fun _ _ e => e), h2.keep hk (fun _ _ e => e), h3, h4, h5, h6, h7, h8.trans_same hk⟩
theorem KRel.up {w : World} {m k b : Nat} {w1 : World} (h : KRel w m k b w1) : KRel w m (k + 1) b w1 := by
  obtain ⟨D, M, F, G, h1, h2, h3, h4, h5, h6, h7, h8⟩ := h
  exact ⟨D, M, F, G, h1, h2, h3, h4, h5, h6, by omega, h8⟩
/-- A step of both. -/
theorem KRel.step2 {w w1 w2 w3 : World} {F F2 G : Nat → Prop} {m k b : Nat} {D : DS} {M : MS} (hFG : ∀ j, F j → ¬ G j) (hFw : ∀ j, F j → w.heap.size ≤ j) (hGw : ∀ j, G j → w.heap.size ≤ j) (hGlt : ∀ j, G j → j < w1.heap.size) (hKw : Keep Non w w1)
    (hD2 : DiskAt w2 F2 b D) (hF2 : ∀ j, F2 j → F j ∨ w1.heap.size ≤ j) (hk12 : Keep F w1 w2) (hM3 : ModAt w3 (Ext G w2 w3) m M) (hk23 : Keep G w2 w3) (hA : Agree D M) (hlen : M.ws.length ≤ k) : KRel w m k b w3 := by
  have z1 := hKw.size
  have z2 := hk12.size
  have hfp : ∀ j, F2 j → j < w2.heap.size := by obtain ⟨v, vc, hI⟩ := hD2; exact hI.fp
  have hn : ∀ j, F2 j → ¬ G j := fun j hj hg => by
    rcases hF2 j hj with h | h
    · exact hFG j h hg
    · have := hGlt j hg
      omega
  refine ⟨D, M, F2, Ext G w2 w3, hD2.keep hk23 hn, hM3, fun j hj hg => ?_, fun j hj => ?_, fun j hj => ?_, hA, hlen, ?_⟩
  · rcases hg with hg | hg
    · exact hn j hj hg
    · have := hfp j hj
      omega
  · rcases hF2 j hj with h | h
    · exact hFw j h
    · omega
  · rcases hj with hg | hg
    · exact hGw j hg
    · omega
  · refine (hKw.trans hk12 fun j hj hlt => ?_).trans hk23 fun j hj hlt => ?_
    · have := hFw j hj
      omega
    · have := hGw j hj
      omega
set_option maxRecDepth 100000 in
set_option maxHeartbeats 4000000 in
theorem keeps_any (w : World) (ov pv : Value) (os : List (Nat × Nat × Nat × Nat)) (ps : List (Int × Int)) (hS : Script w w.heap.size ov os) (hP : Plans w w.heap.size pv ps)
    (hpl : ∀ j, (planL ps j).1 ≤ 9223372036854775807 ∧ -9223372036854775808 ≤ (planL ps j).1 ∧ 0 ≤ (planL ps j).2 ∧ (planL ps j).2 ≤ 18446744073709551615) :
    Calls Yacd.prog 6 #[.func (.func 7) #[] #[], ov, pv] w fun e w' => e = .returned (.bool true) ∧ Keep Non w w' := by
  have Hpl : Hid (∀ j, (planL ps j).1 ≤ 9223372036854775807 ∧ -9223372036854775808 ≤ (planL ps j).1 ∧ 0 ≤ (planL ps j).2 ∧ (planL ps j).2 ≤ 18446744073709551615) := hpl
  clear hpl
  go_enter Yacd.func6, Yacd.ntmps6
  go_wp2_with (go_at_call 14; refine (cut_any w w.heap.size ov os hS).mono ?_; rintro e w1 ⟨v, rfl, hS1, hw⟩; have hw' := hw.symm; clear hw; subst hw')
  obtain ⟨ao, cp, hv, -⟩ := id hS1
  have hn64 : (os.take 64).length ≤ 64 := by rw [List.length_take]; omega
  generalize os.take 64 = ol at *
  subst hv
  have hp0 := planAt_any w w.heap.size pv ps hP 0 (by omega)
  go_wp2_with (first | (with_reducible refine hp0.mono ?_; rintro e w1 ⟨rfl, hk1⟩) | (go_at_call 7; refine (mk_any (w := w1) (planL ps 0).1 (Hpl.out 0).1 (Hpl.out 0).2.1).mono ?_; rintro e w2 ⟨rfl, hR⟩))
  obtain ⟨F0, v0, hI0, hF0, hk2⟩ := hR
  have hk12 := hk1.trans_same hk2
  refine (planAt_any w2 w.heap.size pv ps (hP.keep hk12 (fun _ e => e.elim)) 0 (by omega)).mono ?_
  rintro e w3 ⟨rfl, hk3⟩
  have hk13 := hk12.trans_same hk3
  have hm0 := mod_new w3 (planL ps 0).1 (Hpl.out 0).1 (Hpl.out 0).2.1
  have hkr0 : KRel w w3.heap.size 0 w1.heap.size (w3.alloc (.cells #[.slice none 0 0, .int .i64 0, .int .i64 (planL ps 0).1, .bool false] 59)) := by
    have hz1 := hk1.size
    have hz := hk13.size
    have hka := (hk3.trans_same ((Keep.refl Non w3).alloc (.cells #[.slice none 0 0, .int .i64 0, .int .i64 (planL ps 0).1, .bool false] 59)))
    refine ⟨newD (planL ps 0).1, _, F0, _, ⟨v0, _, hI0.keep hka (fun _ _ e => e)⟩, hm0, fun j hj e => ?_, fun j hj => ?_, fun j hj => ?_, agree_new _, Nat.le_refl _, hk12.trans_same hka⟩
    · have h1 := hI0.fp j hj
      have h2 := hk3.size
      omega
    · have := hF0 j hj
      omega
    · omega
  clear hm0 hI0 hF0
  have hkw := hk13.trans_same ((Keep.refl Non w3).alloc (.cells #[.slice none 0 0, .int .i64 0, .int .i64 (planL ps 0).1, .bool false] 59))
  have hn64' : (ol.length : Int) ≤ 64 := by omega
  go_wp2_with fail
  go_loopg [7, 9, 33] ol.length (fun q d r i wr => ∃ k rr b : Nat, k + q = ol.length ∧ i = .int .i64 k ∧ r = .int .i64 rr ∧ rr ≤ k ∧ d = dv b ∧ KRel w w3.heap.size k b wr)
  case atStart => exact ⟨0, 0, w1.heap.size, by omega, rfl, rfl, by omega, rfl, hkr0⟩
  case round =>
    clear hkr0
    obtain ⟨k, rr, b, hkq, rfl, rfl, hrr, rfl, hK⟩ := hrel
    by_cases hk : k < ol.length
    · have hk' : (k : Int) < (ol.length : Int) := by omega
      obtain ⟨D, M, F, G, hD, hM, hFG, hFw, hGw, hA, hMl, hKw⟩ := id hK
      obtain ⟨g, off, cap', hv, hrange⟩ := (hS1.keep hKw (fun _ e => e.elim)).step hk
      simp only [Value.slice.injEq, true_and] at hv
      obtain ⟨rfl, rfl⟩ := hv
      generalize ol[k] = q at hrange
      go_wp2_with (first | (refine wl_load52 rfl _ rfl _ _ rfl q hrange ?_) | (refine wl_store52_new rfl _ _ rfl wr.heap.size q (0, 0, 0, 0) rfl rfl (blk_new _ _ _) ?_))
      intro w4 hb4 hk4 hs4
      have hKn4 : Keep Non wr w4 := ((Keep.refl _ wr).alloc _).trans hk4 (fun j e hlt => by omega)
      have hK4 := hK.keep hKn4
      have hs4' : w4.heap.size = wr.heap.size + 1 := by rw [hs4]
      clear hrange hk4 hs4 hK
      have c0 : w4.cell? ⟨wr.heap.size, 0, none⟩ = some (.int .u8 q.1) := by rw [blk_cell hb4]; rfl
      have c1 : w4.cell? ⟨wr.heap.size, 1, none⟩ = some (.int .u8 q.2.1) := by rw [blk_cell hb4]; rfl
      have c2 : w4.cell? ⟨wr.heap.size, 2, none⟩ = some (.int .u16 q.2.2.1) := by rw [blk_cell hb4]; rfl
      have c3 : w4.cell? ⟨wr.heap.size, 3, none⟩ = some (.int .u8 q.2.2.2) := by rw [blk_cell hb4]; rfl
      by_cases h0 : q.1 = 0
      · have e0 : ((q.1 : Int) == 0) = true := beq_iff_eq.2 (by omega)
        have hD4 := hD.keep hKn4 (fun _ _ e => e)
        have hM4 := hM.keep hKn4 (fun _ _ e => e)
        have hok : DOK D := by obtain ⟨v, vc, h⟩ := hD; exact h.ok
        have hmok : MOK M := by obtain ⟨v, h⟩ := hM; exact h.ok
        have Hz1 : Hid (∀ f, f < 2 → D.z f ≤ 1024) := (hA.bounds hmok).1
        have hpg := readD_is hok q.2.1 q.2.2.1
        have HR : Hid (readM M q.2.1 q.2.2.1 = readD D q.2.1 q.2.2.1) := hA.read _ _
        have hlen : M.ws.length ≤ 4096 := by omega
        clear hok hmok hA hFG hFw hGw hD hM hb4
        go_wp2_with (first | (refine wl_inv_read rfl _ _ _ rfl rfl (.int .u8 q.2.1) (.int .u16 q.2.2.1) rfl rfl (read_any hD4 q.2.1 q.2.2.1 Hz1.out) ?_; rintro w5 hk5) | (refine wl_store61_new rfl _ _ rfl w5.heap.size (readD D q.2.1 q.2.2.1).1 zpg rfl rfl hpg.len hpg.one (blk_new _ _ _) zpg_is.len ?_))
        intro w6 hb6 hk6 hs6
        have hK46 : Keep Non w4 w6 := hk5.trans (((Keep.refl (fun k => k = w5.heap.size) w5).alloc _).trans_same hk6) (fun j e hlt => by have := hk5.size; omega)
        have c1' := hK46.cell c1 (fun e => e)
        have c2' := hK46.cell c2 (fun e => e)
        clear hk6 hk5
        go_wp2_with (first | (go_at_call 16; refine (readM_any (hM4.keep hK46 (fun _ _ e => e)) q.2.1 q.2.2.1 hlen).mono ?_; rw [HR.out]; rintro e w7 ⟨rfl, hk7⟩) | (refine wl_store61_new rfl _ _ rfl w7.heap.size (readD D q.2.1 q.2.2.1).1 zpg rfl rfl hpg.len hpg.one (blk_new _ _ _) zpg_is.len ?_))
        intro w8 hb8 hk8 hs8
        have hK68 : Keep Non w6 w8 := hk7.trans (((Keep.refl (fun k => k = w7.heap.size) w7).alloc _).trans_same hk8) (fun j e hlt => by have := hk7.size; omega)
        have hb6' := blk_keep hb6 hK68 (fun e => e)
        go_wp2_with (first | (refine wl_want rfl (exec_load61 _ rfl w5.heap.size 0 rfl (readD D q.2.1 q.2.2.1).1 hpg.len (blk_range hb6')) ?_) | (refine wl_want rfl (exec_load61 _ rfl w7.heap.size 0 rfl (readD D q.2.1 q.2.2.1).1 hpg.len (blk_range hb8)) ?_) | (refine wl_want rfl (exec_neq _ _ rfl (readD D q.2.1 q.2.2.1).1 rfl rfl hpg) ?_))
        have hKx := (hK4.keep (hK46.trans_same hK68)).up
        clear hK46 hK68 hb6' hb8 hb6 hk7 hk8 c1' c2' HR hpg hD4 hM4
        obtain ⟨Dt, Mt, Ft, Gt, hDt, hMt, hFGt, hFwt, hGwt, hAt, hMlt, hKwt⟩ := id hKx
        have cd : (w8).drew.cell? ⟨w3.heap.size, 3, none⟩ = some (.bool (dead Dt)) := by
          obtain ⟨vw, hIm⟩ := hMt
          rw [← hAt.dd]
          exact hIm.cDead
        have hDd := hDt.keep ((Keep.refl Non (w8)).drew) (fun _ _ e => e)
        clear hFGt hFwt hGwt hAt hMlt hKwt hMt
        refine wp_plan (fun w' => w'.cell? ⟨w3.heap.size, 3, none⟩ = some (.bool (dead Dt))) [(0, 0), (0, 2), (0, 3), (0, 4), (1, 5)] [1] 6 [] (by kernel_rfl) (by kernel_rfl) (by kernel_rfl) cd ?_
        intro N hN
        simp only [List.filterMap_cons, List.filterMap_nil, List.getElem?_toArray, List.getElem?_cons_succ, List.getElem?_cons_zero, Option.map_some] at hN ⊢
        repeat (first
          | (refine quiet_free (v := ?_) rfl ?_ ?_; rotate_left; focus (intro w'; go_simp; try with_reducible rfl))
          | (refine quiet_held (v := ?_) rfl ?_ ?_; rotate_left; focus (intro w' hw'; go_simp; try with_reducible rfl)))
        refine quiet_done (hN _ ?_)
        clear hN
        simp only [Act.put, List.setIfInBounds_toArray, List.set_cons_zero, List.set_cons_succ]
        refine loud_call rfl (exec_inv_dead _ rfl rfl) ?_
        refine (dead_any hDd).mono ?_
        rintro e w6 ⟨rfl, n6, rfl⟩
        refine ⟨_, rfl, cd, loud_done ?_⟩
        simp only [Act.put, List.setIfInBounds_toArray, List.set_cons_zero, List.set_cons_succ]
        change wpList _ _ _ [_] _ _
        go_wp2_with fail
        refine NP.at_normal ?_
        go_wp2_with fail
        go_roundg (gk - 1)
        case measure => omega
        case rel => exact ⟨k + 1, rr, b, by omega, by go_num, rfl, by omega, rfl, hKx.keep ((Keep.refl Non _).drewN _)⟩
      · have e0 : ((q.1 : Int) == 0) = false := beq_eq_false_iff_ne.2 (by omega)
        by_cases h1 : q.1 = 1
        · have e1 : ((q.1 : Int) == 1) = true := beq_iff_eq.2 (by omega)
          have hFlt : ∀ j, F j → j < wr.heap.size := by obtain ⟨v, vc, h⟩ := hD; exact h.fp
          have hGlt : ∀ j, G j → j < wr.heap.size := by obtain ⟨v, h⟩ := hM; exact h.fp
          have hlen : M.ws.length ≤ 4095 := by omega
          have hz4 := hKn4.size
          go_wp2_with (first | (go_at_call 17; refine (fill_any q.2.2.1 q.2.2.2 w4).mono ?_; rintro e w5 ⟨p, hp, rfl, hk5⟩) | (refine wl_store61_new rfl _ _ rfl w5.heap.size p zpg rfl rfl hp.len hp.one (blk_new _ _ _) zpg_is.len ?_))
          intro w6 hb6 hk6 hs6
          have hz5 := hk5.size
          have hK46 : Keep Non w4 w6 := hk5.trans (((Keep.refl (fun k => k = w5.heap.size) w5).alloc _).trans_same hk6) (fun j e hlt => by omega)
          have hKr6 : Keep Non wr w6.drew := (hKn4.trans_same hK46).drew
          have hD6 := hD.keep hKr6 (fun _ _ e => e)
          have hM6 := hM.keep hKr6 (fun _ _ e => e)
          have hKw6 := hKw.trans_same hKr6
          have hz6 := hKr6.size
          have b6 : World.blk w6.drew wr.heap.size 52 (opc q) := blk_drew (blk_keep hb4 hK46 (fun e => e))
          have s1 : w6.drew.cell? ⟨wr.heap.size, 1, none⟩ = some (.int .u8 q.2.1) := by rw [blk_cell b6]; rfl
          have s2 : w6.drew.cell? ⟨wr.heap.size, 2, none⟩ = some (.int .u16 q.2.2.1) := by rw [blk_cell b6]; rfl
          have HA : Hid (Agree D M) := hA
          clear hk6 hk5 hA hD hM hKn4 hb4 c0 c1 c2 c3
          go_wp2_with fail
          refine wp_plan (fun w' => w'.cell? ⟨wr.heap.size, 1, none⟩ = some (.int .u8 q.2.1) ∧ w'.cell? ⟨wr.heap.size, 2, none⟩ = some (.int .u16 q.2.2.1) ∧ World.blk w' w5.heap.size 61 p) [(1, 11), (0, 0), (0, 1), (1, 2), (0, 3), (1, 4), (0, 6), (0, 7), (1, 8), (0, 9), (1, 10)] [5] 12 [13] (by kernel_rfl) (by kernel_rfl) (by kernel_rfl) ⟨s1, s2, blk_drew hb6⟩ ?_
          intro N hN
          simp only [List.filterMap_cons, List.filterMap_nil, List.getElem?_toArray, List.getElem?_cons_succ, List.getElem?_cons_zero, Option.map_some] at hN ⊢
          refine quiet_held rfl (fun w' hw' => exec_load61 _ rfl w5.heap.size 0 rfl p hp.len (blk_range hw'.2.2)) ?_
          repeat (first
            | (refine quiet_free (v := ?_) rfl ?_ ?_; rotate_left; focus (intro w'; go_simp; try with_reducible rfl))
            | (refine quiet_held (v := ?_) rfl ?_ ?_; rotate_left; focus (intro w' hw'; obtain ⟨t1, t2, t3⟩ := hw'; clear t3; go_simp; try with_reducible rfl)))
          refine quiet_done (hN _ ?_)
          clear hN
          simp only [Act.put, List.setIfInBounds_toArray, List.set_cons_zero, List.set_cons_succ]
          refine loud_call rfl (exec_inv_write _ _ _ _ rfl rfl (.int .u8 q.2.1) (.int .u16 q.2.2.1) (.pointer (some ⟨w5.heap.size, 0, none⟩)) rfl rfl rfl) ?_
          refine (write_any hD6 HA.out.live q.2.1 q.2.2.1 w5.heap.size 0 p hp (blk_range (blk_drew hb6)) (fun hf => by have := hFlt _ hf; omega)).mono ?_
          rintro e w7 ⟨rfl, hD7, hk7⟩
          have hnF : ¬ F wr.heap.size := fun hf => by have := hFlt _ hf; omega
          have hnF5 : ¬ F w5.heap.size := fun hf => by have := hFlt _ hf; omega
          refine ⟨_, rfl, ⟨hk7.cell s1 hnF, hk7.cell s2 hnF, blk_keep (blk_drew hb6) hk7 hnF5⟩, loud_done ?_⟩
          have hM7 := hM6.keep hk7 (fun j hg hf => hFG j hf hg)
          clear s1 s2 b6 hb6
          simp only [Act.put, List.setIfInBounds_toArray, List.set_cons_zero, List.set_cons_succ]
          change wpList _ _ _ [_, _] _ _
          go_wp2_with (go_at_call 18; refine (mwrite_any hM7 HA.out.mlive q.2.1 q.2.2.1 p hp hlen).mono ?_; rw [(HA.out.write q.2.1 q.2.2.1 p).1]; rintro e w8 ⟨rfl, hM8, hk8⟩)
          refine NP.at_normal ?_
          go_wp2_with fail
          have hml := mwriteD_len M q.2.1 q.2.2.1 p
          have hKx : KRel w w3.heap.size (k + 1) b w8 := KRel.step2 hFG hFw hGw (fun j hg => by have := hGlt j hg; omega) hKw6 hD7 (fun j hj => hj.imp id And.left) hk7 hM8 hk8 (HA.out.write q.2.1 q.2.2.1 p).2 (by omega)
          clear hml hM7 hM8 hk8 hk7 hD7 hM6 hD6 HA hFG hFw hGw hKw6 hKr6 hK46
          obtain ⟨Dt, Mt, Ft, Gt, hDt, hMt, hFGt, hFwt, hGwt, hAt, hMlt, hKwt⟩ := id hKx
          have cd : (w8).drew.cell? ⟨w3.heap.size, 3, none⟩ = some (.bool (dead Dt)) := by
            obtain ⟨vw, hIm⟩ := hMt
            rw [← hAt.dd]
            exact hIm.cDead
          have hDd := hDt.keep ((Keep.refl Non (w8)).drew) (fun _ _ e => e)
          clear hFGt hFwt hGwt hAt hMlt hKwt hMt
          refine wp_plan (fun w' => w'.cell? ⟨w3.heap.size, 3, none⟩ = some (.bool (dead Dt))) [(0, 0), (0, 2), (0, 3), (0, 4), (1, 5)] [1] 6 [] (by kernel_rfl) (by kernel_rfl) (by kernel_rfl) cd ?_
          intro N hN
          simp only [List.filterMap_cons, List.filterMap_nil, List.getElem?_toArray, List.getElem?_cons_succ, List.getElem?_cons_zero, Option.map_some] at hN ⊢
          repeat (first
            | (refine quiet_free (v := ?_) rfl ?_ ?_; rotate_left; focus (intro w'; go_simp; try with_reducible rfl))
            | (refine quiet_held (v := ?_) rfl ?_ ?_; rotate_left; focus (intro w' hw'; go_simp; try with_reducible rfl)))
          refine quiet_done (hN _ ?_)
          clear hN
          simp only [Act.put, List.setIfInBounds_toArray, List.set_cons_zero, List.set_cons_succ]
          refine loud_call rfl (exec_inv_dead _ rfl rfl) ?_
          refine (dead_any hDd).mono ?_
          rintro e w6 ⟨rfl, n6, rfl⟩
          refine ⟨_, rfl, cd, loud_done ?_⟩
          simp only [Act.put, List.setIfInBounds_toArray, List.set_cons_zero, List.set_cons_succ]
          change wpList _ _ _ [_] _ _
          go_wp2_with fail
          refine NP.at_normal ?_
          go_wp2_with fail
          go_roundg (gk - 1)
          case measure => omega
          case rel => exact ⟨k + 1, rr, b, by omega, by go_num, rfl, by omega, rfl, hKx.keep ((Keep.refl Non _).drewN _)⟩
        · have e1 : ((q.1 : Int) == 1) = false := beq_eq_false_iff_ne.2 (by omega)
          by_cases h2 : q.1 = 2
          · have e2 : ((q.1 : Int) == 2) = true := beq_iff_eq.2 (by omega)
            have hFlt : ∀ j, F j → j < wr.heap.size := by obtain ⟨v, vc, h⟩ := hD; exact h.fp
            have hGlt : ∀ j, G j → j < wr.heap.size := by obtain ⟨v, h⟩ := hM; exact h.fp
            have hmok : MOK M := by obtain ⟨v, h⟩ := hM; exact h.ok
            have Hb : Hid (_ ∧ _ ∧ _ ∧ _) := hA.bounds hmok
            have hlen : M.ws.length ≤ 4096 := by omega
            have hKr4 : Keep Non wr w4.drew := hKn4.drew
            have hD4 := hD.keep hKr4 (fun _ _ e => e)
            have hM4 := hM.keep hKr4 (fun _ _ e => e)
            have hKw4 := hKw.trans_same hKr4
            have hz4 := hKr4.size
            have s1 : w4.drew.cell? ⟨wr.heap.size, 1, none⟩ = some (.int .u8 q.2.1) := c1
            have HA : Hid (Agree D M) := hA
            clear hA hmok hD hM hKn4 hb4 c2 c3
            go_wp2_with fail
            refine wp_plan (fun w' => w'.cell? ⟨wr.heap.size, 1, none⟩ = some (.int .u8 q.2.1)) [(0, 0), (0, 1), (1, 2), (0, 4), (0, 5), (1, 6)] [3] 7 [8] (by kernel_rfl) (by kernel_rfl) (by kernel_rfl) s1 ?_
            intro N hN
            simp only [List.filterMap_cons, List.filterMap_nil, List.getElem?_toArray, List.getElem?_cons_succ, List.getElem?_cons_zero, Option.map_some] at hN ⊢
            repeat (first
              | (refine quiet_free (v := ?_) rfl ?_ ?_; rotate_left; focus (intro w'; go_simp; try with_reducible rfl))
              | (refine quiet_held (v := ?_) rfl ?_ ?_; rotate_left; focus (intro w' hw'; go_simp; try with_reducible rfl)))
            refine quiet_done (hN _ ?_)
            clear hN
            simp only [Act.put, List.setIfInBounds_toArray, List.set_cons_zero, List.set_cons_succ]
            refine loud_call rfl (exec_inv_sync _ _ rfl rfl (.int .u8 q.2.1) rfl) ?_
            refine (sync_any hD4 HA.out.live q.2.1 (fun e he => (Hb.out.2.2.1 e he).2) (by have := Hb.out.2.2.2; omega)).mono ?_
            rintro e w7 ⟨rfl, hD7, hk7⟩
            have hnF : ¬ F wr.heap.size := fun hf => by have := hFlt _ hf; omega
            refine ⟨_, rfl, hk7.cell s1 hnF, loud_done ?_⟩
            have hM7 := hM4.keep hk7 (fun j hg hf => hFG j hf hg)
            clear s1
            simp only [Act.put, List.setIfInBounds_toArray, List.set_cons_zero, List.set_cons_succ]
            change wpList _ _ _ [_, _] _ _
            go_wp2_with (go_at_call 19; refine (msync_any hM7 HA.out.mlive q.2.1 hlen).mono ?_; rw [(HA.out.sync q.2.1).1]; rintro e w8 ⟨rfl, hM8, hk8⟩)
            refine NP.at_normal ?_
            go_wp2_with fail
            have hml := msyncD_len M q.2.1
            have hKx : KRel w w3.heap.size (k + 1) b w8 := KRel.step2 hFG hFw hGw (fun j hg => by have := hGlt j hg; omega) hKw4 hD7 (fun j hj => hj.imp id And.left) hk7 (hM8.ext hk8.size) hk8 (HA.out.sync q.2.1).2 (by omega)
            clear hml hM7 hM8 hk8 hk7 hD7 hM4 hD4 HA hFG hFw hGw hKw4 hKr4
            obtain ⟨Dt, Mt, Ft, Gt, hDt, hMt, hFGt, hFwt, hGwt, hAt, hMlt, hKwt⟩ := id hKx
            have cd : (w8).drew.cell? ⟨w3.heap.size, 3, none⟩ = some (.bool (dead Dt)) := by
              obtain ⟨vw, hIm⟩ := hMt
              rw [← hAt.dd]
              exact hIm.cDead
            have hDd := hDt.keep ((Keep.refl Non (w8)).drew) (fun _ _ e => e)
            clear hFGt hFwt hGwt hAt hMlt hKwt hMt
            refine wp_plan (fun w' => w'.cell? ⟨w3.heap.size, 3, none⟩ = some (.bool (dead Dt))) [(0, 0), (0, 2), (0, 3), (0, 4), (1, 5)] [1] 6 [] (by kernel_rfl) (by kernel_rfl) (by kernel_rfl) cd ?_
            intro N hN
            simp only [List.filterMap_cons, List.filterMap_nil, List.getElem?_toArray, List.getElem?_cons_succ, List.getElem?_cons_zero, Option.map_some] at hN ⊢
            repeat (first
              | (refine quiet_free (v := ?_) rfl ?_ ?_; rotate_left; focus (intro w'; go_simp; try with_reducible rfl))
              | (refine quiet_held (v := ?_) rfl ?_ ?_; rotate_left; focus (intro w' hw'; go_simp; try with_reducible rfl)))
            refine quiet_done (hN _ ?_)
            clear hN
            simp only [Act.put, List.setIfInBounds_toArray, List.set_cons_zero, List.set_cons_succ]
            refine loud_call rfl (exec_inv_dead _ rfl rfl) ?_
            refine (dead_any hDd).mono ?_
            rintro e w6 ⟨rfl, n6, rfl⟩
            refine ⟨_, rfl, cd, loud_done ?_⟩
            simp only [Act.put, List.setIfInBounds_toArray, List.set_cons_zero, List.set_cons_succ]
            change wpList _ _ _ [_] _ _
            go_wp2_with fail
            refine NP.at_normal ?_
            go_wp2_with fail
            go_roundg (gk - 1)
            case measure => omega
            case rel => exact ⟨k + 1, rr, b, by omega, by go_num, rfl, by omega, rfl, hKx.keep ((Keep.refl Non _).drewN _)⟩
          · have e2 : ((q.1 : Int) == 2) = false := beq_eq_false_iff_ne.2 (by omega)
            by_cases h3 : q.1 = 3
            · have e3 : ((q.1 : Int) == 3) = true := beq_iff_eq.2 (by omega)
              have Hz : Hid (sizeM M q.2.1 = sizeD D q.2.1) := hA.size _
              have hlen : M.ws.length ≤ 4096 := by omega
              have hKr4 : Keep Non wr w4.drew := hKn4.drew
              have hD4 := hD.keep hKr4 (fun _ _ e => e)
              have hM4 := hM.keep hKn4 (fun _ _ e => e)
              have s1 : w4.drew.cell? ⟨wr.heap.size, 1, none⟩ = some (.int .u8 q.2.1) := c1
              clear hA hD hM hKn4 hb4 c2 c3 hFG hFw hGw
              go_wp2_with fail
              refine wp_plan (fun w' => w'.cell? ⟨wr.heap.size, 1, none⟩ = some (.int .u8 q.2.1)) [(0, 0), (0, 1), (1, 2), (0, 4), (0, 5), (1, 6)] [3] 7 [8] (by kernel_rfl) (by kernel_rfl) (by kernel_rfl) s1 ?_
              intro N hN
              simp only [List.filterMap_cons, List.filterMap_nil, List.getElem?_toArray, List.getElem?_cons_succ, List.getElem?_cons_zero, Option.map_some] at hN ⊢
              repeat (first
                | (refine quiet_free (v := ?_) rfl ?_ ?_; rotate_left; focus (intro w'; go_simp; try with_reducible rfl))
                | (refine quiet_held (v := ?_) rfl ?_ ?_; rotate_left; focus (intro w' hw'; go_simp; try with_reducible rfl)))
              refine quiet_done (hN _ ?_)
              clear hN
              simp only [Act.put, List.setIfInBounds_toArray, List.set_cons_zero, List.set_cons_succ]
              refine loud_call rfl (exec_inv_size _ _ rfl rfl (.int .u8 q.2.1) rfl) ?_
              refine (size_any hD4 q.2.1).mono ?_
              rintro e w7 ⟨rfl, n7, rfl⟩
              refine ⟨_, rfl, s1, loud_done ?_⟩
              have hM7 := hM4.keep ((Keep.refl Non w4).drewN (1 + n7)) (fun _ _ e => e)
              clear s1
              simp only [Act.put, List.setIfInBounds_toArray, List.set_cons_zero, List.set_cons_succ]
              change wpList _ _ _ [_, _] _ _
              go_wp2_with (go_at_call 20; refine (sizeM_any hM7 q.2.1 hlen).mono ?_; rw [Hz.out]; rintro e w8 ⟨rfl, hk8⟩)
              refine NP.at_normal ?_
              go_wp2_with fail
              have hKx : KRel w w3.heap.size (k + 1) b w8 := (hK4.keep (((Keep.refl Non w4).drewN (1 + n7)).trans_same hk8)).up
              clear hM7 hk8 hM4 hD4 Hz
              obtain ⟨Dt, Mt, Ft, Gt, hDt, hMt, hFGt, hFwt, hGwt, hAt, hMlt, hKwt⟩ := id hKx
              have cd : (w8).drew.cell? ⟨w3.heap.size, 3, none⟩ = some (.bool (dead Dt)) := by
                obtain ⟨vw, hIm⟩ := hMt
                rw [← hAt.dd]
                exact hIm.cDead
              have hDd := hDt.keep ((Keep.refl Non (w8)).drew) (fun _ _ e => e)
              clear hFGt hFwt hGwt hAt hMlt hKwt hMt
              refine wp_plan (fun w' => w'.cell? ⟨w3.heap.size, 3, none⟩ = some (.bool (dead Dt))) [(0, 0), (0, 2), (0, 3), (0, 4), (1, 5)] [1] 6 [] (by kernel_rfl) (by kernel_rfl) (by kernel_rfl) cd ?_
              intro N hN
              simp only [List.filterMap_cons, List.filterMap_nil, List.getElem?_toArray, List.getElem?_cons_succ, List.getElem?_cons_zero, Option.map_some] at hN ⊢
              repeat (first
                | (refine quiet_free (v := ?_) rfl ?_ ?_; rotate_left; focus (intro w'; go_simp; try with_reducible rfl))
                | (refine quiet_held (v := ?_) rfl ?_ ?_; rotate_left; focus (intro w' hw'; go_simp; try with_reducible rfl)))
              refine quiet_done (hN _ ?_)
              clear hN
              simp only [Act.put, List.setIfInBounds_toArray, List.set_cons_zero, List.set_cons_succ]
              refine loud_call rfl (exec_inv_dead _ rfl rfl) ?_
              refine (dead_any hDd).mono ?_
              rintro e w6 ⟨rfl, n6, rfl⟩
              refine ⟨_, rfl, cd, loud_done ?_⟩
              simp only [Act.put, List.setIfInBounds_toArray, List.set_cons_zero, List.set_cons_succ]
              change wpList _ _ _ [_] _ _
              go_wp2_with fail
              refine NP.at_normal ?_
              go_wp2_with fail
              go_roundg (gk - 1)
              case measure => omega
              case rel => exact ⟨k + 1, rr, b, by omega, by go_num, rfl, by omega, rfl, hKx.keep ((Keep.refl Non _).drewN _)⟩
            · have e3 : ((q.1 : Int) == 3) = false := beq_eq_false_iff_ne.2 (by omega)
              by_cases h4 : q.1 = 4
              · have e4 : ((q.1 : Int) == 4) = true := beq_iff_eq.2 (by omega)
                have hFlt : ∀ j, F j → j < wr.heap.size := by obtain ⟨v, vc, h⟩ := hD; exact h.fp
                have hGlt : ∀ j, G j → j < wr.heap.size := by obtain ⟨v, h⟩ := hM; exact h.fp
                have hmok : MOK M := by obtain ⟨v, h⟩ := hM; exact h.ok
                have Hb : Hid (_ ∧ _ ∧ _ ∧ _) := hA.bounds hmok
                have hlen : M.ws.length ≤ 4096 := by omega
                have hrr' : (rr : Int) ≤ 64 := by omega
                have hP4 := hP.keep (hKw.trans_same hKn4) (fun _ e => e.elim)
                have HA : Hid (Agree D M) := hA
                clear hA hmok hb4 c1 c2 c3
                have hpa := planAt_any w4 w.heap.size pv ps hP4 (rr : Int) (by omega)
                have et1 : ((rr : Int)).toNat = rr := by omega
                have et2 : ((rr : Int) + 1).toNat = rr + 1 := by omega
                rw [et1] at hpa
                go_wp2_with (with_reducible refine hpa.mono ?_; rintro e w5 ⟨rfl, hk5⟩)
                clear hpa
                have hpb := planAt_any w5 w.heap.size pv ps (hP4.keep hk5 (fun _ e => e.elim)) ((rr : Int) + 1) (by omega)
                rw [et2] at hpb
                refine hpb.mono ?_
                rintro e w6 ⟨rfl, hk6⟩
                clear hpb et1 et2
                have Hq1 := Hpl.out rr
                have Hq2 := Hpl.out (rr + 1)
                generalize planL ps rr = p1 at *
                generalize planL ps (rr + 1) = p2 at *
                have hR := HA.out.reboot p1.2 p2.1 Hq1.2.2.1 Hq1.2.2.2
                have hq1 : Hid _ := Hq2.1
                have hq2 : Hid _ := Hq2.2.1
                have HR : Hid _ := hR
                clear Hq1 Hq2 hR
                have hKr6 : Keep Non wr w6 := (hKn4.trans_same hk5).trans_same hk6
                have hD6 := hD.keep hKr6 (fun _ _ e => e)
                have hM6 := hM.keep hKr6 (fun _ _ e => e)
                have hKw6 := hKw.trans_same hKr6
                have hz6 := hKr6.size
                clear hk5 hk6 hKn4 hD hM hP4
                have hrb := rreboot_any hD6 p1.2 p2.1 hq1.out hq2.out (by have := Hb.out.2.2.2; omega) Hb.out.2.1 (fun e he => (Hb.out.2.2.1 e he).1) (fun e he => (Hb.out.2.2.1 e he).2)
                go_wp2_with (refine wl_inv_reboot rfl _ _ _ rfl rfl (.int .u64 p1.2) (.int .i64 p2.1) rfl rfl hrb ?_; rintro w7 ⟨F7, hD7, hF7, hk7⟩)
                clear hrb
                refine (mreboot_any (hM6.keep hk7 (fun _ _ e => e)) p1.2 p2.1 hlen hq2.out hq1.out).mono ?_
                rintro e w8 ⟨rfl, hM8, hk8⟩
                have hnFG : ∀ j, F7 j → ¬ G j := fun j hj hg => by
                  have h1 := hF7 j hj
                  have h2 := hGlt j hg
                  omega
                have hD8 := hD7.keep hk8 hnFG
                have hmok : MOK (mrebooted M p1.2 p2.1) := by obtain ⟨v, h⟩ := hM8; exact h.ok
                have hbd := HR.out.1.bounds hmok
                have hml : (mrebooted M p1.2 p2.1).ws.length ≤ M.ws.length := rebW_len _ _ _
                have hsame := same_any hD8 hM8 HR.out.2 hbd.1 (by omega) (fun f _ => HR.out.1.size f) (fun f pg _ => HR.out.1.read f pg)
                have hKx0 : KRel w w3.heap.size (k + 1) (w6.heap.size + 1) w8 := KRel.step2 hFG hFw hGw (fun j hg => by have := hGlt j hg; omega) hKw6 hD7 (fun j hj => .inr (hF7 j hj)) (hk7.of_non F) hM8 hk8 HR.out.1 (by omega)
                clear hbd hmok hml hD8 hM8 hk8 hM6 hD6 HA HR hKw6 hKr6 hFG hFw hGw hnFG hD7 hF7 hk7 Hb
                go_wp2_with (go_at_call 22; with_reducible refine hsame.mono ?_; rintro e w9 ⟨rfl, hk9⟩)
                have hKx := hKx0.keep hk9
                clear hKx0 hk9 hsame
                obtain ⟨Dt, Mt, Ft, Gt, hDt, hMt, hFGt, hFwt, hGwt, hAt, hMlt, hKwt⟩ := id hKx
                have cd : (w9).drew.cell? ⟨w3.heap.size, 3, none⟩ = some (.bool (dead Dt)) := by
                  obtain ⟨vw, hIm⟩ := hMt
                  rw [← hAt.dd]
                  exact hIm.cDead
                have hDd := hDt.keep ((Keep.refl Non (w9)).drew) (fun _ _ e => e)
                clear hFGt hFwt hGwt hAt hMlt hKwt hMt
                refine wp_plan (fun w' => w'.cell? ⟨w3.heap.size, 3, none⟩ = some (.bool (dead Dt))) [(0, 0), (0, 2), (0, 3), (0, 4), (1, 5)] [1] 6 [] (by kernel_rfl) (by kernel_rfl) (by kernel_rfl) cd ?_
                intro N hN
                simp only [List.filterMap_cons, List.filterMap_nil, List.getElem?_toArray, List.getElem?_cons_succ, List.getElem?_cons_zero, Option.map_some] at hN ⊢
                repeat (first
                  | (refine quiet_free (v := ?_) rfl ?_ ?_; rotate_left; focus (intro w'; go_simp; try with_reducible rfl))
                  | (refine quiet_held (v := ?_) rfl ?_ ?_; rotate_left; focus (intro w' hw'; go_simp; try with_reducible rfl)))
                refine quiet_done (hN _ ?_)
                clear hN
                simp only [Act.put, List.setIfInBounds_toArray, List.set_cons_zero, List.set_cons_succ]
                refine loud_call rfl (exec_inv_dead _ rfl rfl) ?_
                refine (dead_any hDd).mono ?_
                rintro e w6 ⟨rfl, n6, rfl⟩
                refine ⟨_, rfl, cd, loud_done ?_⟩
                simp only [Act.put, List.setIfInBounds_toArray, List.set_cons_zero, List.set_cons_succ]
                change wpList _ _ _ [_] _ _
                go_wp2_with fail
                refine NP.at_normal ?_
                go_wp2_with fail
                go_roundg (gk - 1)
                case measure => omega
                case rel => exact ⟨k + 1, rr + 1, (w6.heap.size + 1), by omega, by go_num, by go_num, by omega, rfl, hKx.keep ((Keep.refl Non _).drewN _)⟩
              · have e4 : ((q.1 : Int) == 4) = false := beq_eq_false_iff_ne.2 (by omega)
                have hKx := hK4.up
                clear h0 h1 h2 h3 h4 hA hFG hFw hGw
                go_wp2_with fail
                obtain ⟨Dt, Mt, Ft, Gt, hDt, hMt, hFGt, hFwt, hGwt, hAt, hMlt, hKwt⟩ := id hKx
                have cd : (w4).drew.cell? ⟨w3.heap.size, 3, none⟩ = some (.bool (dead Dt)) := by
                  obtain ⟨vw, hIm⟩ := hMt
                  rw [← hAt.dd]
                  exact hIm.cDead
                have hDd := hDt.keep ((Keep.refl Non (w4)).drew) (fun _ _ e => e)
                clear hFGt hFwt hGwt hAt hMlt hKwt hMt
                refine wp_plan (fun w' => w'.cell? ⟨w3.heap.size, 3, none⟩ = some (.bool (dead Dt))) [(0, 0), (0, 2), (0, 3), (0, 4), (1, 5)] [1] 6 [] (by kernel_rfl) (by kernel_rfl) (by kernel_rfl) cd ?_
                intro N hN
                simp only [List.filterMap_cons, List.filterMap_nil, List.getElem?_toArray, List.getElem?_cons_succ, List.getElem?_cons_zero, Option.map_some] at hN ⊢
                repeat (first
                  | (refine quiet_free (v := ?_) rfl ?_ ?_; rotate_left; focus (intro w'; go_simp; try with_reducible rfl))
                  | (refine quiet_held (v := ?_) rfl ?_ ?_; rotate_left; focus (intro w' hw'; go_simp; try with_reducible rfl)))
                refine quiet_done (hN _ ?_)
                clear hN
                simp only [Act.put, List.setIfInBounds_toArray, List.set_cons_zero, List.set_cons_succ]
                refine loud_call rfl (exec_inv_dead _ rfl rfl) ?_
                refine (dead_any hDd).mono ?_
                rintro e w6 ⟨rfl, n6, rfl⟩
                refine ⟨_, rfl, cd, loud_done ?_⟩
                simp only [Act.put, List.setIfInBounds_toArray, List.set_cons_zero, List.set_cons_succ]
                change wpList _ _ _ [_] _ _
                go_wp2_with fail
                refine NP.at_normal ?_
                go_wp2_with fail
                go_roundg (gk - 1)
                case measure => omega
                case rel => exact ⟨k + 1, rr, b, by omega, by go_num, rfl, by omega, rfl, hKx.keep ((Keep.refl Non _).drewN _)⟩
    · obtain rfl : k = ol.length := by omega
      go_wp2_with fail
      go_ret
      obtain ⟨D, M, F, G, h1, h2, h3, h4, h5, h6, h7, h8⟩ := hK
      exact ⟨rfl, h8⟩
end Go.Proofs.Ygdacg
