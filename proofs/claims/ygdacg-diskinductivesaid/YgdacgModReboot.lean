/-
  (*diskModel).reboot.
-/
import Derived.Test.YgdacgModSync
namespace Go.Proofs.Ygdacg
open Go.RowKit
set_option linter.unusedVariables false
set_option linter.unusedSimpArgs false
attribute [local simp] zero61 zero82

/-- The bit that keeps the unsynced write number i. -/
def bitB (keep : Int) (i : Nat) : Bool := !(bits BinOp.and IntKind.u64 keep (IntKind.u64.wrap (2 ^ (i % 64))) == 0)
def rebW (keep : Int) : Nat → List (Nat × Nat × List Value × Bool) → List (Nat × Nat × List Value × Bool)
  | _, [] => []
  | i, e :: l => if e.2.2.2 then e :: rebW keep i l else if bitB keep i then (e.1, e.2.1, e.2.2.1, true) :: rebW keep (i + 1) l else rebW keep (i + 1) l
theorem cachedL_cons (e : Nat × Nat × List Value × Bool) (ws : List (Nat × Nat × List Value × Bool)) : cachedL (e :: ws) = cachedL ws + if e.2.2.2 then 0 else 1 := by
  unfold cachedL
  cases h : e.2.2.2 <;> simp [List.filter_cons, h]
theorem rebW_snoc (keep : Int) (e : Nat × Nat × List Value × Bool) : ∀ (l : List (Nat × Nat × List Value × Bool)) (i : Nat), rebW keep i (l ++ [e]) = rebW keep i l ++ rebW keep (i + cachedL l) [e]
  | [], i => rfl
  | x :: l, i => by
    rw [List.cons_append, rebW, rebW, cachedL_cons]
    cases hx : x.2.2.2 with
    | true =>
      simp only [if_true]
      rw [rebW_snoc keep e l i, List.cons_append, Nat.add_zero]
    | false =>
      simp only [Bool.false_eq_true, if_false]
      rw [rebW_snoc keep e l (i + 1), show i + (cachedL l + 1) = i + 1 + cachedL l by omega]
      split <;> rfl
theorem rebW_pc (keep : Int) : ∀ (l : List (Nat × Nat × List Value × Bool)) (i : Nat), (∀ e ∈ l, IsPg e.2.2.1 ∧ e.1 < 2 ∧ e.2.1 < 1024) → ∀ e ∈ rebW keep i l, IsPg e.2.2.1 ∧ e.1 < 2 ∧ e.2.1 < 1024
  | [], i, _, e, he => by cases he
  | x :: l, i, h, e, he => by
    have hx := h x (by simp)
    have hl : ∀ e ∈ l, IsPg e.2.2.1 ∧ e.1 < 2 ∧ e.2.1 < 1024 := fun e he => h e (by simp [he])
    rw [rebW] at he
    split at he
    · rcases List.mem_cons.1 he with rfl | he
      · exact hx
      · exact rebW_pc keep l i hl e he
    · split at he
      · rcases List.mem_cons.1 he with rfl | he
        · exact hx
        · exact rebW_pc keep l _ hl e he
      · exact rebW_pc keep l _ hl e he
theorem rebW_len (keep : Int) : ∀ (l : List (Nat × Nat × List Value × Bool)) (i : Nat), (rebW keep i l).length ≤ l.length
  | [], i => Nat.le_refl _
  | x :: l, i => by
    have h0 := rebW_len keep l i
    have h1 := rebW_len keep l (i + 1)
    rw [rebW]
    split
    · simp; omega
    · split
      · simp; omega
      · simp; omega
def mrebooted (M : MS) (keep at_ : Int) : MS := { ws := rebW keep 0 M.ws, calls := 0, at_ := at_, dead := false }
theorem mwc_true (e : Nat × Nat × List Value × Bool) (hp : IsPg e.2.2.1) : (mwc e).set 130 (.bool true) = mwc (e.1, e.2.1, e.2.2.1, true) := by
  simp only [mwc, List.set_cons_succ]
  rw [List.set_append_right _ _ (by rw [hp.len]; omega), hp.len]
  rfl

section
variable {w w' : World} {F G : Nat → Prop} {m : Nat} {vw : Value} {M M' : MS}
/-- What the loop has made at round k. -/
structure MRebRel (w : World) (M : MS) (keep : Int) (k : Nat) (u : Value) (wr : World) : Prop where
  ow : wr.ownsRow 0 82 131 u (rebW keep 0 (M.ws.take k)).length ((rebW keep 0 (M.ws.take k)).map mwc).flatten
  new : ∀ j, u.ownBlock = some j → w.heap.size ≤ j
  keepN : Keep Non w wr
theorem MRebRel.app {keep : Int} {k : Nat} {u u2 : Value} {wr w1 w2 : World} {cs : List Value} (h : MRebRel w M keep k u wr) (hk1 : Keep Non wr w1) (e : Nat × Nat × List Value × Bool)
    (hs : rebW keep 0 (M.ws.take (k + 1)) = rebW keep 0 (M.ws.take k) ++ [e])
    (g1 : w2.ownsRow 0 82 131 u2 ((rebW keep 0 (M.ws.take k)).length + 1) (((rebW keep 0 (M.ws.take k)).map mwc).flatten ++ mwc e)) (g2 : w1.grownBy w2 u.ownBlock) (g3 : u2.ownBlock = u.ownBlock ∨ u2.ownBlock = some w1.heap.size) : MRebRel w M keep (k + 1) u2 w2 := by
  have hz := h.keepN.size
  have hz1 := hk1.size
  refine ⟨?_, fun j hj => ?_, (h.keepN.trans_same hk1).grown g2 (fun j hj => .inr (h.new j hj))⟩
  · rw [hs, List.map_append, List.flatten_append]
    simpa using g1
  · rcases g3 with e | e
    · rw [e] at hj
      exact h.new j hj
    · rw [e] at hj
      obtain rfl : w1.heap.size = j := by simpa using hj
      omega
theorem reb_step_synced (keep : Int) {k : Nat} (hk : k < M.ws.length) (hb : M.ws[k].2.2.2 = true) : rebW keep 0 (M.ws.take (k + 1)) = rebW keep 0 (M.ws.take k) ++ [M.ws[k]] ∧ cachedL (M.ws.take (k + 1)) = cachedL (M.ws.take k) := by
  rw [take_snoc _ _ hk, rebW_snoc, cachedL_snoc, rebW, hb]
  exact ⟨rfl, rfl⟩
theorem reb_step_keep (keep : Int) {k : Nat} (hk : k < M.ws.length) (hb : M.ws[k].2.2.2 = false) (ht : bitB keep (cachedL (M.ws.take k)) = true) : rebW keep 0 (M.ws.take (k + 1)) = rebW keep 0 (M.ws.take k) ++ [(M.ws[k].1, M.ws[k].2.1, M.ws[k].2.2.1, true)] ∧ cachedL (M.ws.take (k + 1)) = cachedL (M.ws.take k) + 1 := by
  rw [take_snoc _ _ hk, rebW_snoc, cachedL_snoc, rebW, hb, Nat.zero_add, ht]
  exact ⟨rfl, rfl⟩
theorem reb_step_drop (keep : Int) {k : Nat} (hk : k < M.ws.length) (hb : M.ws[k].2.2.2 = false) (ht : bitB keep (cachedL (M.ws.take k)) = false) : rebW keep 0 (M.ws.take (k + 1)) = rebW keep 0 (M.ws.take k) ∧ cachedL (M.ws.take (k + 1)) = cachedL (M.ws.take k) + 1 := by
  rw [take_snoc _ _ hk, rebW_snoc, cachedL_snoc, rebW, hb, Nat.zero_add, ht]
  exact ⟨by simp [rebW], rfl⟩

set_option maxRecDepth 100000 in
set_option maxHeartbeats 800000 in
theorem mreboot_any (h : ModAt w F m M) (keep at_ : Int) (hlen : M.ws.length ≤ 4096) (ha0 : -9223372036854775808 ≤ at_) (ha1 : at_ ≤ 9223372036854775807) :
    Calls Yacd.prog 21 #[.pointer (some ⟨m, 0, none⟩), .int .u64 keep, .int .i64 at_] w fun e w' => e = .returned (.tuple #[]) ∧ ModAt w' (Ext F w w') m (mrebooted M keep at_) ∧ Keep F w w' := by
  have Ha0 : Hid (-9223372036854775808 ≤ at_) := ha0
  have Ha1 : Hid (at_ ≤ 9223372036854775807) := ha1
  clear ha0 ha1
  obtain ⟨vw, hI⟩ := h
  have cw := hI.cWrites
  obtain ⟨ao, cap, hv, -, -⟩ := owns_slice hI.rw
  subst hv
  have hlen' : (M.ws.length : Int) ≤ 4096 := by omega
  go_enter Yacd.func21, Yacd.ntmps21
  go_wp2_with fail
  go_loopg [6, 7, 15] M.ws.length (fun q u n i wr => ∃ k : Nat, k + q = M.ws.length ∧ i = .int .i64 k ∧ n = .int .i64 (cachedL (M.ws.take k)) ∧ MRebRel w M keep k u wr)
  case atStart => exact ⟨0, by omega, rfl, rfl, World.ownsRow_nil _ 0 82 131, fun j e => by simp [Value.ownBlock] at e, Keep.refl _ _⟩
  case round =>
    obtain ⟨k, hkq, rfl, rfl, hR⟩ := hrel
    by_cases hk : k < M.ws.length
    · have hk' : (k : Int) < (M.ws.length : Int) := by omega
      have hcl := cachedL_le (M.ws.take k)
      rw [List.length_take] at hcl
      have hrl := rebW_len keep (M.ws.take k) 0
      rw [List.length_take] at hrl
      obtain ⟨g, cap', hv, hrange⟩ := (hI.keep hR.keepN (fun _ _ e => e)).elem hk
      simp only [Value.slice.injEq, true_and] at hv
      obtain ⟨rfl, rfl⟩ := hv
      have hE := hI.ok.pc _ (List.getElem_mem hk)
      obtain ⟨au, cu, hu, -, -⟩ := owns_slice hR.ow
      subst hu
      generalize hc0 : cachedL (M.ws.take k) = c
      have Hc0 : Hid (cachedL (M.ws.take k) = c) := hc0
      rw [hc0] at hcl
      clear hc0
      have hc' : (c : Int) ≤ 4096 := by omega
      go_wp2_with (first | (refine wl_load82 rfl _ rfl _ _ rfl (mwc M.ws[k]) (mwc_len hE.1) hrange ?_) | (refine wl_store82_new rfl _ _ rfl wr.heap.size (mwc M.ws[k]) (mwc (0, 0, zpg, false)) rfl rfl (mwc_len hE.1) (mwc_one hE.1) (blk_new _ _ _) mwc_zero_len ?_))
      intro w1 hb1 hk1 hs1
      have c0 : w1.cell? ⟨wr.heap.size, 130, none⟩ = some (.bool M.ws[k].2.2.2) := by
        rw [blk_cell hb1]
        have := hE.1.len
        simp [mwc, this]
      have f0 : w1.frozen? ⟨wr.heap.size, 130, none⟩ = false := blk_frozen hb1 _
      have hK1 : Keep Non wr w1 := ((Keep.refl _ wr).alloc _).trans hk1 (fun j e hlt => by omega)
      have hKn : ∀ v, Keep Non wr (w1.setCell ⟨wr.heap.size, 130, none⟩ v) := fun v => hK1.setCell (p := ⟨wr.heap.size, 130, none⟩) v (.inr (Nat.le_refl _))
      clear hk1 hrange
      cases hb : M.ws[k].2.2.2 with
      | false =>
        rw [hb] at c0
        cases ht : bits BinOp.and IntKind.u64 keep (IntKind.u64.wrap (2 ^ (c % 64))) == 0 with
        | true =>
          go_wp2_with fail
          go_roundg (gk - 1)
          case measure => omega
          case rel =>
            have := reb_step_drop keep hk hb (by rw [Hc0.out, bitB, ht]; rfl)
            refine ⟨k + 1, by omega, by go_num, by rw [this.2, Hc0.out]; go_num, ?_⟩
            refine ⟨by rw [this.1]; exact hK1.owns hR.ow (fun _ _ e => e), hR.new, hR.keepN.trans_same hK1⟩
        | false =>
          have hb2 := blk_set hb1 130 (.bool true)
          rw [mwc_true _ hE.1] at hb2
          have ho1 := (hKn (.bool true)).owns hR.ow (fun _ _ e => e)
          have ho2 := ho1.alloc (.cells (mwc (M.ws[k].1, M.ws[k].2.1, M.ws[k].2.2.1, true)).toArray 82)
          go_wp2_with (first | (refine wl_load82 rfl _ rfl _ _ rfl (mwc (M.ws[k].1, M.ws[k].2.1, M.ws[k].2.2.1, true)) (mwc_len (e := (M.ws[k].1, M.ws[k].2.1, M.ws[k].2.2.1, true)) hE.1) (blk_range hb2) ?_) | (refine wl_buildSlice rfl _ 57 82 rfl Yacd.underlying57 info82 (by omega) (by omega) (mwc (M.ws[k].1, M.ws[k].2.1, M.ws[k].2.2.1, true)) rfl (mwc_len (e := (M.ws[k].1, M.ws[k].2.1, M.ws[k].2.2.1, true)) hE.1) ?_) | (at_builtin; refine wl_append rfl _ _ 57 rfl 82 Yacd.underlying57 info82 (by simp [Value.cells, mwc_zero_len]) (by omega) _ (rebW keep 0 (M.ws.take k)).length ((rebW keep 0 (M.ws.take k)).map mwc).flatten rfl ho2 _ 1 1 (mwc (M.ws[k].1, M.ws[k].2.1, M.ws[k].2.2.1, true)) rfl (by simp [mwc_len (e := (M.ws[k].1, M.ws[k].2.1, M.ws[k].2.2.1, true)) hE.1]) (fun j u hu => by rw [Addr.add_mid]; exact range_alloc_new _ _ _ j u hu) (mwc_one (e := (M.ws[k].1, M.ws[k].2.1, M.ws[k].2.2.1, true)) hE.1) (by simp only [maxLen]; omega) (by omega) ?_))
          intro u2 w2 g1 g2 g3
          go_wp2_with fail
          go_roundg (gk - 1)
          case measure => omega
          case rel =>
            have := reb_step_keep keep hk hb (by rw [Hc0.out, bitB, ht]; rfl)
            refine ⟨k + 1, by omega, by go_num, by rw [this.2, Hc0.out]; go_num, ?_⟩
            exact hR.app (cs := []) ((hKn (.bool true)).alloc _) _ this.1 g1 g2 (by simpa [hs1] using g3)
      | true =>
        rw [hb] at c0
        have ho1 := hK1.owns hR.ow (fun _ _ e => e)
        have ho2 := ho1.alloc (.cells (mwc M.ws[k]).toArray 82)
        go_wp2_with (first | (refine wl_load82 rfl _ rfl _ _ rfl (mwc M.ws[k]) (mwc_len hE.1) (blk_range hb1) ?_) | (refine wl_buildSlice rfl _ 57 82 rfl Yacd.underlying57 info82 (by omega) (by omega) (mwc M.ws[k]) rfl (mwc_len hE.1) ?_) | (at_builtin; refine wl_append rfl _ _ 57 rfl 82 Yacd.underlying57 info82 (by simp [Value.cells, mwc_zero_len]) (by omega) _ (rebW keep 0 (M.ws.take k)).length ((rebW keep 0 (M.ws.take k)).map mwc).flatten rfl ho2 _ 1 1 (mwc M.ws[k]) rfl (by simp [mwc_len hE.1]) (fun j u hu => by rw [Addr.add_mid]; exact range_alloc_new _ _ _ j u hu) (mwc_one hE.1) (by simp only [maxLen]; omega) (by omega) ?_))
        intro u2 w2 g1 g2 g3
        go_wp2_with fail
        go_roundg (gk - 1)
        case measure => omega
        case rel =>
          have := reb_step_synced keep hk hb
          refine ⟨k + 1, by omega, by go_num, by rw [this.2, Hc0.out], ?_⟩
          exact hR.app (cs := []) (hK1.alloc _) _ this.1 g1 g2 (by simpa [hs1] using g3)
    · obtain rfl : k = M.ws.length := by omega
      obtain ⟨au, cu, hu, -, -⟩ := owns_slice hR.ow
      subst hu
      have hb := blk_keep hI.blk hR.keepN (fun e => e)
      have c0 : wr.cell? ⟨m, 0, none⟩ = some (.slice ao M.ws.length cap) := by rw [blk_cell hb]; rfl
      have c1 : wr.cell? ⟨m, 1, none⟩ = some (.int .i64 M.calls) := by rw [blk_cell hb]; rfl
      have c2 : wr.cell? ⟨m, 2, none⟩ = some (.int .i64 M.at_) := by rw [blk_cell hb]; rfl
      have c3 : wr.cell? ⟨m, 3, none⟩ = some (.bool M.dead) := by rw [blk_cell hb]; rfl
      have f0 := blk_frozen hb 0
      have f1 := blk_frozen hb 1
      have f2 := blk_frozen hb 2
      have f3 := blk_frozen hb 3
      go_wp2_with fail
      go_end0
      refine ⟨rfl, ?_⟩
      have hml := blk_lt hI.blk
      have ho := hR.ow
      rw [List.take_of_length_le (Nat.le_refl _)] at ho
      have hn := hR.new
      rw [List.take_of_length_le (Nat.le_refl _)] at hn
      have k4 : Keep (fun k => k = m) wr ((((wr.setCell ⟨m, 0, none⟩ (.slice au (rebW keep 0 M.ws).length cu)).setCell ⟨m, 1, none⟩ (.int .i64 0)).setCell ⟨m, 2, none⟩ (.int .i64 at_)).setCell ⟨m, 3, none⟩ (.bool false)) :=
        ((((Keep.refl (fun k => k = m) wr).setCell (p := ⟨m, 0, none⟩) _ (.inl rfl)).setCell (p := ⟨m, 1, none⟩) _ (.inl rfl)).setCell (p := ⟨m, 2, none⟩) _ (.inl rfl)).setCell (p := ⟨m, 3, none⟩) _ (.inl rfl)
      have kF : Keep F w ((((wr.setCell ⟨m, 0, none⟩ (.slice au (rebW keep 0 M.ws).length cu)).setCell ⟨m, 1, none⟩ (.int .i64 0)).setCell ⟨m, 2, none⟩ (.int .i64 at_)).setCell ⟨m, 3, none⟩ (.bool false)) := (hR.keepN.of_non F).trans_same (k4.mono (fun k e => e ▸ hI.fb))
      have ho' := k4.owns ho (fun k e h0 => by have := hn k e; omega)
      refine ⟨ModIs.at_ (vw := .slice au (rebW keep 0 M.ws).length cu) ⟨⟨rebW_pc keep _ _ hI.ok.pc, Ha1.out, Ha0.out, by show (0 : Int) ≤ _; decide, by show _ ≤ (0 : Int); decide⟩, fun k hk => ?_, .inl hI.fb, blk_set (blk_set (blk_set (blk_set hb 0 _) 1 _) 2 _) 3 _, ho', fun k e => ?_⟩, kF⟩
      · rcases hk with hk | hk
        · exact Nat.lt_of_lt_of_le (hI.fp k hk) kF.size
        · exact hk.2
      · have h1 := hn k e
        exact ⟨.inr ⟨h1, (ho'.lt k e).2⟩, by omega⟩
end
end Go.Proofs.Ygdacg
