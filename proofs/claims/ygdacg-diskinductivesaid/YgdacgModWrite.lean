/-
  (*diskModel).write.
-/
import Derived.Test.YgdacgModel
namespace Go.Proofs.Ygdacg
open Go.RowKit
set_option linter.unusedVariables false
set_option linter.unusedSimpArgs false
attribute [local simp] zero61 zero82

def mbad (M : MS) (f pg : Nat) : Prop := M.dead = true ∨ 1 < f ∨ sizeM M f < pg ∨ 1024 ≤ pg ∨ 2048 ≤ cachedL M.ws
def mwrote (M : MS) (f pg : Nat) (p : List Value) : MS := { counted M with ws := M.ws ++ [(f, pg, p, false)] }
theorem counted_ws (M : MS) : (counted M).ws = M.ws := by unfold counted; split <;> rfl

section
variable {w w' : World} {F G : Nat → Prop} {m : Nat} {vw : Value} {M M' : MS}
set_option maxRecDepth 100000 in
set_option maxHeartbeats 600000 in
theorem mwrite_no (h : ModAt w F m M) (f pg : Nat) (p : List Value) (hlen : M.ws.length ≤ 4096) (hno : mbad M f pg) :
    Calls Yacd.prog 18 #[.pointer (some ⟨m, 0, none⟩), .int .u8 f, .int .u16 pg, .agg p.toArray] w fun e w' => e = .returned (.bool false) ∧ Keep Non w w' := by
  have h0 : ModAt (w.alloc (.cells p.toArray 61)) F m M := h.keep ((Keep.refl Non w).alloc _) (fun _ _ h => h)
  have hmz : ∀ w1, Keep Non (w.alloc (.cells p.toArray 61)) w1 → Keep Non w w1 := fun w1 hk => ((Keep.refl _ _).alloc _).trans_same hk
  obtain ⟨vw, hI⟩ := h
  have hml := blk_lt hI.blk
  have cd := hI.cDead
  cases hd : M.dead with
  | true =>
    rw [hd] at cd
    go_enter Yacd.func18, Yacd.ntmps18
    go_wp2_with fail
    go_ret
    exact ⟨rfl, (Keep.refl _ _).alloc _⟩
  | false =>
    rw [hd] at cd
    by_cases hf : 1 < f
    · have hf' : (1 : Int) < (f : Int) := by omega
      go_enter Yacd.func18, Yacd.ntmps18
      go_wp2_with fail
      go_ret
      exact ⟨rfl, (Keep.refl _ _).alloc _⟩
    · have hf' : (f : Int) ≤ 1 := by omega
      have hd1 : decide ((1 : Int) < (f : Int)) = false := decide_eq_false (by omega)
      by_cases hz : sizeM M f < pg
      · have hz' : (sizeM M f : Int) < (pg : Int) := by omega
        clear hno
        go_enter Yacd.func18, Yacd.ntmps18
        go_wp2_with (first | (go_at_call 20; refine (sizeM_any h0 f hlen).mono ?_; rintro e w1 ⟨rfl, hk1⟩))
        go_ret
        exact ⟨rfl, hmz _ hk1⟩
      · have hz' : ¬ (sizeM M f : Int) < (pg : Int) := by omega
        have hd2 : decide ((sizeM M f : Int) < (pg : Int)) = false := decide_eq_false (by omega)
        by_cases hp : 1024 ≤ pg
        · have hp' : (1024 : Int) ≤ (pg : Int) := by omega
          clear hno
          go_enter Yacd.func18, Yacd.ntmps18
          go_wp2_with (first | (go_at_call 20; refine (sizeM_any h0 f hlen).mono ?_; rintro e w1 ⟨rfl, hk1⟩))
          go_ret
          exact ⟨rfl, hmz _ hk1⟩
        · have hp' : (pg : Int) < 1024 := by omega
          have hd3 : decide ((1024 : Int) ≤ (pg : Int)) = false := decide_eq_false (by omega)
          have hl : (2048 : Int) ≤ (cachedL M.ws : Int) := by
            rcases hno with h1 | h1 | h1 | h1 | h1
            · rw [hd] at h1; cases h1
            all_goals omega
          clear hno
          go_enter Yacd.func18, Yacd.ntmps18
          go_wp2_with (first | (go_at_call 20; refine (sizeM_any h0 f hlen).mono ?_; rintro e w1 ⟨rfl, hk1⟩) | (go_at_call 32; refine (cachedM_any (h0.keep hk1 (fun _ _ e => e)) hlen).mono ?_; rintro e w2 ⟨rfl, hk2⟩))
          go_ret
          exact ⟨rfl, hmz _ (hk1.trans_same hk2)⟩

set_option maxRecDepth 100000 in
set_option maxHeartbeats 600000 in
theorem mwrite_dies (h : ModAt w F m M) (f pg : Nat) (p : List Value) (hlen : M.ws.length ≤ 4096) (hok : ¬ mbad M f pg) (hl : M.at_ ≤ 0 ∨ (0 ≤ M.calls ∧ M.calls < M.at_)) (ht : countB M = false) :
    Calls Yacd.prog 18 #[.pointer (some ⟨m, 0, none⟩), .int .u8 f, .int .u16 pg, .agg p.toArray] w fun e w' => e = .returned (.bool false) ∧ ModAt w' F m (counted M) ∧ Keep F w w' := by
  have h0 : ModAt (w.alloc (.cells p.toArray 61)) F m M := h.keep ((Keep.refl Non w).alloc _) (fun _ _ h => h)
  have hmz : ∀ w1, Keep Non (w.alloc (.cells p.toArray 61)) w1 → Keep Non w w1 := fun w1 hk => ((Keep.refl _ _).alloc _).trans_same hk
  obtain ⟨vw, hI⟩ := h
  have hml := blk_lt hI.blk
  have cd := hI.cDead
  have hd : M.dead = false := by
    cases hd : M.dead with
    | false => rfl
    | true => exact absurd (.inl hd) hok
  rw [hd] at cd
  have hf : f < 2 := by
    have : ¬ 1 < f := fun h1 => hok (.inr (.inl h1))
    omega
  have hz : ¬ sizeM M f < pg := fun h1 => hok (.inr (.inr (.inl h1)))
  have hp : ¬ 1024 ≤ pg := fun h1 => hok (.inr (.inr (.inr (.inl h1))))
  have hc : ¬ 2048 ≤ cachedL M.ws := fun h1 => hok (.inr (.inr (.inr (.inr h1))))
  have hf' : (f : Int) ≤ 1 := by omega
  have hd1 : decide ((1 : Int) < (f : Int)) = false := decide_eq_false (by omega)
  have hz' : ¬ (sizeM M f : Int) < (pg : Int) := by omega
  have hd2 : decide ((sizeM M f : Int) < (pg : Int)) = false := decide_eq_false (by omega)
  have hp' : (pg : Int) < 1024 := by omega
  have hd3 : decide ((1024 : Int) ≤ (pg : Int)) = false := decide_eq_false (by omega)
  have hc' : (cachedL M.ws : Int) < 2048 := by omega
  have hd4 : decide ((2048 : Int) ≤ (cachedL M.ws : Int)) = false := decide_eq_false (by omega)
  go_enter Yacd.func18, Yacd.ntmps18
  go_wp2_with (first | (go_at_call 20; refine (sizeM_any h0 f hlen).mono ?_; rintro e w1 ⟨rfl, hk1⟩) | (go_at_call 32; refine (cachedM_any (h0.keep hk1 (fun _ _ e => e)) hlen).mono ?_; rintro e w2 ⟨rfl, hk2⟩) | (go_at_call 33; refine (count_any (hI.keep (hmz _ (hk1.trans_same hk2)) (fun _ _ e => e)) hd hl).mono ?_; rw [ht]; rintro e w3 ⟨rfl, hI3, hk3⟩))
  go_ret
  exact ⟨rfl, hI3.at_, ((hmz _ (hk1.trans_same hk2)).of_non F).trans_same (hk3.mono (fun k e => e ▸ hI.fb))⟩

/-- The writes' row has turned, and the struct. -/
theorem ModIs.rewrite {w1 w2 : World} {vw' : Value} (h : ModIs w1 F m vw M) (hk : Keep (fun k => k = m ∨ vw.ownBlock = some k) w1 w2) (hok : MOK M') (hb : World.blk w2 m 59 [vw', .int .i64 M'.calls, .int .i64 M'.at_, .bool M'.dead])
    (hr : w2.ownsRow 0 82 131 vw' M'.ws.length (M'.ws.map mwc).flatten) (hv : vw'.ownBlock = vw.ownBlock ∨ vw'.ownBlock = none ∨ ∃ k, vw'.ownBlock = some k ∧ w1.heap.size ≤ k) : ModIs w2 (Ext F w1 w2) m vw' M' := by
  refine ⟨hok, fun k hF => ?_, .inl h.fb, hb, hr, fun k hk' => ?_⟩
  · rcases hF with hF | hF
    · exact Nat.lt_of_lt_of_le (h.fp k hF) hk.size
    · exact hF.2
  · have hk2 : k < w2.heap.size := (hr.lt k hk').2
    rcases hv with e | e | ⟨k', e, hk1⟩
    · rw [e] at hk'
      exact ⟨.inl (h.fw k hk').1, (h.fw k hk').2⟩
    · rw [e] at hk'
      cases hk'
    · rw [e] at hk'
      obtain rfl : k' = k := by simpa using hk'
      refine ⟨.inr ⟨hk1, hk2⟩, fun e => ?_⟩
      have := blk_lt h.blk
      omega
theorem ModIs.widen (h : ModIs w F m vw M) {F' : Nat → Prop} (hF : ∀ k, F k → F' k) (hb : ∀ k, F' k → k < w.heap.size) : ModIs w F' m vw M :=
  ⟨h.ok, hb, hF m h.fb, h.blk, h.rw, fun k hk => ⟨hF k (h.fw k hk).1, (h.fw k hk).2⟩⟩
theorem ModAt.ext (h : ModAt w' F m M) (hs : w.heap.size ≤ w'.heap.size) : ModAt w' (Ext F w w') m M := by
  obtain ⟨vw, h⟩ := h
  refine (h.widen (fun k hk => .inl hk) (fun k hk => ?_)).at_
  rcases hk with hk | hk
  · exact h.fp k hk
  · exact hk.2

set_option maxRecDepth 100000 in
set_option maxHeartbeats 600000 in
theorem mwrite_go (h : ModAt w F m M) (f pg : Nat) (p : List Value) (hpp : IsPg p) (hlen : M.ws.length ≤ 4095) (hok : ¬ mbad M f pg) (hl : M.at_ ≤ 0 ∨ (0 ≤ M.calls ∧ M.calls < M.at_)) (ht : countB M = true) :
    Calls Yacd.prog 18 #[.pointer (some ⟨m, 0, none⟩), .int .u8 f, .int .u16 pg, .agg p.toArray] w fun e w' => e = .returned (.bool true) ∧ ModAt w' (Ext F w w') m (mwrote M f pg p) ∧ Keep F w w' := by
  have h0 : ModAt (w.alloc (.cells p.toArray 61)) F m M := h.keep ((Keep.refl Non w).alloc _) (fun _ _ h => h)
  have hmz : ∀ w1, Keep Non (w.alloc (.cells p.toArray 61)) w1 → Keep Non w w1 := fun w1 hk => ((Keep.refl _ _).alloc _).trans_same hk
  have hbp : World.blk (w.alloc (.cells p.toArray 61)) w.heap.size 61 p := blk_new _ _ _
  obtain ⟨vw, hI⟩ := h
  have hml := blk_lt hI.blk
  have cd := hI.cDead
  have hd : M.dead = false := by
    cases hd : M.dead with
    | false => rfl
    | true => exact absurd (.inl hd) hok
  rw [hd] at cd
  have hf : f < 2 := by
    have : ¬ 1 < f := fun h1 => hok (.inr (.inl h1))
    omega
  have hz : ¬ sizeM M f < pg := fun h1 => hok (.inr (.inr (.inl h1)))
  have hp : ¬ 1024 ≤ pg := fun h1 => hok (.inr (.inr (.inr (.inl h1))))
  have hc : ¬ 2048 ≤ cachedL M.ws := fun h1 => hok (.inr (.inr (.inr (.inr h1))))
  have hf' : (f : Int) ≤ 1 := by omega
  have hd1 : decide ((1 : Int) < (f : Int)) = false := decide_eq_false (by omega)
  have hz' : ¬ (sizeM M f : Int) < (pg : Int) := by omega
  have hd2 : decide ((sizeM M f : Int) < (pg : Int)) = false := decide_eq_false (by omega)
  have hp' : (pg : Int) < 1024 := by omega
  have hd3 : decide ((1024 : Int) ≤ (pg : Int)) = false := decide_eq_false (by omega)
  have hc' : (cachedL M.ws : Int) < 2048 := by omega
  have hd4 : decide ((2048 : Int) ≤ (cachedL M.ws : Int)) = false := decide_eq_false (by omega)
  have hlen2 : M.ws.length ≤ 4096 := by omega
  obtain ⟨ao, cap, hv, -, -⟩ := owns_slice hI.rw
  subst hv
  go_enter Yacd.func18, Yacd.ntmps18
  go_wp2_with (first | (go_at_call 20; refine (sizeM_any h0 f hlen2).mono ?_; rintro e w1 ⟨rfl, hk1⟩) | (go_at_call 32; refine (cachedM_any (h0.keep hk1 (fun _ _ e => e)) hlen2).mono ?_; rintro e w2 ⟨rfl, hk2⟩) | (go_at_call 33; refine (count_any (hI.keep (hmz _ (hk1.trans_same hk2)) (fun _ _ e => e)) hd hl).mono ?_; rw [ht]; rintro e w3 ⟨rfl, hI3, hk3⟩))
  have cw := hI3.cWrites
  have hkw : Keep (fun k => k = m) w w3 := ((hmz _ (hk1.trans_same hk2)).of_non _).trans_same hk3
  have hb3 : World.blk w3 w.heap.size 61 p := blk_keep (blk_keep hbp (hk1.trans_same hk2) (fun e => e)) hk3 (by omega)
  clear hd1 hd2 hd3 hd4 cd
  refine wp_plan (fun w' => w'.cell? ⟨m, 0, none⟩ = some (.slice ao M.ws.length cap)) [(0, 0), (0, 1), (0, 2), (0, 3), (1, 4), (0, 5), (0, 6), (2, 7), (0, 8)] [9] 10 [11, 12, 13] (by kernel_rfl) (by kernel_rfl) (by kernel_rfl) cw ?_
  intro N hN
  simp only [List.filterMap_cons, List.filterMap_nil, List.getElem?_toArray, List.getElem?_cons_succ, List.getElem?_cons_zero, Option.map_some] at hN ⊢
  repeat (first
    | (refine quiet_free (v := ?_) rfl ?_ ?_; rotate_left; focus (intro w'; go_simp; try with_reducible rfl))
    | (refine quiet_held (v := ?_) rfl ?_ ?_; rotate_left; focus (intro w' hw'; go_simp; try with_reducible rfl)))
  simp only [Act.put, List.setIfInBounds_toArray, List.set_cons_zero, List.set_cons_succ]
  refine quiet_early rfl (exec_load61 _ rfl w.heap.size 0 rfl p hpp.len (blk_range (blk_drew hb3))) ?_
  refine quiet_free rfl (fun w' => exec_build82 _ _ _ rfl f pg p rfl rfl rfl hpp) ?_
  refine quiet_done (hN _ ?_)
  clear hN
  simp only [Act.put, List.setIfInBounds_toArray, List.set_cons_zero, List.set_cons_succ]
  refine loud_run rfl (exec_buildSlice _ 57 82 rfl Yacd.underlying57 info82 (by omega) (by omega) (mwc (f, pg, p, false)) rfl (mwc_len (e := (f, pg, p, false)) hpp)) ?_ (loud_done ?_)
  · rw [World.cell?_alloc_lt _ _ _ (by exact blk_lt hI3.blk)]
    exact cw
  simp only [Act.put, List.setIfInBounds_toArray, List.set_cons_zero, List.set_cons_succ]
  change wpList _ _ _ [_, _, _, _] _ _
  have ho1 : (w3.drew.alloc (Obj.cells (mwc (f, pg, p, false)).toArray 82)).ownsRow 0 82 131 (.slice ao M.ws.length cap) M.ws.length (M.ws.map mwc).flatten := by
    have := hI3.rw
    rw [counted_ws] at this
    exact (World.ownsRow.drew this).alloc _
  refine wl_append rfl _ _ 57 rfl 82 Yacd.underlying57 info82 (by simp [Value.cells, mwc_zero_len]) (by omega) _ M.ws.length (M.ws.map mwc).flatten rfl ho1 _ 1 1 (mwc (f, pg, p, false)) rfl (by simp [mwc_len (e := (f, pg, p, false)) hpp]) (fun j u hu => by rw [Addr.add_mid]; exact range_alloc_new _ _ _ j u hu) (mwc_one (e := (f, pg, p, false)) hpp) (by simp only [maxLen]; omega) (by omega) ?_
  intro vw2 w4 g1 g2 g3
  obtain ⟨ao2, cap2, rfl, -, -⟩ := owns_slice g1
  have hb4 := blk_grown (blk_alloc (blk_drew hI3.blk) _) g2 (fun e => (hI3.fw _ e).2 rfl)
  have c4 : w4.cell? ⟨m, 0, none⟩ = some (.slice ao M.ws.length cap) := by rw [blk_cell hb4]; rfl
  have f4 : w4.frozen? ⟨m, 0, none⟩ = false := blk_frozen hb4 0
  go_wp2
  refine NP.at_normal ?_
  go_wp2
  go_ret
  refine ⟨rfl, ?_⟩
  have k1 : Keep (fun k => k = m ∨ (Value.slice ao M.ws.length cap).ownBlock = some k) w3 w4 := (((Keep.refl _ _).drew).alloc _).grown g2 (fun k e => .inl (.inr e))
  have k4 : Keep (fun k => k = m) w4 (w4.setCell ⟨m, 0, none⟩ (.slice ao2 (M.ws.length + 1) cap2)) := (Keep.refl (fun k => k = m) w4).setCell (p := ⟨m, 0, none⟩) _ (.inl rfl)
  have k2 := k1.trans k4 (fun k e _ => .inl e)
  have hokM := hI3.ok
  have hIf := hI3.rewrite (M' := mwrote M f pg p) k2 ⟨fun e he => by
      rcases List.mem_append.1 he with he | he
      · exact hI.ok.pc e he
      · obtain rfl : e = (f, pg, p, false) := by simpa using he
        exact ⟨hpp, hf, show pg < 1024 by omega⟩, hokM.at1, hokM.at0, hokM.calls1, hokM.calls0⟩ (blk_set hb4 0 _) (by
      have e1 : (mwrote M f pg p).ws = M.ws ++ [(f, pg, p, false)] := rfl
      rw [e1, List.map_append, List.flatten_append]
      simp only [List.length_append, List.length_singleton, List.map_cons, List.map_nil, List.flatten_cons, List.flatten_nil, List.append_nil]
      refine k4.owns g1 fun k hk' => ?_
      rcases g3 with e | e
      · rw [e] at hk'
        exact (hI3.fw k hk').2
      · rw [e] at hk'
        have := blk_lt hI3.blk
        simp at hk'
        omega) (g3.imp id fun e => .inr ⟨_, e, by simp⟩)
  have k3 : Keep F w (w4.setCell ⟨m, 0, none⟩ (.slice ao2 (M.ws.length + 1) cap2)) := (hkw.mono (fun k e => e ▸ hI.fb)).trans k2 fun k e _ => by
    rcases e with rfl | e
    · exact hI.fb
    · exact (hI.fw k e).1
  have hs1 := hkw.size
  refine ⟨(hIf.widen (fun k hk => ?_) (fun k hk => ?_)).at_, k3⟩
  · rcases hk with hk | hk
    · exact .inl hk
    · exact .inr ⟨by omega, hk.2⟩
  · rcases hk with hk | hk
    · exact Nat.lt_of_lt_of_le (hI.fp k hk) k3.size
    · exact hk.2

def mwriteD (M : MS) (f pg : Nat) (p : List Value) : Bool × MS :=
  if M.dead || decide (1 < f) || decide (sizeM M f < pg) || decide (1024 ≤ pg) || decide (2048 ≤ cachedL M.ws) then (false, M)
  else if countB M then (true, mwrote M f pg p) else (false, counted M)
/-- The death is not behind, unless dead. -/
def MLive (M : MS) : Prop := M.dead = false → M.at_ ≤ 0 ∨ (0 ≤ M.calls ∧ M.calls < M.at_)
theorem mwrite_any (h : ModAt w F m M) (hlv : MLive M) (f pg : Nat) (p : List Value) (hpp : IsPg p) (hlen : M.ws.length ≤ 4095) :
    Calls Yacd.prog 18 #[.pointer (some ⟨m, 0, none⟩), .int .u8 f, .int .u16 pg, .agg p.toArray] w fun e w' => e = .returned (.bool (mwriteD M f pg p).1) ∧ ModAt w' (Ext F w w') m (mwriteD M f pg p).2 ∧ Keep F w w' := by
  by_cases hbad : mbad M f pg
  · have e : mwriteD M f pg p = (false, M) := by
      unfold mwriteD
      rw [if_pos (by rcases hbad with h0 | h0 | h0 | h0 | h0 <;> simp [h0])]
    rw [e]
    refine (mwrite_no h f pg p (by omega) hbad).mono ?_
    rintro e w' ⟨rfl, hk⟩
    exact ⟨rfl, (h.keep hk (fun _ _ e => e)).ext hk.size, hk.of_non F⟩
  · have hd : M.dead = false := by
      cases hd : M.dead with
      | false => rfl
      | true => exact absurd (.inl hd) hbad
    have e1 : (M.dead || decide (1 < f) || decide (sizeM M f < pg) || decide (1024 ≤ pg) || decide (2048 ≤ cachedL M.ws)) = false := by
      have h1 : ¬ 1 < f := fun h0 => hbad (.inr (.inl h0))
      have h2 : ¬ sizeM M f < pg := fun h0 => hbad (.inr (.inr (.inl h0)))
      have h3 : ¬ 1024 ≤ pg := fun h0 => hbad (.inr (.inr (.inr (.inl h0))))
      have h4 : ¬ 2048 ≤ cachedL M.ws := fun h0 => hbad (.inr (.inr (.inr (.inr h0))))
      simp [hd, h1, h2, h3, h4]
    cases ht : countB M with
    | true =>
      have e : mwriteD M f pg p = (true, mwrote M f pg p) := by simp [mwriteD, e1, ht]
      rw [e]
      exact mwrite_go h f pg p hpp hlen hbad (hlv hd) ht
    | false =>
      have e : mwriteD M f pg p = (false, counted M) := by simp [mwriteD, e1, ht]
      rw [e]
      refine (mwrite_dies h f pg p (by omega) hbad (hlv hd) ht).mono ?_
      rintro e w' ⟨rfl, h1, h2⟩
      exact ⟨rfl, h1.ext h2.size, h2⟩
end
end Go.Proofs.Ygdacg
