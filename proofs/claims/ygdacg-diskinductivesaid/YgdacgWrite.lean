/-
  (*Disk).Write.
-/
import Derived.Test.YgdacgDisk
import Derived.Test.YgdacgPlan2
namespace Go.Proofs.Ygdacg
open Go.RowKit
set_option linter.unusedVariables false
set_option linter.unusedSimpArgs false
attribute [local simp] zero61 zero76

/-- The arguments' checks fail. -/
def wbad (D : DS) (f pg : Nat) : Prop := dead D = true ∨ 1 < f ∨ D.z f < pg ∨ 1024 ≤ pg ∨ 2048 ≤ D.c.length

section
variable {w : World} {F : Nat → Prop} {b : Nat} {D : DS}
set_option maxRecDepth 100000 in
set_option maxHeartbeats 1000000 in
theorem write_no (h : DiskAt w F b D) (f pg pb po : Nat) (hno : wbad D f pg) :
    Calls Yacd.prog 10 #[.pointer (some ⟨b, 0, none⟩), .int .u8 f, .int .u16 pg, .pointer (some ⟨pb, po, none⟩)] w fun e w' => e = .returned (.bool false) ∧ ∃ n, w' = w.drewN n := by
  cases hd : dead D with
  | true =>
    go_enter Yacd.func10, Yacd.ntmps10
    go_wp2_with (go_at_call 29; refine (dead_any h).mono ?_; rw [hd]; rintro e w' ⟨rfl, n, rfl⟩)
    go_ret
    exact ⟨rfl, _, rfl⟩
  | false =>
    by_cases hf : 1 < f
    · have hf' : (1 : Int) < (f : Int) := by omega
      go_enter Yacd.func10, Yacd.ntmps10
      go_wp2_with (go_at_call 29; refine (dead_any h).mono ?_; rw [hd]; rintro e w' ⟨rfl, n, rfl⟩)
      go_ret
      exact ⟨rfl, _, rfl⟩
    · have hf' : (f : Int) ≤ 1 := by omega
      have hd1 : decide ((1 : Int) < (f : Int)) = false := decide_eq_false (by omega)
      have hA := h
      obtain ⟨v, vc, h⟩ := h
      have hc := h.cSize f (by omega)
      have hcc := h.cCache
      obtain ⟨ao, cap, hvc, hle, hmx⟩ := owns_slice h.rc
      subst hvc
      by_cases hz : D.z f < pg
      · have hz' : (D.z f : Int) < (pg : Int) := by omega
        clear hno h
        go_enter Yacd.func10, Yacd.ntmps10
        go_wp2_with (go_at_call 29; refine (dead_any hA).mono ?_; rw [hd]; rintro e w' ⟨rfl, n, rfl⟩)
        go_ret
        exact ⟨rfl, _, rfl⟩
      · have hd2 : decide ((D.z f : Int) < (pg : Int)) = false := decide_eq_false (by omega)
        have hz' : ¬ (D.z f : Int) < (pg : Int) := by omega
        by_cases hp : 1024 ≤ pg
        · have hp' : (1024 : Int) ≤ (pg : Int) := by omega
          clear hno h
          go_enter Yacd.func10, Yacd.ntmps10
          go_wp2_with (go_at_call 29; refine (dead_any hA).mono ?_; rw [hd]; rintro e w' ⟨rfl, n, rfl⟩)
          go_ret
          exact ⟨rfl, _, rfl⟩
        · have hd3 : decide ((1024 : Int) ≤ (pg : Int)) = false := decide_eq_false (by omega)
          have hp' : (pg : Int) < 1024 := by omega
          have hl : (2048 : Int) ≤ (D.c.length : Int) := by
            rcases hno with h0 | h0 | h0 | h0 | h0
            · rw [hd] at h0; cases h0
            all_goals omega
          clear hno h
          go_enter Yacd.func10, Yacd.ntmps10
          go_wp2_with (go_at_call 29; refine (dead_any hA).mono ?_; rw [hd]; rintro e w' ⟨rfl, n, rfl⟩)
          go_ret
          exact ⟨rfl, _, rfl⟩

/-- The cache has turned, and the struct. -/
theorem DiskIs.recache {w1 w2 : World} {v : Nat → Value} {vc vc' : Value} {D' : DS} (h : DiskIs w1 F b v vc D) (hk : Keep (fun k => k = b ∨ vc.ownBlock = some k) w1 w2) (hok : DOK D') (hs : D'.s = D.s)
    (hb : World.blk w2 b 39 [v 0, v 1, vc', .int .u16 (D'.z 0), .int .u16 (D'.z 1), .int .i64 D'.at_, .int .i64 D'.calls])
    (hc : w2.ownsRow 0 76 130 vc' D'.c.length (D'.c.map cwc).flatten) (hv : vc'.ownBlock = vc.ownBlock ∨ vc'.ownBlock = none ∨ ∃ k, vc'.ownBlock = some k ∧ w1.heap.size ≤ k) : DiskIs w2 (Ext F w1 w2) b v vc' D' := by
  have hlt : ∀ f k, f < 2 → (v f).ownBlock = some k → k < w1.heap.size := fun f k hf hk => h.fp k (h.fs f k hf hk).1
  refine ⟨hok, fun k hF => ?_, .inl h.fb, hb, fun f hf => ?_, hc, fun f k hf hk => ⟨.inl (h.fs f k hf hk).1, (h.fs f k hf hk).2⟩, fun k hk' => ?_, h.a01, fun f k hf hk' => ?_⟩
  · rcases hF with hF | hF
    · exact Nat.lt_of_lt_of_le (h.fp k hF) hk.size
    · exact hF.2
  · rw [hs]
    refine hk.owns (h.rs f hf) fun k hk' => ?_
    rintro (rfl | e)
    · exact (h.fs f _ hf hk').2 rfl
    · exact h.asc f k hf hk' e
  · have hk2 : k < w2.heap.size := (hc.lt k hk').2
    rcases hv with e | e | ⟨k', e, hk1⟩
    · rw [e] at hk'
      exact ⟨.inl (h.fc k hk').1, (h.fc k hk').2⟩
    · rw [e] at hk'
      cases hk'
    · rw [e] at hk'
      obtain rfl : k' = k := by simpa using hk'
      refine ⟨.inr ⟨hk1, hk2⟩, fun e => ?_⟩
      have := blk_lt h.blk
      omega
  · rcases hv with e | e | ⟨k', e, hk1⟩
    · rw [e]
      exact h.asc f k hf hk'
    · rw [e]
      simp
    · rw [e]
      have := hlt f k hf hk'
      simp
      omega
theorem ticked_c (D : DS) : (ticked D).c = D.c := by unfold ticked; split <;> rfl
theorem ticked_s (D : DS) : (ticked D).s = D.s := by unfold ticked; split <;> rfl
theorem ticked_z (D : DS) : (ticked D).z = D.z := by unfold ticked; split <;> rfl
theorem ticked_at (D : DS) : (ticked D).at_ = D.at_ := by unfold ticked; split <;> rfl

theorem sizes_at (v : Nat → Value) (vc a c : Value) (z : Nat → Nat) (f : Nat) (hf : f < 2) : [v 0, v 1, vc, .int .u16 (z 0), .int .u16 (z 1), a, c][3 + f]? = some (.int .u16 (z f)) := by
  match f, hf with
  | 0, _ => rfl
  | 1, _ => rfl
theorem sizes_set (v : Nat → Value) (vc vc' a c : Value) (z z' : Nat → Nat) (f : Nat) (hf : f < 2) (n : Int) (h1 : n = z' f) (h2 : ∀ k, k ≠ f → z' k = z k) :
    ([v 0, v 1, vc, .int .u16 (z 0), .int .u16 (z 1), a, c].set 2 vc').set (3 + f) (.int .u16 n) = [v 0, v 1, vc', .int .u16 (z' 0), .int .u16 (z' 1), a, c] := by
  subst h1
  match f, hf with
  | 0, _ => rw [h2 1 (by omega)]; rfl
  | 1, _ => rw [h2 0 (by omega)]; rfl

/-- What a Write that goes through leaves. -/
def wrote (D : DS) (f pg : Nat) (p : List Value) : DS :=
  { ticked D with c := D.c ++ [(f, pg, p)], z := fun k => if k = f ∧ pg = D.z f then D.z f + 1 else D.z k }

set_option maxRecDepth 100000 in
set_option maxHeartbeats 600000 in
theorem write_go (h : DiskAt w F b D) (f pg pb po : Nat) (p : List Value) (hok : ¬ wbad D f pg) (hlive : D.at_ ≤ 0 ∨ (0 ≤ D.calls ∧ D.calls < D.at_)) (ht : tickB D = true)
    (hp : IsPg p) (hr : w.rangeAt pb po p) (hpb : ¬ F pb) :
    Calls Yacd.prog 10 #[.pointer (some ⟨b, 0, none⟩), .int .u8 f, .int .u16 pg, .pointer (some ⟨pb, po, none⟩)] w fun e w' => e = .returned (.bool true) ∧ DiskAt w' (Ext F w w') b (wrote D f pg p) ∧ Keep F w w' := by
  have hd : dead D = false := by
    cases hd : dead D with
    | false => rfl
    | true => exact absurd (.inl hd) hok
  have hf : f < 2 := by
    have : ¬ 1 < f := fun h0 => hok (.inr (.inl h0))
    omega
  have hz : ¬ D.z f < pg := fun h0 => hok (.inr (.inr (.inl h0)))
  have hpg : ¬ 1024 ≤ pg := fun h0 => hok (.inr (.inr (.inr (.inl h0))))
  have hl : ¬ 2048 ≤ D.c.length := fun h0 => hok (.inr (.inr (.inr (.inr h0))))
  have hf' : (f : Int) ≤ 1 := by omega
  have hd1 : decide ((1 : Int) < (f : Int)) = false := decide_eq_false (by omega)
  have hd2 : decide ((D.z f : Int) < (pg : Int)) = false := decide_eq_false (by omega)
  have hd3 : decide ((1024 : Int) ≤ (pg : Int)) = false := decide_eq_false (by omega)
  have hd4 : decide ((2048 : Int) ≤ (D.c.length : Int)) = false := decide_eq_false (by omega)
  have hz' : ¬ (D.z f : Int) < (pg : Int) := by omega
  have hp' : (pg : Int) < 1024 := by omega
  have hl' : (D.c.length : Int) < 2048 := by omega
  have hA := h
  obtain ⟨v, vc, h⟩ := h
  have hc := h.cSize f (by omega)
  have hcc := h.cCache
  have hrc := h.rc
  obtain ⟨ao, cap, hvc, hle, hmx⟩ := owns_slice h.rc
  have hpbb : pb ≠ b := fun e => hpb (e ▸ h.fb)
  generalize hvcx : vc = vx at *
  subst hvc
  go_enter Yacd.func10, Yacd.ntmps10
  go_wp2_with (first | (go_at_call 29; refine (dead_any hA).mono ?_; rw [hd]; rintro e w' ⟨rfl, n, rfl⟩) | (go_at_call 30; refine (tick_any (h.drewN _) hlive).mono ?_; rw [ht]; rintro e w1 ⟨rfl, hD1, hk1⟩))
  have hkw : Keep (fun k => k = b) w w1 := ((Keep.refl _ _).drewN n).trans_same hk1
  have hc1 := hD1.cCache
  have hr1 : w1.rangeAt pb po p := hkw.range hr hpbb
  clear hc hcc hd1 hd2 hd3 hd4
  refine wp_plan (fun w' => w'.cell? ⟨b, 2, none⟩ = some (.slice ao D.c.length cap)) [(0, 0), (0, 1), (0, 2), (0, 3), (1, 4), (0, 5), (0, 6), (0, 7), (0, 8), (2, 9), (0, 10)] [11] 12 [13, 14, 15] (by kernel_rfl) (by kernel_rfl) (by kernel_rfl) hc1 ?_
  intro N hN
  simp only [List.filterMap_cons, List.filterMap_nil, List.getElem?_toArray, List.getElem?_cons_succ, List.getElem?_cons_zero, Option.map_some] at hN ⊢
  repeat (first
    | (refine quiet_free (v := ?_) rfl ?_ ?_; rotate_left; focus (intro w'; go_simp; try with_reducible rfl))
    | (refine quiet_held (v := ?_) rfl ?_ ?_; rotate_left; focus (intro w' hw'; go_simp; try with_reducible rfl)))
  simp only [Act.put, List.setIfInBounds_toArray, List.set_cons_zero, List.set_cons_succ]
  refine quiet_early rfl (exec_load61 _ rfl pb po rfl p hp.len hr1) ?_
  refine quiet_free rfl (fun w' => exec_build76 _ _ _ rfl f pg p rfl rfl rfl hp) ?_
  refine quiet_done (hN _ ?_)
  clear hN
  simp only [Act.put, List.setIfInBounds_toArray, List.set_cons_zero, List.set_cons_succ]
  refine loud_run rfl (exec_buildSlice _ 35 76 rfl Yacd.underlying35 info76 (by omega) (by omega) (cwc (f, pg, p)) rfl (cwc_len hp)) ?_ (loud_done ?_)
  · rw [World.cell?_alloc_lt _ _ _ (by exact blk_lt hD1.blk)]
    exact hc1
  simp only [Act.put, List.setIfInBounds_toArray, List.set_cons_zero, List.set_cons_succ]
  change wpList _ _ _ [_, _, _, _] _ _
  have ho1 : (w1.drew.alloc (Obj.cells (cwc (f, pg, p)).toArray 76)).ownsRow 0 76 130 (.slice ao D.c.length cap) D.c.length (D.c.map cwc).flatten := by
    have := hD1.rc
    rw [ticked_c] at this
    exact (World.ownsRow.drew this).alloc _
  refine wl_append rfl _ _ 35 rfl 76 Yacd.underlying35 info76 (by simp [Value.cells, cwc_len (e := (0, 0, zpg)) zpg_is]) (by omega) _ D.c.length (D.c.map cwc).flatten rfl ho1 _ 1 1 (cwc (f, pg, p)) rfl (by simp [cwc_len (e := (f, pg, p)) hp]) (fun j u hu => by rw [Addr.add_mid]; exact range_alloc_new _ _ _ j u hu) (cwc_one hp) (by simp only [maxLen]; omega) (by omega) ?_
  intro vc2 w2 g1 g2 g3
  obtain ⟨ao2, cap2, rfl, -, -⟩ := owns_slice g1
  have hb2 : World.blk w2 b 39 [v 0, v 1, .slice ao D.c.length cap, .int .u16 (D.z 0), .int .u16 (D.z 1), .int .i64 (ticked D).at_, .int .i64 (ticked D).calls] := by
    have := hD1.blk
    rw [ticked_z] at this
    refine blk_grown (blk_alloc (blk_drew this) _) g2 fun e => ?_
    exact (hD1.fc _ e).2 rfl
  have k1 : Keep (fun k => k = b ∨ (Value.slice ao D.c.length cap).ownBlock = some k) w1 w2 := (((Keep.refl _ _).drew).alloc _).grown g2 (fun k e => .inl (.inr e))
  have c2 : w2.cell? ⟨b, 2, none⟩ = some (.slice ao D.c.length cap) := by rw [blk_cell hb2]; rfl
  have f2 : w2.frozen? ⟨b, 2, none⟩ = false := blk_frozen hb2 2
  have c3 : w2.cell? ⟨b, 3 + f, none⟩ = some (.int .u16 (D.z f)) := by
    rw [blk_cell hb2]
    exact sizes_at v _ _ _ D.z f hf
  have f3 : w2.frozen? ⟨b, 3 + f, none⟩ = false := blk_frozen hb2 _
  clear ho1 hr1 hc1
  have hzc : ∀ k, k < 2 → (wrote D f pg p).z k < 65536 := fun k hk => by
    have := h.ok.z k hk
    simp only [wrote]
    split
    · omega
    · omega
  have hokw : DOK (wrote D f pg p) := by
    have o1 := hD1.ok
    refine ⟨?_, ?_, hzc, o1.at1, o1.at0, o1.calls1, o1.calls0⟩
    · show ∀ f, f < 2 → ∀ p ∈ (ticked D).s f, IsPg p
      exact o1.ps
    · intro e he
      rcases List.mem_append.1 he with he | he
      · exact h.ok.pc e he
      · obtain rfl : e = (f, pg, p) := by simpa using he
        exact ⟨hp, show f < 256 by omega, show pg < 65536 by omega⟩
  have hcw : ∀ w', Keep (fun k => k = b) w2 w' → w'.ownsRow 0 76 130 (.slice ao2 (D.c.length + 1) cap2) (wrote D f pg p).c.length ((wrote D f pg p).c.map cwc).flatten := fun w' hk => by
    have e1 : (wrote D f pg p).c = D.c ++ [(f, pg, p)] := rfl
    rw [e1, List.map_append, List.flatten_append]
    simp only [List.length_append, List.length_singleton, List.map_cons, List.map_nil, List.flatten_cons, List.flatten_nil, List.append_nil]
    refine hk.owns g1 fun k hk' => ?_
    rcases g3 with e | e
    · rw [e] at hk'
      exact (hD1.fc k hk').2
    · rw [e] at hk'
      have := blk_lt hD1.blk
      simp at hk'
      omega
  have hfin : ∀ w', Keep (fun k => k = b) w2 w' → World.blk w' b 39 [v 0, v 1, .slice ao2 (D.c.length + 1) cap2, .int .u16 ((wrote D f pg p).z 0), .int .u16 ((wrote D f pg p).z 1), .int .i64 (ticked D).at_, .int .i64 (ticked D).calls] →
      DiskAt w' (Ext F w w') b (wrote D f pg p) ∧ Keep F w w' := fun w' hk hb => by
    have k2 : Keep (fun k => k = b ∨ (Value.slice ao D.c.length cap).ownBlock = some k) w1 w' := k1.trans hk (fun k e _ => .inl e)
    have hA2 := (hD1.recache (D' := wrote D f pg p) k2 hokw (by show (ticked D).s = (ticked D).s; rfl) hb (hcw w' hk) (g3.imp id fun e => .inr ⟨_, e, by simp⟩)).at_
    have k3 : Keep F w w' := (hkw.mono (fun k e => e ▸ h.fb)).trans k2 fun k e _ => by
      rcases e with rfl | e
      · exact h.fb
      · exact (h.fc k e).1
    refine ⟨?_, k3⟩
    obtain ⟨v', vc', hI⟩ := hA2
    have hs1 := hkw.size
    refine ⟨v', vc', hI.ok, fun k hF => ?_, .inl h.fb, hI.blk, hI.rs, hI.rc, fun f k hf hk' => ⟨?_, (hI.fs f k hf hk').2⟩, fun k hk' => ⟨?_, (hI.fc k hk').2⟩, hI.a01, hI.asc⟩
    · rcases hF with hF | hF
      · exact Nat.lt_of_lt_of_le (h.fp k hF) k3.size
      · exact hF.2
    · rcases (hI.fs f k hf hk').1 with hF | hF
      · exact .inl hF
      · exact .inr ⟨by omega, hF.2⟩
    · rcases (hI.fc k hk').1 with hF | hF
      · exact .inl hF
      · exact .inr ⟨by omega, hF.2⟩
  have HF := Aside.out (p := ∀ w', Keep (fun k => k = b) w2 w' → World.blk w' b 39 [v 0, v 1, .slice ao2 (D.c.length + 1) cap2, .int .u16 ((wrote D f pg p).z 0), .int .u16 ((wrote D f pg p).z 1), .int .i64 (ticked D).at_, .int .i64 (ticked D).calls] → DiskAt w' (Ext F w w') b (wrote D f pg p) ∧ Keep F w w') hfin
  have AF : Aside (∀ w', Keep (fun k => k = b) w2 w' → World.blk w' b 39 [v 0, v 1, .slice ao2 (D.c.length + 1) cap2, .int .u16 ((wrote D f pg p).z 0), .int .u16 ((wrote D f pg p).z 1), .int .i64 (ticked D).at_, .int .i64 (ticked D).calls] → DiskAt w' (Ext F w w') b (wrote D f pg p) ∧ Keep F w w') := HF
  clear HF hfin hcw hokw hzc k1 g1 g2 g3 hD1 hk1 hkw
  by_cases hpz : pg = D.z f
  · have hpz' : ((pg : Int) == (D.z f : Int)) = true := beq_iff_eq.2 (by omega)
    have hz1 : (D.z f : Int) < 1024 := by omega
    have hf2 : (f : Int) < 2 := by omega
    go_wp2
    refine NP.at_normal ?_
    go_wp2
    refine wp_plan (fun _ => True) [(0, 0), (0, 1), (0, 2), (0, 3), (0, 4), (2, 5), (0, 6), (0, 7), (0, 8), (0, 9)] [] 10 [] (by kernel_rfl) (by kernel_rfl) (by kernel_rfl) trivial ?_
    intro N hN
    simp only [List.filterMap_cons, List.filterMap_nil, List.getElem?_toArray, List.getElem?_cons_succ, List.getElem?_cons_zero, Option.map_some] at hN ⊢
    repeat (first
      | (refine quiet_free (v := ?_) rfl ?_ ?_; rotate_left; focus (intro w'; go_simp; try with_reducible rfl))
      | (refine quiet_early (v := ?_) rfl ?_ ?_; rotate_left; focus (go_simp; try with_reducible rfl)))
    refine quiet_done (hN _ (loud_done ?_))
    clear hN
    simp only [Act.put, List.setIfInBounds_toArray, List.set_cons_zero, List.set_cons_succ]
    change wpList _ _ _ [_] _ _
    go_wp2
    refine NP.at_normal ?_
    go_wp2
    go_ret
    refine ⟨rfl, AF.out _ ?_ ?_⟩
    · exact (((Keep.refl (fun k => k = b) w2).setCell (p := ⟨b, 2, none⟩) _ (.inl rfl)).setCell (p := ⟨b, 3 + f, none⟩) _ (.inl rfl)).drew
    · refine blk_drew ?_
      have := blk_set (blk_set hb2 2 (.slice ao2 (D.c.length + 1) cap2)) (3 + f) (.int .u16 ((D.z f : Int) + 1))
      rw [sizes_set v _ _ _ _ D.z (wrote D f pg p).z f hf _ (by simp [wrote, hpz]) (fun k hk => by simp [wrote, hk])] at this
      exact this
  · have hpz' : ((pg : Int) == (D.z f : Int)) = false := beq_eq_false_iff_ne.2 (by omega)
    go_wp2
    refine NP.at_normal ?_
    go_wp2
    go_ret
    refine ⟨rfl, AF.out _ ?_ ?_⟩
    · exact (Keep.refl (fun k => k = b) w2).setCell (p := ⟨b, 2, none⟩) _ (.inl rfl)
    · have := blk_set hb2 2 (.slice ao2 (D.c.length + 1) cap2)
      have e1 : ∀ k, (wrote D f pg p).z k = D.z k := fun k => by simp [wrote, hpz]
      rw [e1, e1]
      exact this
end
end Go.Proofs.Ygdacg
