/-
  (*Disk).Sync.
-/
import Derived.Test.YgdacgMove
namespace Go.Proofs.Ygdacg
open Go.RowKit
set_option linter.unusedVariables false
set_option linter.unusedSimpArgs false
attribute [local simp] zero61 zero76

/-- What a Sync that goes through leaves. -/
def synced (D : DS) (f : Nat) : DS := { ticked D with s := updN D.s f (settleAll f (D.s f) D.c), c := D.c.filter (fun e => e.1 != f) }
/-- The disk behind k rounds. -/
def syncMid (D : DS) (f k : Nat) : DS := { ticked D with s := updN D.s f (settleAll f (D.s f) (D.c.take k)) }

def notF (f : Nat) (e : Nat × Nat × List Value) : Bool := e.1 != f
/-- What is kept of the first k. -/
def keptOf (D : DS) (f k : Nat) : List (Nat × Nat × List Value) := (D.c.take k).filter (notF f)

section
variable {D : DS} {f k : Nat}
theorem take_snoc_get {α : Type} (l : List α) (k : Nat) (h : k < l.length) : l.take (k + 1) = l.take k ++ [l[k]] := by rw [List.take_succ_eq_append_getElem h]
theorem syncMid_zero (D : DS) (f : Nat) : syncMid D f 0 = ticked D := by
  have e : updN D.s f (settleAll f (D.s f) (D.c.take 0)) = (ticked D).s := by
    funext j
    rw [ticked_s]
    by_cases h : j = f
    · subst h
      rw [updN_same]
      simp [settleAll]
    · rw [updN_ne _ _ _ h]
  unfold syncMid
  rw [e]
theorem syncMid_c (D : DS) (f k : Nat) : (syncMid D f k).c = D.c := by show (ticked D).c = D.c; exact ticked_c D
theorem syncMid_all (D : DS) (f k : Nat) (h : D.c.length ≤ k) : { syncMid D f k with c := D.c.filter (fun e => e.1 != f) } = synced D f := by
  unfold syncMid synced
  rw [List.take_of_length_le h]
theorem syncMid_hit (hk : k < D.c.length) (h : D.c[k].1 = f) : (syncMid D f (k + 1)).s = updN (syncMid D f k).s f (settleL ((syncMid D f k).s f) D.c[k].2.1 D.c[k].2.2) := by
  show updN D.s f (settleAll f (D.s f) (D.c.take (k + 1))) = updN (updN D.s f (settleAll f (D.s f) (D.c.take k))) f (settleL (updN D.s f (settleAll f (D.s f) (D.c.take k)) f) D.c[k].2.1 D.c[k].2.2)
  rw [take_snoc_get D.c k hk, settleAll_snoc, if_pos h]
  funext j
  by_cases hj : j = f
  · subst hj
    rw [updN_same, updN_same, updN_same]
  · rw [updN_ne _ _ _ hj, updN_ne _ _ _ hj, updN_ne _ _ _ hj]
theorem syncMid_miss (hk : k < D.c.length) (h : D.c[k].1 ≠ f) : syncMid D f (k + 1) = syncMid D f k := by
  unfold syncMid
  rw [take_snoc_get D.c k hk, settleAll_snoc, if_neg h]
theorem keptOf_hit (hk : k < D.c.length) (h : D.c[k].1 = f) : keptOf D f (k + 1) = keptOf D f k := by
  unfold keptOf
  rw [take_snoc_get D.c k hk, List.filter_append]
  simp [notF, h]
theorem keptOf_miss (hk : k < D.c.length) (h : D.c[k].1 ≠ f) : keptOf D f (k + 1) = keptOf D f k ++ [D.c[k]] := by
  unfold keptOf
  rw [take_snoc_get D.c k hk, List.filter_append]
  simp [notF, h]
theorem keptOf_len (D : DS) (f k : Nat) : (keptOf D f k).length ≤ D.c.length := Nat.le_trans (List.length_filter_le _ _) (by rw [List.length_take]; omega)
theorem syncMid_ok (h : DOK D) (ht : DOK (ticked D)) : DOK (syncMid D f k) := by
  refine ⟨fun g hg p hp => ?_, ht.pc, ht.z, ht.at1, ht.at0, ht.calls1, ht.calls0⟩
  have hp' : p ∈ updN D.s f (settleAll f (D.s f) (D.c.take k)) g := hp
  by_cases hgf : g = f
  · subst hgf
    rw [updN_same] at hp'
    exact settleAll_is (h.ps g hg) _ (fun e he => (h.pc e (List.mem_of_mem_take he)).1) p hp'
  · rw [updN_ne _ _ _ hgf] at hp'
    exact h.ps g hg p hp'
end

/-- Behind k rounds. -/
def SyncRel (w1 : World) (F : Nat → Prop) (b : Nat) (vc : Value) (D : DS) (f k : Nat) (u : Value) (wr : World) : Prop :=
  ∃ G v', DiskIs wr G b v' vc (syncMid D f k) ∧ (∀ j, G j → Ext F w1 wr j) ∧ (∀ j, u.ownBlock = some j → ¬ G j ∧ w1.heap.size ≤ j) ∧ wr.ownsRow 0 76 130 u (keptOf D f k).length ((keptOf D f k).map cwc).flatten ∧ Keep F w1 wr

section
variable {w : World} {F : Nat → Prop} {b : Nat} {D : DS}
theorem SyncRel.start {w1 : World} {v : Nat → Value} {vc : Value} {f : Nat} (h : DiskIs w1 F b v vc (ticked D)) : SyncRel w1 F b vc D f 0 (.slice none 0 0) w1 := by
  refine ⟨F, v, by rw [syncMid_zero]; exact h, fun j hj => .inl hj, fun j hj => by simp [Value.ownBlock] at hj, ?_, Keep.refl _ _⟩
  simpa [keptOf] using World.ownsRow_nil w1 0 76 130

theorem SyncRel.miss {w1 wr w2 : World} {G : Nat → Prop} {v' : Nat → Value} {vc u u' : Value} {f k : Nat} {o : Obj} (hI : DiskIs wr G b v' vc (syncMid D f k)) (hG : ∀ j, G j → Ext F w1 wr j) (hu : ∀ j, u.ownBlock = some j → ¬ G j ∧ w1.heap.size ≤ j) (hK : Keep F w1 wr)
    (hk : k < D.c.length) (hE : D.c[k].1 ≠ f) (g1 : w2.ownsRow 0 76 130 u' ((keptOf D f k).length + 1) (((keptOf D f k).map cwc).flatten ++ cwc D.c[k])) (g2 : (wr.alloc o).grownBy w2 u.ownBlock) (g3 : u'.ownBlock = u.ownBlock ∨ u'.ownBlock = some (wr.heap.size + 1)) :
    SyncRel w1 F b vc D f (k + 1) u' w2 := by
  have k1 : Keep (fun j => u.ownBlock = some j) wr w2 := ((Keep.refl _ wr).alloc o).grown g2 (fun j e => .inl e)
  have hs := hK.size
  have hs2 := k1.size
  refine ⟨G, v', ?_, fun j hj => ?_, fun j hj => ?_, ?_, ?_⟩
  · rw [syncMid_miss hk hE]
    exact hI.keep k1 fun j hj e => (hu j e).1 hj
  · rcases hG j hj with h1 | ⟨h1, h2⟩
    · exact .inl h1
    · exact .inr ⟨h1, by omega⟩
  · rcases g3 with e | e
    · rw [e] at hj
      exact hu j hj
    · rw [e] at hj
      obtain rfl : wr.heap.size + 1 = j := by simpa using hj
      exact ⟨fun hg => by have := hI.fp _ hg; omega, by omega⟩
  · rw [keptOf_miss hk hE]
    simpa using g1
  · exact hK.trans k1 fun j e hlt => by have := (hu j e).2; omega

theorem SyncRel.hit {w1 wr w2 w3 : World} {G : Nat → Prop} {v' : Nat → Value} {vc u v1 : Value} {f k : Nat} (hf : f < 2) (hok : DOK D) (hI : DiskIs wr G b v' vc (syncMid D f k)) (hG : ∀ j, G j → Ext F w1 wr j) (hu : ∀ j, u.ownBlock = some j → ¬ G j ∧ w1.heap.size ≤ j) (hK : Keep F w1 wr)
    (hou : wr.ownsRow 0 76 130 u (keptOf D f k).length ((keptOf D f k).map cwc).flatten)
    (hk : k < D.c.length) (hE : D.c[k].1 = f) (g1 : w2.ownsRow 0 61 128 v1 (settleL ((syncMid D f k).s f) D.c[k].2.1 D.c[k].2.2).length (settleL ((syncMid D f k).s f) D.c[k].2.1 D.c[k].2.2).flatten) (g2 : wr.drew.grownBy w2 (v' f).ownBlock)
    (g3 : v1.ownBlock = (v' f).ownBlock ∨ ∃ j, v1.ownBlock = some j ∧ wr.heap.size ≤ j) (hw : w3 = w2.setCell ⟨b, f, none⟩ v1) : SyncRel w1 F b vc D f (k + 1) u w3 := by
  have k1 : Keep (fun j => (v' f).ownBlock = some j) wr w2 := ((Keep.refl _ wr).drew).grown g2 (fun j e => .inl e)
  have k2 : Keep (fun j => j = b) w2 w3 := by rw [hw]; exact (Keep.refl (fun j => j = b) w2).setCell (p := ⟨b, f, none⟩) _ (.inl rfl)
  have k3 : Keep (fun j => j = b ∨ (v' f).ownBlock = some j) wr w3 := (k1.mono (fun j e => .inr e)).trans k2 (fun j e _ => .inl e)
  have hs := hK.size
  have hs3 := k3.size
  have hv1 : ∀ j, v1.ownBlock = some j → j ≠ b := fun j hj => by
    rcases g3 with e | ⟨j', e, hle⟩
    · rw [e] at hj
      exact (hI.fs f j hf hj).2
    · rw [e] at hj
      have := blk_lt hI.blk
      simp at hj
      omega
  have hb2 : World.blk w2 b 39 _ := blk_keep hI.blk k1 (fun e => (hI.fs f b hf e).2 rfl)
  have hI3 := hI.restable hf (D' := syncMid D f (k + 1)) (v1 := v1) k3 (syncMid_ok hok ⟨by rw [ticked_s]; exact hok.ps, by rw [ticked_c]; exact hok.pc, by rw [ticked_z]; exact hok.z, hI.ok.at1, hI.ok.at0, hI.ok.calls1, hI.ok.calls0⟩) (syncMid_hit hk hE) (by rw [syncMid_c, syncMid_c])
    (by rw [hw]; have := blk_set hb2 f v1; rw [stable_set v' v1 _ _ _ _ _ f hf] at this; exact this) (k2.owns g1 hv1) (g3.imp id .inr)
  refine ⟨_, _, hI3, fun j hj => ?_, fun j hj => ⟨fun hg => ?_, (hu j hj).2⟩, ?_, ?_⟩
  · rcases hj with hj | ⟨h1, h2⟩
    · rcases hG j hj with h1 | ⟨h1, h2⟩
      · exact .inl h1
      · exact .inr ⟨h1, by omega⟩
    · exact .inr ⟨by omega, h2⟩
  · have hlt := (hou.lt j hj).2
    rcases hg with hg | hg
    · exact (hu j hj).1 hg
    · omega
  · rw [keptOf_hit hk hE]
    refine k3.owns hou fun j hj => ?_
    rintro (e | e)
    · exact (hu j hj).1 (e ▸ hI.fb)
    · exact (hu j hj).1 (hI.fs f j hf e).1
  · refine hK.trans k3 fun j e hlt => ?_
    rcases e with rfl | e
    · rcases hG _ hI.fb with h1 | ⟨h1, h2⟩
      · exact h1
      · omega
    · rcases hG j (hI.fs f j hf e).1 with h1 | ⟨h1, h2⟩
      · exact h1
      · omega

theorem keptOf_all {f k : Nat} (hk : ¬ k < D.c.length) : keptOf D f k = (synced D f).c := by
  show keptOf D f k = D.c.filter (fun e => e.1 != f)
  unfold keptOf
  rw [List.take_of_length_le (by omega)]
  rfl
theorem SyncRel.fin {w w1 wr w2 : World} {G : Nat → Prop} {v' : Nat → Value} {vc u : Value} {f k : Nat} (hok : DOK D) (hI : DiskIs wr G b v' vc (syncMid D f k)) (hG : ∀ j, G j → Ext F w1 wr j) (hu : ∀ j, u.ownBlock = some j → ¬ G j ∧ w1.heap.size ≤ j) (hK : Keep F w1 wr)
    (hou : wr.ownsRow 0 76 130 u (keptOf D f k).length ((keptOf D f k).map cwc).flatten) (hk : ¬ k < D.c.length) (hFb : F b) (hk0 : Keep (fun j => j = b) w w1) (hfp : ∀ j, F j → j < w.heap.size) (hw : w2 = wr.setCell ⟨b, 2, none⟩ u) : DiskAt w2 (Ext F w w2) b (synced D f) ∧ Keep F w w2 := by
  have k2 : Keep (fun j => j = b) wr w2 := by rw [hw]; exact (Keep.refl (fun j => j = b) wr).setCell (p := ⟨b, 2, none⟩) _ (.inl rfl)
  have hs0 := hk0.size
  have hs := hK.size
  have hs2 := k2.size
  have k3 : Keep F w w2 := (hk0.mono (fun j e => e ▸ hFb)).trans_same (hK.trans_same (k2.mono (fun j e => e ▸ hFb)))
  have hub : ∀ j, u.ownBlock = some j → j ≠ b := fun j hj e => (hu j hj).1 (e ▸ hI.fb)
  have okm := hI.ok
  have hoks : DOK (synced D f) := by
    have e := syncMid_all D f k (by omega)
    refine ⟨?_, fun x hx => ?_, ?_, ?_, ?_, ?_, ?_⟩
    · rw [← e]; exact okm.ps
    · have hx' : x ∈ D.c.filter (fun e => e.1 != f) := hx
      exact hok.pc x (List.mem_filter.1 hx').1
    · rw [← e]; exact okm.z
    · rw [← e]; exact okm.at1
    · rw [← e]; exact okm.at0
    · rw [← e]; exact okm.calls1
    · rw [← e]; exact okm.calls0
  have hss : (synced D f).s = (syncMid D f k).s := by rw [← syncMid_all D f k (by omega)]
  have hI2 := hI.swapCache (D' := synced D f) (vc' := u) k2 hoks hss (by rw [hw]; exact blk_set hI.blk 2 u) (by rw [← keptOf_all hk]; exact k2.owns hou hub) (fun j hj => (hu j hj).1)
  refine ⟨(hI2.widen (F' := Ext F w w2) (fun j hj => ?_) (fun j hj => ?_)).at_, k3⟩
  · rcases hj with hj | hj
    · rcases hG j hj with h1 | ⟨h1, h2⟩
      · exact .inl h1
      · exact .inr ⟨by omega, by omega⟩
    · have h1 := (hu j hj).2
      have h2 := (hou.lt j hj).2
      exact .inr ⟨by omega, by omega⟩
  · rcases hj with hj | hj
    · have := hfp j hj
      omega
    · exact hj.2

set_option maxHeartbeats 400000 in
theorem sync_no (h : DiskAt w F b D) (f : Nat) (hno : dead D = true ∨ 1 < f) :
    Calls Yacd.prog 26 #[.pointer (some ⟨b, 0, none⟩), .int .u8 f] w fun e w' => e = .returned (.bool false) ∧ ∃ n, w' = w.drewN n := by
  cases hd : dead D with
  | true =>
    go_enter Yacd.func26, Yacd.ntmps26
    go_wp2_with (go_at_call 29; refine (dead_any h).mono ?_; rw [hd]; rintro e w' ⟨rfl, n, rfl⟩)
    go_ret
    exact ⟨rfl, _, rfl⟩
  | false =>
    have hf' : (1 : Int) < (f : Int) := by
      rcases hno with h0 | h0
      · rw [hd] at h0; cases h0
      · omega
    go_enter Yacd.func26, Yacd.ntmps26
    go_wp2_with (go_at_call 29; refine (dead_any h).mono ?_; rw [hd]; rintro e w' ⟨rfl, n, rfl⟩)
    go_ret
    exact ⟨rfl, _, rfl⟩
set_option maxHeartbeats 400000 in
theorem sync_dies (h : DiskAt w F b D) (f : Nat) (hd : dead D = false) (hf : f < 2) (hlive : D.at_ ≤ 0 ∨ (0 ≤ D.calls ∧ D.calls < D.at_)) (ht : tickB D = false) :
    Calls Yacd.prog 26 #[.pointer (some ⟨b, 0, none⟩), .int .u8 f] w fun e w' => e = .returned (.bool false) ∧ DiskAt w' F b (ticked D) ∧ Keep F w w' := by
  have hf' : (f : Int) ≤ 1 := by omega
  have hd1 : decide ((1 : Int) < (f : Int)) = false := decide_eq_false (by omega)
  have hA := h
  obtain ⟨v, vc, h⟩ := h
  go_enter Yacd.func26, Yacd.ntmps26
  go_wp2_with (first | (go_at_call 29; refine (dead_any hA).mono ?_; rw [hd]; rintro e w' ⟨rfl, n, rfl⟩) | (go_at_call 30; refine (tick_any (h.drewN _) hlive).mono ?_; rw [ht]; rintro e w1 ⟨rfl, hD1, hk1⟩))
  go_ret
  exact ⟨rfl, hD1.at_, (((Keep.refl _ _).drewN n).trans_same hk1).mono (fun k e => e ▸ h.fb)⟩

set_option maxRecDepth 100000 in
set_option maxHeartbeats 1000000 in
theorem sync_go (h : DiskAt w F b D) (f : Nat) (hd : dead D = false) (hf : f < 2) (hlive : D.at_ ≤ 0 ∨ (0 ≤ D.calls ∧ D.calls < D.at_)) (ht : tickB D = true) (hpg : ∀ e ∈ D.c, e.2.1 < 1024) (hlen : D.c.length ≤ 2048) :
    Calls Yacd.prog 26 #[.pointer (some ⟨b, 0, none⟩), .int .u8 f] w fun e w' => e = .returned (.bool true) ∧ DiskAt w' (Ext F w w') b (synced D f) ∧ Keep F w w' := by
  have hf' : (f : Int) ≤ 1 := by omega
  have hf2 : (f : Int) < 2 := by omega
  have hd1 : decide ((1 : Int) < (f : Int)) = false := decide_eq_false (by omega)
  have hA := h
  obtain ⟨v, vc, h⟩ := h
  obtain ⟨ao, cap, hvc, hle, hmx⟩ := owns_slice h.rc
  generalize hvcx : vc = vx at *
  subst hvc
  have hlen' : (D.c.length : Int) ≤ 2048 := by omega
  go_enter Yacd.func26, Yacd.ntmps26
  go_wp2_with (first | (go_at_call 29; refine (dead_any hA).mono ?_; rw [hd]; rintro e w' ⟨rfl, n, rfl⟩) | (go_at_call 30; refine (tick_any (h.drewN _) hlive).mono ?_; rw [ht]; rintro e w1 ⟨rfl, hD1, hk1⟩; have hcc := hD1.cCache))
  go_loopg [5, 22] D.c.length (fun m u i wr => ∃ k : Nat, k + m = D.c.length ∧ i = .int .i64 k ∧ SyncRel w1 F b (.slice ao D.c.length cap) D f k u wr)
  case atStart => exact ⟨0, by omega, rfl, SyncRel.start hD1⟩
  case round =>
    obtain ⟨k, hkm, rfl, G, v', hI, hG, hu, hou, hK⟩ := hrel
    have cc := hI.cCache
    obtain ⟨au, cu, rfl, -, -⟩ := owns_slice hou
    by_cases hk : k < D.c.length
    · have hk' : (k : Int) < (D.c.length : Int) := by omega
      obtain ⟨g, cap', hv, -, -, hrange⟩ := owns_elem (ls := D.c.map cwc) (by have := hI.rc; rw [syncMid_c] at this; simpa using this) (fun q hq => by obtain ⟨e, he, rfl⟩ := List.mem_map.1 hq; exact cwc_len (h.ok.pc e he).1) k (by simpa using hk)
      simp only [Value.slice.injEq, List.length_map, true_and] at hv
      obtain ⟨rfl, rfl⟩ := hv
      simp only [List.getElem_map] at hrange
      have c0 := hrange 0 _ rfl
      have c1 := hrange 1 _ rfl
      simp only [Nat.add_zero] at c0
      have hp := (h.ok.pc _ (List.getElem_mem hk)).1
      by_cases hE : D.c[k].1 = f
      · have hb1 : ((D.c[k].1 : Int) == (f : Int)) = true := beq_iff_eq.2 (by omega)
        have cs := hI.cStable f hf
        have hpg' : (D.c[k].2.1 : Int) < 1024 := by have := hpg _ (List.getElem_mem hk); omega
        have hrP : wr.rangeAt g (k * 130 + 2) D.c[k].2.2 := fun i u hu => by
          have := hrange (i + 2) u hu
          rw [show k * 130 + 2 + i = k * 130 + (i + 2) by omega]
          exact this
        have hpgN : D.c[k].2.1 < 1024 := hpg _ (List.getElem_mem hk)
        go_wp2_with fail
        refine wp_plan (fun _ => True) [(0, 0), (0, 1), (0, 2), (0, 3), (0, 4), (0, 5), (0, 6), (2, 7), (0, 8), (0, 9), (0, 10), (2, 11), (0, 12), (0, 13), (0, 14), (0, 16), (0, 17)] [] 15 [18, 19] (by kernel_rfl) (by kernel_rfl) (by kernel_rfl) trivial ?_
        intro N hN
        simp only [List.filterMap_cons, List.filterMap_nil, List.getElem?_toArray, List.getElem?_cons_succ, List.getElem?_cons_zero, Option.map_some] at hN ⊢
        repeat (first
          | (refine quiet_free (v := ?_) rfl ?_ ?_; rotate_left; focus (intro w'; go_simp; try with_reducible rfl))
          | (refine quiet_early (v := ?_) rfl ?_ ?_; rotate_left; focus (go_simp; try with_reducible rfl)))
        refine quiet_done (hN _ (loud_done ?_))
        clear hN
        simp only [Act.put, List.setIfInBounds_toArray, List.set_cons_zero, List.set_cons_succ]
        change wpList _ _ _ [_, _, _] _ _
        go_wp2_with fail
        refine (settle_any wr.drew (v' f) ((syncMid D f k).s f) D.c[k].2.1 g (k * 130 + 2) D.c[k].2.2 (hI.ok.ps f hf) hp hpgN (World.ownsRow.drew (hI.rs f hf)) hrP (fun j hj e => hI.asc f j hf hj (by rw [e]; rfl))).mono ?_
        rintro e w2 ⟨v1, rfl, g1, g2, g3⟩
        have hb2 := blk_grown (blk_drew hI.blk) g2 (fun e => (hI.fs f b hf e).2 rfl)
        have c2 : w2.cell? ⟨b, f, none⟩ = some (v' f) := by rw [blk_cell hb2, ← blk_cell hI.blk]; exact cs
        have f2 : w2.frozen? ⟨b, f, none⟩ = false := blk_frozen hb2 f
        obtain ⟨a1, p1, hv1, -, -⟩ := owns_slice g1
        subst hv1
        go_wp2
        refine NP.at_normal ?_
        go_wp2
        go_roundg (gk - 1)
        case measure => omega
        case rel => exact ⟨k + 1, by omega, by go_num, SyncRel.hit hf h.ok hI hG hu hK hou hk hE g1 g2 g3 rfl⟩
      · have hb1 : ((D.c[k].1 : Int) == (f : Int)) = false := beq_eq_false_iff_ne.2 (by omega)
        have ho1 := hou.alloc (.cells (cwc D.c[k]).toArray 76)
        have hkl := keptOf_len D f k
        go_wp2_with (first | (refine wl_load76 rfl _ rfl _ _ rfl (cwc D.c[k]) (cwc_len hp) hrange ?_) | (refine wl_buildSlice rfl _ 35 76 rfl Yacd.underlying35 info76 (by omega) (by omega) (cwc D.c[k]) rfl (cwc_len hp) ?_) | (at_builtin; refine wl_append rfl _ _ 35 rfl 76 Yacd.underlying35 info76 (by simp [Value.cells, cwc_len (e := (0, 0, zpg)) zpg_is]) (by omega) _ (keptOf D f k).length ((keptOf D f k).map cwc).flatten rfl ho1 _ 1 1 (cwc D.c[k]) rfl (by simp [cwc_len hp]) (fun j u hu => by rw [Addr.add_mid]; exact range_alloc_new _ _ _ j u hu) (cwc_one hp) (by simp only [maxLen]; omega) (by omega) ?_))
        intro u2 w2 g1 g2 g3
        go_wp2
        go_roundg (gk - 1)
        case measure => omega
        case rel => exact ⟨k + 1, by omega, by go_num, SyncRel.miss hI hG hu hK hk hE g1 g2 g3⟩
    · have hk' : ¬ (k : Int) < (D.c.length : Int) := by omega
      have f2 : wr.frozen? ⟨b, 2, none⟩ = false := blk_frozen hI.blk 2
      go_wp2
      go_ret
      refine ⟨rfl, ?_⟩
      exact SyncRel.fin (w := w) h.ok hI hG hu hK hou hk h.fb (((Keep.refl _ w).drewN n).trans_same hk1) h.fp rfl

def syncD (D : DS) (f : Nat) : Bool × DS :=
  if dead D || decide (1 < f) then (false, D) else if tickB D then (true, synced D f) else (false, ticked D)
theorem sync_any (h : DiskAt w F b D) (hlv : Lively D) (f : Nat) (hpg : ∀ e ∈ D.c, e.2.1 < 1024) (hlen : D.c.length ≤ 2048) :
    Calls Yacd.prog 26 #[.pointer (some ⟨b, 0, none⟩), .int .u8 f] w fun e w' => e = .returned (.bool (syncD D f).1) ∧ DiskAt w' (Ext F w w') b (syncD D f).2 ∧ Keep F w w' := by
  by_cases hbad : dead D = true ∨ 1 < f
  · have e : syncD D f = (false, D) := by
      unfold syncD
      rw [if_pos (by rcases hbad with h0 | h0 <;> simp [h0])]
    rw [e]
    refine (sync_no h f hbad).mono ?_
    rintro e w' ⟨rfl, n, rfl⟩
    exact ⟨rfl, (h.drewN n).ext (Nat.le_refl _), (Keep.refl _ _).drewN n⟩
  · have hd : dead D = false := by
      cases hd : dead D with
      | false => rfl
      | true => exact absurd (.inl hd) hbad
    have hf : ¬ 1 < f := fun h0 => hbad (.inr h0)
    have hlive := hlv.step hd
    cases ht : tickB D with
    | true =>
      have e : syncD D f = (true, synced D f) := by simp [syncD, hd, hf, ht]
      rw [e]
      exact sync_go h f hd (by omega) hlive ht hpg hlen
    | false =>
      have e : syncD D f = (false, ticked D) := by simp [syncD, hd, hf, ht]
      rw [e]
      refine (sync_dies h f hd (by omega) hlive ht).mono ?_
      rintro e w' ⟨rfl, h1, h2⟩
      exact ⟨rfl, h1.ext h2.size, h2⟩
end
end Go.Proofs.Ygdacg
