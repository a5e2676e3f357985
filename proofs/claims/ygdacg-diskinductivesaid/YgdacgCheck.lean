/-
  (*Disk).Check.
-/
import Derived.Test.YgdacgChk
namespace Go.Proofs.Ygdacg
open Go.RowKit
set_option linter.unusedVariables false
set_option linter.unusedSimpArgs false
attribute [local simp] zero61 zero76

theorem cnt_bound (f : Nat) : ∀ (c : List (Nat × Nat × List Value)) (n : Nat), cnt f n c ≤ n + c.length
  | [], n => Nat.le_refl _
  | e :: c, n => by
    show cnt f (if e.1 = f ∧ e.2.1 = n then n + 1 else n) c ≤ _
    have h1 := cnt_bound f c (n + 1)
    have h2 := cnt_bound f c n
    simp only [List.length_cons]
    split <;> omega
section
variable {w w' : World} {F G : Nat → Prop} {b : Nat} {v : Nat → Value} {vc : Value} {D : DS}
set_option maxRecDepth 100000 in
set_option maxHeartbeats 400000 in
theorem check_long (hI : DiskIs w F b v vc D) (hno : 1024 < (D.s 0).length ∨ 1024 < (D.s 1).length ∨ 2048 < D.c.length) :
    Calls Yacd.prog 24 #[.pointer (some ⟨b, 0, none⟩)] w fun e w' => e = .returned (.bool false) ∧ w' = w := by
  have q0 := hI.cStable 0 (by omega)
  have q1 := hI.cStable 1 (by omega)
  have q2 := hI.cCache
  obtain ⟨a0, p0, hv0, -, -⟩ := owns_slice (hI.rs 0 (by omega))
  obtain ⟨a1, p1, hv1, -, -⟩ := owns_slice (hI.rs 1 (by omega))
  obtain ⟨ac, pc, hvc, -, -⟩ := owns_slice hI.rc
  rw [hv0] at q0
  rw [hv1] at q1
  rw [hvc] at q2
  by_cases h0 : 1024 < (D.s 0).length
  · have h0' : (1024 : Int) < ((D.s 0).length : Int) := by omega
    clear hno
    go_enter Yacd.func24, Yacd.ntmps24
    go_wp2_with fail
    go_ret
    exact ⟨rfl, rfl⟩
  · have h0' : ¬ (1024 : Int) < ((D.s 0).length : Int) := by omega
    have e0 : decide ((1024 : Int) < ((D.s 0).length : Int)) = false := decide_eq_false h0'
    by_cases h1 : 1024 < (D.s 1).length
    · have h1' : (1024 : Int) < ((D.s 1).length : Int) := by omega
      clear hno
      go_enter Yacd.func24, Yacd.ntmps24
      go_wp2_with fail
      go_ret
      exact ⟨rfl, rfl⟩
    · have h1' : ¬ (1024 : Int) < ((D.s 1).length : Int) := by omega
      have e1 : decide ((1024 : Int) < ((D.s 1).length : Int)) = false := decide_eq_false h1'
      have h2' : (2048 : Int) < (D.c.length : Int) := by omega
      clear hno
      go_enter Yacd.func24, Yacd.ntmps24
      go_wp2_with fail
      go_ret
      exact ⟨rfl, rfl⟩

theorem no_chk (h : ¬ Chk D) : false = true ↔ Chk D := ⟨fun e => Bool.noConfusion e, fun e => absurd e h⟩
theorem yes_chk (h : Chk D) : true = true ↔ Chk D := ⟨fun _ => h, fun _ => rfl⟩
theorem DiskIs.elem (h : DiskIs w F b v vc D) {k : Nat} (hk : k < D.c.length) : ∃ g cap, vc = .slice (some ⟨g, 0, none⟩) D.c.length cap ∧ w.rangeAt g (k * 130) (cwc D.c[k]) := by
  obtain ⟨g, cap, hv, -, -, hr⟩ := owns_elem (ls := D.c.map cwc) (by simpa using h.rc) (fun q hq => by obtain ⟨e, he, rfl⟩ := List.mem_map.1 hq; exact cwc_len (h.ok.pc e he).1) k (by simpa using hk)
  simp only [List.length_map, List.getElem_map] at hv hr
  exact ⟨g, cap, hv, hr⟩
/-- The sizes counted so far, in the block of s. -/
def cntc (D : DS) (k : Nat) : List Value := [.int .i64 (cnt 0 (D.s 0).length (D.c.take k)), .int .i64 (cnt 1 (D.s 1).length (D.c.take k))]
def okAt (D : DS) (k : Nat) : Prop := ∀ j (h : j < D.c.length), j < k → D.c[j].1 < 2 ∧ D.c[j].2.1 < 1024 ∧ D.c[j].2.1 ≤ cnt D.c[j].1 (D.s D.c[j].1).length (D.c.take j)
theorem okAt.step {k : Nat} (h : okAt D k) (hk : k < D.c.length) (h1 : D.c[k].1 < 2 ∧ D.c[k].2.1 < 1024 ∧ D.c[k].2.1 ≤ cnt D.c[k].1 (D.s D.c[k].1).length (D.c.take k)) : okAt D (k + 1) := fun j hj hjk => by
  by_cases e : j = k
  · subst e
    exact h1
  · exact h j hj (by omega)
theorem cnt_step (D : DS) {k : Nat} (hk : k < D.c.length) (f : Nat) : cnt f (D.s f).length (D.c.take (k + 1)) = if D.c[k].1 = f ∧ D.c[k].2.1 = cnt f (D.s f).length (D.c.take k) then cnt f (D.s f).length (D.c.take k) + 1 else cnt f (D.s f).length (D.c.take k) := by
  rw [List.take_succ_eq_append_getElem hk, cnt_snoc]
theorem cntc_hit (D : DS) {k : Nat} (hk : k < D.c.length) (h2 : D.c[k].1 < 2) (hp : D.c[k].2.1 = cnt D.c[k].1 (D.s D.c[k].1).length (D.c.take k)) : (cntc D k).set D.c[k].1 (.int .i64 (cnt D.c[k].1 (D.s D.c[k].1).length (D.c.take k) + 1)) = cntc D (k + 1) := by
  unfold cntc
  rw [cnt_step D hk 0, cnt_step D hk 1]
  generalize D.c[k] = e at *
  obtain ⟨f, pg, p⟩ := e
  simp only at h2 hp ⊢
  match f, h2 with
  | 0, _ => simp [hp]
  | 1, _ => simp [hp]
theorem cntc_miss (D : DS) {k : Nat} (hk : k < D.c.length) (hp : ¬ D.c[k].2.1 = cnt D.c[k].1 (D.s D.c[k].1).length (D.c.take k)) : cntc D (k + 1) = cntc D k := by
  unfold cntc
  rw [cnt_step D hk 0, cnt_step D hk 1, if_neg (fun h => hp (by rw [h.1]; exact h.2)), if_neg (fun h => hp (by rw [h.1]; exact h.2))]

set_option maxRecDepth 100000 in
set_option maxHeartbeats 1000000 in
theorem check_go (hI : DiskIs w F b v vc D) (h0 : (D.s 0).length ≤ 1024) (h1 : (D.s 1).length ≤ 1024) (h2 : D.c.length ≤ 2048) :
    Calls Yacd.prog 24 #[.pointer (some ⟨b, 0, none⟩)] w fun e w' => ∃ B, e = .returned (.bool B) ∧ (B = true ↔ Chk D) ∧ Keep Non w w' := by
  have q0 := hI.cStable 0 (by omega)
  have q1 := hI.cStable 1 (by omega)
  have q2 := hI.cCache
  obtain ⟨a0, p0, hv0, -, -⟩ := owns_slice (hI.rs 0 (by omega))
  obtain ⟨a1, p1, hv1, -, -⟩ := owns_slice (hI.rs 1 (by omega))
  obtain ⟨ac, pc, hvc, -, -⟩ := owns_slice hI.rc
  rw [hv0] at q0
  rw [hv1] at q1
  rw [hvc] at q2
  have h0' : ¬ (1024 : Int) < ((D.s 0).length : Int) := by omega
  have e0 : decide ((1024 : Int) < ((D.s 0).length : Int)) = false := decide_eq_false h0'
  have h1' : ¬ (1024 : Int) < ((D.s 1).length : Int) := by omega
  have e1 : decide ((1024 : Int) < ((D.s 1).length : Int)) = false := decide_eq_false h1'
  have h2' : ¬ (2048 : Int) < (D.c.length : Int) := by omega
  have e2 : decide ((2048 : Int) < (D.c.length : Int)) = false := decide_eq_false h2'
  have hl2 : (D.c.length : Int) ≤ 2048 := by omega
  have Hv : Hid (v 0 = .slice a0 (D.s 0).length p0 ∧ v 1 = .slice a1 (D.s 1).length p1) := ⟨hv0, hv1⟩
  clear hv0 hv1
  have hbl := blk_lt hI.blk
  go_enter Yacd.func24, Yacd.ntmps24
  go_wp2_with fail
  clear e0 e1 e2 h0' h1' h2'
  refine wp_plan (fun w' => w'.cell? ⟨b, 0, none⟩ = some (.slice a0 (D.s 0).length p0) ∧ w'.cell? ⟨b, 1, none⟩ = some (.slice a1 (D.s 1).length p1)) [(0, 0), (0, 1), (0, 2), (0, 3), (1, 4), (0, 5), (0, 6), (0, 7), (0, 8), (0, 9), (1, 10), (0, 11), (0, 12)] [13] 14 [] (by kernel_rfl) (by kernel_rfl) (by kernel_rfl) ⟨q0, q1⟩ ?_
  intro N hN
  simp only [List.filterMap_cons, List.filterMap_nil, List.getElem?_toArray, List.getElem?_cons_succ, List.getElem?_cons_zero, Option.map_some] at hN ⊢
  repeat (first
    | (refine quiet_free (v := ?_) rfl ?_ ?_; rotate_left; focus (intro w'; go_simp; try with_reducible rfl))
    | (refine quiet_held (v := ?_) rfl ?_ ?_; rotate_left; focus (intro w' hw'; obtain ⟨t0, t1⟩ := hw'; go_simp; try with_reducible rfl)))
  refine quiet_done (hN _ ?_)
  clear hN
  simp only [Act.put, List.setIfInBounds_toArray, List.set_cons_zero, List.set_cons_succ]
  refine loud_run (v := .pointer (some ⟨w.heap.size, 0, none⟩)) (w' := w.drew.alloc (.cells #[.int .i64 0, .int .i64 0] 84)) rfl (by go_simp) ⟨by rw [World.cell?_alloc_lt _ _ _ hbl]; exact q0, by rw [World.cell?_alloc_lt _ _ _ hbl]; exact q1⟩ (loud_done ?_)
  simp only [Act.put, List.setIfInBounds_toArray, List.set_cons_zero, List.set_cons_succ]
  change wpList _ _ _ [_] _ _
  have hkA : Keep Non w (w.drew.alloc (.cells #[.int .i64 0, .int .i64 0] 84)) := ((Keep.refl Non w).drew).alloc _
  have hbA : World.blk (w.drew.alloc (.cells #[.int .i64 0, .int .i64 0] 84)) w.heap.size 84 [.int .i64 0, .int .i64 0] := blk_new _ _ [.int .i64 0, .int .i64 0]
  generalize w.drew.alloc (.cells #[.int .i64 0, .int .i64 0] 84) = wA at *
  have z0 : wA.cell? ⟨w.heap.size, 0, none⟩ = some (.int .i64 0) := by rw [blk_cell hbA]; rfl
  have z1 : wA.cell? ⟨w.heap.size, 1, none⟩ = some (.int .i64 0) := by rw [blk_cell hbA]; rfl
  have f0 := blk_frozen hbA 0
  have f1 := blk_frozen hbA 1
  have q2A := hkA.cell q2 (fun e => e)
  go_wp2_with fail
  refine NP.at_normal ?_
  go_wp2_with fail
  go_loopg [52] D.c.length (fun q i wr => ∃ k : Nat, k + q = D.c.length ∧ i = .int .i64 k ∧ World.blk wr w.heap.size 84 (cntc D k) ∧ Keep Non w wr ∧ Hid (okAt D k))
  case atStart => exact ⟨0, by omega, rfl, blk_set (blk_set hbA 0 _) 1 _, (hkA.setCell (p := ⟨w.heap.size, 0, none⟩) _ (.inr (Nat.le_refl _))).setCell (p := ⟨w.heap.size, 1, none⟩) _ (.inr (Nat.le_refl _)), fun j h hj => by omega⟩
  case round =>
    clear z0 z1 f0 f1 q2A hbA hkA
    obtain ⟨k, hkq, rfl, hb, hK, hOk⟩ := hrel
    have hIr := hI.keep hK (fun _ _ e => e)
    have q2r := hIr.cCache
    rw [hvc] at q2r
    by_cases hk : k < D.c.length
    · have hk' : (k : Int) < (D.c.length : Int) := by omega
      obtain ⟨g, cap', hv, hrange⟩ := hIr.elem hk
      rw [hvc] at hv
      simp only [Value.slice.injEq] at hv
      obtain ⟨rfl, -, -⟩ := hv
      have cf : wr.cell? ⟨g, k * 130, none⟩ = some (.int .u8 D.c[k].1) := by have := hrange 0 _ rfl; simpa using this
      have cp : wr.cell? ⟨g, k * 130 + 1, none⟩ = some (.int .u16 D.c[k].2.1) := hrange 1 _ rfl
      clear hrange q0 q1 q2
      by_cases hf : 1 < D.c[k].1
      · have hf' : (1 : Int) < (D.c[k].1 : Int) := by omega
        go_wp2_with fail
        go_quiet (fail)
        go_wp2_with fail
        go_ret
        exact ⟨false, rfl, no_chk (fun h => by have := (h.e k hk).1; omega), (by first | exact hK | exact hK.drewN _ | exact (hK.drewN _).drewN _)⟩
      · have hf' : ¬ (1 : Int) < (D.c[k].1 : Int) := by omega
        have ef : decide ((1 : Int) < (D.c[k].1 : Int)) = false := decide_eq_false hf'
        have hf2 : (D.c[k].1 : Int) ≤ 1 := by omega
        by_cases hp : 1024 ≤ D.c[k].2.1
        · have hp' : (1024 : Int) ≤ (D.c[k].2.1 : Int) := by omega
          go_wp2_with fail
          go_quiet (fail)
          go_wp2_with fail
          go_ret
          exact ⟨false, rfl, no_chk (fun h => by have := (h.e k hk).2.1; omega), (by first | exact hK | exact hK.drewN _ | exact (hK.drewN _).drewN _)⟩
        · have hp' : ¬ (1024 : Int) ≤ (D.c[k].2.1 : Int) := by omega
          have ep : decide ((1024 : Int) ≤ (D.c[k].2.1 : Int)) = false := decide_eq_false hp'
          have hp2 : (D.c[k].2.1 : Int) < 1024 := by omega
          have cs : wr.cell? ⟨w.heap.size, D.c[k].1, none⟩ = some (.int .i64 (cnt D.c[k].1 (D.s D.c[k].1).length (D.c.take k))) := by
            rw [blk_cell hb]
            have : D.c[k].1 < 2 := by omega
            unfold cntc
            generalize D.c[k].1 = f at *
            match f, this with
            | 0, _ => rfl
            | 1, _ => rfl
          have hcb : cnt D.c[k].1 (D.s D.c[k].1).length (D.c.take k) ≤ 4096 := by
            have h3 := cnt_bound D.c[k].1 (D.c.take k) (D.s D.c[k].1).length
            rw [List.length_take] at h3
            have h4 : (D.s D.c[k].1).length ≤ 1024 := by
              have : D.c[k].1 < 2 := by omega
              generalize D.c[k].1 = f at *
              match f, this with
              | 0, _ => exact h0
              | 1, _ => exact h1
            omega
          have Hm : Hid _ := fun hx => cntc_miss D hk hx
          have Hh : Hid _ := fun hx => cntc_hit D hk (by omega) hx
          have He : Hid (Chk D → D.c[k].2.1 ≤ cnt D.c[k].1 (D.s D.c[k].1).length (D.c.take k)) := fun h => (h.e k hk).2.2
          have Hst : Hid (D.c[k].2.1 ≤ cnt D.c[k].1 (D.s D.c[k].1).length (D.c.take k) → okAt D (k + 1)) := fun hx => hOk.out.step hk ⟨by omega, by omega, hx⟩
          generalize cnt D.c[k].1 (D.s D.c[k].1).length (D.c.take k) = n at *
          have hn4 : (n : Int) ≤ 4096 := by omega
          by_cases hq : n < D.c[k].2.1
          · have hq' : (n : Int) < (D.c[k].2.1 : Int) := by omega
            go_wp2_with fail
            go_quiet (fail)
            go_wp2_with fail
            go_ret
            exact ⟨false, rfl, no_chk (fun h => by have := He.out h; omega), (by first | exact hK | exact hK.drewN _ | exact (hK.drewN _).drewN _)⟩
          · have hq' : ¬ (n : Int) < (D.c[k].2.1 : Int) := by omega
            have eq : decide ((n : Int) < (D.c[k].2.1 : Int)) = false := decide_eq_false hq'
            by_cases hr : D.c[k].2.1 = n
            · have er : ((D.c[k].2.1 : Int) == (n : Int)) = true := beq_iff_eq.2 (by omega)
              have fr : wr.frozen? ⟨w.heap.size, D.c[k].1, none⟩ = false := blk_frozen hb _
              have Hr : Hid (D.c[k].2.1 = n) := hr
              clear hr
              go_wp2_with fail
              go_quiet (fail)
              go_wp2_with fail
              go_quiet (fail)
              go_wp2_with fail
              go_roundg (gk - 1)
              case measure => omega
              case rel => exact ⟨k + 1, by omega, by go_num, by rw [← Hh.out Hr.out]; exact blk_set (blk_drewN hb _) _ _, (hK.drewN _).setCell (p := ⟨w.heap.size, _, none⟩) _ (.inr (Nat.le_refl _)), Hst.out (by omega)⟩
            · have er : ((D.c[k].2.1 : Int) == (n : Int)) = false := beq_eq_false_iff_ne.2 (by omega)
              have Hr : Hid (¬ D.c[k].2.1 = n) := hr
              clear hr
              go_wp2_with fail
              go_quiet (fail)
              go_wp2_with fail
              go_quiet (fail)
              go_wp2_with fail
              go_roundg (gk - 1)
              case measure => omega
              case rel => exact ⟨k + 1, by omega, by go_num, by rw [Hm.out Hr.out]; exact hb, (by first | exact hK | exact hK.drewN _ | exact (hK.drewN _).drewN _), Hst.out (by omega)⟩
    · obtain rfl : k = D.c.length := by omega
      have hFine : Fine (fun f => (D.s f).length) D.c := fun j hj => hOk.out j hj hj
      have c0 : wr.cell? ⟨w.heap.size, 0, none⟩ = some (.int .i64 (cnt 0 (D.s 0).length D.c)) := by
        rw [blk_cell hb, cntc, List.take_of_length_le (Nat.le_refl _)]
        rfl
      have c1 : wr.cell? ⟨w.heap.size, 1, none⟩ = some (.int .i64 (cnt 1 (D.s 1).length D.c)) := by
        rw [blk_cell hb, cntc, List.take_of_length_le (Nat.le_refl _)]
        rfl
      have y3 : wr.cell? ⟨b, 3, none⟩ = some (.int .u16 (D.z 0)) := hIr.cSize 0 (by omega)
      have y4 : wr.cell? ⟨b, 4, none⟩ = some (.int .u16 (D.z 1)) := hIr.cSize 1 (by omega)
      have y5 := hIr.cAt
      have y6 := hIr.cCalls
      have hzb0 : (D.z 0 : Int) < 65536 := by have := hI.ok.z 0 (by omega); omega
      have hzb1 : (D.z 1 : Int) < 65536 := by have := hI.ok.z 1 (by omega); omega
      have Hmk : Hid (D.z 0 = cnt 0 (D.s 0).length D.c → D.z 1 = cnt 1 (D.s 1).length D.c → ((D.at_ ≤ 0 ∧ D.calls = 0) ∨ (0 ≤ D.calls ∧ D.calls ≤ D.at_)) → Chk D) := fun a c d => ⟨h0, h1, h2, hFine, a, c, d⟩
      have Hz0 : Hid (Chk D → D.z 0 = cnt 0 (D.s 0).length D.c) := fun h => h.z0
      have Hz1 : Hid (Chk D → D.z 1 = cnt 1 (D.s 1).length D.c) := fun h => h.z1
      have Hcal : Hid (Chk D → (D.at_ ≤ 0 ∧ D.calls = 0) ∨ (0 ≤ D.calls ∧ D.calls ≤ D.at_)) := fun h => h.cal
      clear hFine hOk hb q0 q1 q2 hkq
      generalize cnt 0 (D.s 0).length D.c = n0 at *
      generalize cnt 1 (D.s 1).length D.c = n1 at *
      by_cases g0 : D.z 0 = n0
      · have x0 : ((D.z 0 : Int) == (n0 : Int)) = true := beq_iff_eq.2 (by omega)
        have x0n : ((D.z 0 : Int) != (n0 : Int)) = false := by rw [bne, x0]; rfl
        have G0 : Hid (D.z 0 = n0) := g0
        clear g0
        by_cases g1 : D.z 1 = n1
        · have x1 : ((D.z 1 : Int) == (n1 : Int)) = true := beq_iff_eq.2 (by omega)
          have x1n : ((D.z 1 : Int) != (n1 : Int)) = false := by rw [bne, x1]; rfl
          have G1 : Hid (D.z 1 = n1) := g1
          clear g1
          by_cases ga : D.at_ ≤ 0
          · have xa : decide (D.at_ ≤ 0) = true := decide_eq_true ga
            by_cases gc : D.calls = 0
            · have xc : (D.calls == 0) = true := beq_iff_eq.2 gc
              have Ga : Hid (D.at_ ≤ 0 ∧ D.calls = 0) := ⟨ga, gc⟩
              clear gc
              go_wp2_with fail
              go_quiet (fail)
              go_wp2_with fail
              go_quiet (fail)
              go_wp2_with fail
              go_ret
              exact ⟨_, rfl, yes_chk (Hmk.out G0.out G1.out (.inl Ga.out)), (by first | exact hK | exact hK.drewN _ | exact (hK.drewN _).drewN _)⟩
            · have xc : (D.calls == 0) = false := beq_eq_false_iff_ne.2 gc
              have Ga : Hid (¬ ((D.at_ ≤ 0 ∧ D.calls = 0) ∨ (0 ≤ D.calls ∧ D.calls ≤ D.at_))) := fun h => by omega
              by_cases gd : 0 ≤ D.calls
              · have xd : decide (0 ≤ D.calls) = true := decide_eq_true gd
                have xe : decide (D.calls ≤ D.at_) = false := decide_eq_false (by omega)
                have xe2 : ¬ D.calls ≤ D.at_ := by omega
                clear gc
                go_wp2_with fail
                go_quiet (fail)
                go_wp2_with fail
                go_quiet (fail)
                go_wp2_with fail
                go_ret
                exact ⟨_, rfl, no_chk (fun h => Ga.out (Hcal.out h)), (by first | exact hK | exact hK.drewN _ | exact (hK.drewN _).drewN _)⟩
              · have xd : decide (0 ≤ D.calls) = false := decide_eq_false gd
                clear gc
                go_wp2_with fail
                go_quiet (fail)
                go_wp2_with fail
                go_quiet (fail)
                go_wp2_with fail
                go_ret
                exact ⟨_, rfl, no_chk (fun h => Ga.out (Hcal.out h)), (by first | exact hK | exact hK.drewN _ | exact (hK.drewN _).drewN _)⟩
          · have xa : decide (D.at_ ≤ 0) = false := decide_eq_false ga
            by_cases gd : 0 ≤ D.calls
            · have xd : decide (0 ≤ D.calls) = true := decide_eq_true gd
              by_cases ge : D.calls ≤ D.at_
              · have xe : decide (D.calls ≤ D.at_) = true := decide_eq_true ge
                have Ga : Hid (0 ≤ D.calls ∧ D.calls ≤ D.at_) := ⟨gd, ge⟩
                go_wp2_with fail
                go_quiet (fail)
                go_wp2_with fail
                go_quiet (fail)
                go_wp2_with fail
                go_ret
                exact ⟨_, rfl, yes_chk (Hmk.out G0.out G1.out (.inr Ga.out)), (by first | exact hK | exact hK.drewN _ | exact (hK.drewN _).drewN _)⟩
              · have xe : decide (D.calls ≤ D.at_) = false := decide_eq_false ge
                have Ga : Hid (¬ ((D.at_ ≤ 0 ∧ D.calls = 0) ∨ (0 ≤ D.calls ∧ D.calls ≤ D.at_))) := fun h => by omega
                go_wp2_with fail
                go_quiet (fail)
                go_wp2_with fail
                go_quiet (fail)
                go_wp2_with fail
                go_ret
                exact ⟨_, rfl, no_chk (fun h => Ga.out (Hcal.out h)), (by first | exact hK | exact hK.drewN _ | exact (hK.drewN _).drewN _)⟩
            · have xd : decide (0 ≤ D.calls) = false := decide_eq_false gd
              have Ga : Hid (¬ ((D.at_ ≤ 0 ∧ D.calls = 0) ∨ (0 ≤ D.calls ∧ D.calls ≤ D.at_))) := fun h => by omega
              go_wp2_with fail
              go_quiet (fail)
              go_wp2_with fail
              go_quiet (fail)
              go_wp2_with fail
              go_ret
              exact ⟨_, rfl, no_chk (fun h => Ga.out (Hcal.out h)), (by first | exact hK | exact hK.drewN _ | exact (hK.drewN _).drewN _)⟩
        · have x1 : ((D.z 1 : Int) == (n1 : Int)) = false := beq_eq_false_iff_ne.2 (by omega)
          have x1n : ((D.z 1 : Int) != (n1 : Int)) = true := by rw [bne, x1]; rfl
          have G1 : Hid (¬ D.z 1 = n1) := g1
          clear g1
          go_wp2_with fail
          go_quiet (fail)
          go_wp2_with fail
          go_ret
          exact ⟨_, rfl, no_chk (fun h => G1.out (Hz1.out h)), (by first | exact hK | exact hK.drewN _ | exact (hK.drewN _).drewN _)⟩
      · have x0 : ((D.z 0 : Int) == (n0 : Int)) = false := beq_eq_false_iff_ne.2 (by omega)
        have x0n : ((D.z 0 : Int) != (n0 : Int)) = true := by rw [bne, x0]; rfl
        have G0 : Hid (¬ D.z 0 = n0) := g0
        clear g0
        go_wp2_with fail
        go_quiet (fail)
        go_wp2_with fail
        go_ret
        exact ⟨_, rfl, no_chk (fun h => G0.out (Hz0.out h)), (by first | exact hK | exact hK.drewN _ | exact (hK.drewN _).drewN _)⟩
theorem check_any (h : DiskAt w F b D) : Calls Yacd.prog 24 #[.pointer (some ⟨b, 0, none⟩)] w fun e w' => ∃ B, e = .returned (.bool B) ∧ (B = true ↔ Chk D) ∧ Keep Non w w' := by
  obtain ⟨v, vc, hI⟩ := h
  by_cases hno : 1024 < (D.s 0).length ∨ 1024 < (D.s 1).length ∨ 2048 < D.c.length
  · refine (check_long hI hno).mono ?_
    rintro e w' ⟨rfl, rfl⟩
    exact ⟨false, rfl, no_chk (fun h => by have := h.s0; have := h.s1; have := h.cl; omega), Keep.refl _ _⟩
  · exact check_go hI (by omega) (by omega) (by omega)
end
end Go.Proofs.Ygdacg
