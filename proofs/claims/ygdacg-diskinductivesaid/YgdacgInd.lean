/-
  diskInductive: the loop.
-/
import Derived.Test.YgdacgKeeps
import Derived.Test.YgdacgClone
import Derived.Test.YgdacgCheck
namespace Go.Proofs.Ygdacg
open Go.RowKit
set_option linter.unusedVariables false
set_option linter.unusedSimpArgs false
attribute [local simp] zero61 zero76 zero82

/-- What stands ahead of a round: the disk passes Check. -/
def IRel (w : World) (b : Nat) (wr : World) : Prop := ∃ D F, DiskAt wr F b D ∧ (∀ j, F j → w.heap.size ≤ j) ∧ Chk D ∧ Keep Non w wr
theorem IRel.keep {w : World} {b : Nat} {w1 w2 : World} (h : IRel w b w1) (hk : Keep Non w1 w2) : IRel w b w2 := by
  obtain ⟨D, F, h1, h2, h3, h4⟩ := h
  exact ⟨D, F, h1.keep hk (fun _ _ e => e), h2, h3, h4.trans_same hk⟩
theorem IRel.step {w w1 w2 : World} {F F2 : Nat → Prop} {b : Nat} {D : DS} (hF : ∀ j, F j → w.heap.size ≤ j) (hKw : Keep Non w w1) (hD2 : DiskAt w2 F2 b D) (hF2 : ∀ j, F2 j → F j ∨ w1.heap.size ≤ j) (hk12 : Keep F w1 w2) (hC : Chk D) : IRel w b w2 := by
  have z1 := hKw.size
  refine ⟨D, F2, hD2, fun j hj => ?_, hC, hKw.trans hk12 fun j hj hlt => ?_⟩
  · rcases hF2 j hj with h | h
    · exact hF j h
    · omega
  · have := hF j hj
    omega
theorem Script.back {w w2 : World} {B : Nat} {v : Value} {os : List (Nat × Nat × Nat × Nat)} (h : Script w2 B v os) (hk : Keep Non w w2) (hB : B ≤ w.heap.size) : Script w B v os := by
  obtain ⟨ao, c, h1, h2, h2', h3⟩ := h
  refine ⟨ao, c, h1, h2, h2', fun j hj => ?_⟩
  obtain ⟨b, off, g1, g2, g3, g4, g5, g6⟩ := h3 j hj
  have e : w2.heap[b]? = w.heap[b]? := hk.block b (by omega) (fun e => e)
  have hc : ∀ o, w2.cell? ⟨b, o, none⟩ = w.cell? ⟨b, o, none⟩ := fun o => by simp [World.cell?, e]
  rw [hc] at g3 g4 g5 g6
  exact ⟨b, off, g1, g2, g3, g4, g5, g6⟩
set_option maxRecDepth 100000 in
set_option maxHeartbeats 4000000 in
theorem ind_loop (w : World) (dcells : Array Value) (ov pv : Value) (os : List (Nat × Nat × Nat × Nat)) (ps : List (Int × Int)) (sv : Nat → Value) (cv : Value) (D0 : DS) (hS : Script w w.heap.size ov os) (hP : Plans w w.heap.size pv ps)
    (hpl : ∀ j, (planL ps j).1 ≤ 9223372036854775807 ∧ -9223372036854775808 ≤ (planL ps j).1 ∧ 0 ≤ (planL ps j).2 ∧ (planL ps j).2 ≤ 18446744073709551615)
    (hok : DOK D0) (hs : ∀ f, f < 2 → SrcRow w 128 (sv f) (D0.s f).length (D0.s f).flatten) (hc : SrcRow w 130 cv D0.c.length (D0.c.map cwc).flatten)
    (bs : ∀ f, f < 2 → (D0.s f).length * 128 ≤ 140737488355328) (bc : D0.c.length * 132 ≤ 140737488355328) :
    Calls Yacd.prog 9 #[.func (.func 10) #[] #[], .agg #[sv 0, sv 1, cv, .int .u16 (D0.z 0), .int .u16 (D0.z 1), .int .i64 D0.at_, .int .i64 D0.calls], ov, pv] w fun e w' => e = .returned (.bool true) ∧ Keep Non w w' := by
  have Hpl : Hid (∀ j, (planL ps j).1 ≤ 9223372036854775807 ∧ -9223372036854775808 ≤ (planL ps j).1 ∧ 0 ≤ (planL ps j).2 ∧ (planL ps j).2 ≤ 18446744073709551615) := hpl
  clear hpl
  have hkA : Keep Non w (w.alloc (.cells #[sv 0, sv 1, cv, .int .u16 (D0.z 0), .int .u16 (D0.z 1), .int .i64 D0.at_, .int .i64 D0.calls] 39)) := (Keep.refl Non w).alloc _
  have hcl := clone_any (w := w.alloc (.cells #[sv 0, sv 1, cv, .int .u16 (D0.z 0), .int .u16 (D0.z 1), .int .i64 D0.at_, .int .i64 D0.calls] 39)) (b := w.heap.size) hok (blk_new _ _ [sv 0, sv 1, cv, .int .u16 (D0.z 0), .int .u16 (D0.z 1), .int .i64 D0.at_, .int .i64 D0.calls]) (fun f hf => (hs f hf).keep hkA) (hc.keep hkA) bs bc
  clear hok hs hc bs bc
  go_enter Yacd.func9, Yacd.ntmps9
  go_wp2_with (go_at_call 23; refine hcl.mono ?_; rintro e w1 ⟨nb, F0, rfl, hD1, hF1, hk1⟩)
  clear hcl
  have hkw1 : Keep Non w w1 := hkA.trans_same hk1
  have hck := check_any hD1
  refine hck.mono ?_
  rintro e w2 ⟨B, rfl, hB, hk2⟩
  clear hck
  have hkw2 := hkw1.trans_same hk2
  cases B with
  | false =>
    clear hB
    go_wp2_with fail
    go_ret
    exact ⟨rfl, hkw2⟩
  | true =>
    have hC0 := hB.1 rfl
    clear hB
    have hir0 : IRel w nb w2 := ⟨D0, F0, hD1.keep hk2 (fun _ _ e => e), fun j hj => by have h3 := hF1 j hj; simp at h3; omega, hC0, hkw2⟩
    clear hC0 hD1 hF1 hk1 hk2 hkA hkw1
    have hn64 : (os.take 64).length ≤ 64 := by rw [List.length_take]; omega
    have hcut := cut_any w2 w.heap.size ov os (hS.keep hkw2 (fun _ e => e.elim))
    go_wp2_with (go_at_call 14; refine hcut.mono ?_; rintro e w3 ⟨v, rfl, hS1, hw⟩; have hw' := hw.symm; clear hw; subst hw'; generalize os.take 64 = ol at hS1 hn64; obtain ⟨ao, cp, hv, -⟩ := id hS1; subst hv)
    clear hcut
    have hn64' : (ol.length : Int) ≤ 64 := by omega
    go_loopg [9, 10, 23] ol.length (fun q d r i wr => ∃ k rr b : Nat, k + q = ol.length ∧ i = .int .i64 k ∧ r = .int .i64 rr ∧ rr ≤ k ∧ d = .pointer (some ⟨b, 0, none⟩) ∧ IRel w b wr)
    case atStart => exact ⟨0, 0, nb, by omega, rfl, rfl, by omega, rfl, hir0⟩
    case round =>
      clear hir0
      obtain ⟨k, rr, b, hkq, rfl, rfl, hrr, rfl, hK⟩ := hrel
      by_cases hk : k < ol.length
      · have hk' : (k : Int) < (ol.length : Int) := by omega
        obtain ⟨D, F, hD, hF, hC, hKw⟩ := id hK
        have hS2 : Script w w.heap.size (.slice ao ol.length cp) ol := hS1.back hkw2 (Nat.le_refl _)
        obtain ⟨g, off, cap', hv, hrange⟩ := (hS2.keep hKw (fun _ e => e.elim)).step hk
        simp only [Value.slice.injEq, true_and] at hv
        obtain ⟨rfl, rfl⟩ := hv
        clear hS2
        generalize ol[k] = q at hrange
        go_wp2_with (first | (refine wl_load52 rfl _ rfl _ _ rfl q hrange ?_) | (refine wl_store52_new rfl _ _ rfl wr.heap.size q (0, 0, 0, 0) rfl rfl (blk_new _ _ _) ?_))
        intro w4 hb4 hk4 hs4
        have hKn4 : Keep Non wr w4 := ((Keep.refl _ wr).alloc _).trans hk4 (fun j e hlt => by omega)
        have hK4 := hK.keep hKn4
        have hs4' : w4.heap.size = wr.heap.size + 1 := by rw [hs4]
        clear hrange hk4 hs4 hK
        have c0 : w4.cell? ⟨wr.heap.size, 0, none⟩ = some (.int .u8 q.1) := by rw [blk_cell hb4]; rfl
        have c1 : w4.cell? ⟨wr.heap.size, 1, none⟩ = some (.int .u8 q.2.1) := by rw [blk_cell hb4]; rfl
        have c2 : w4.cell? ⟨wr.heap.size, 2, none⟩ = some (.int .u16 q.2.2.1) := by rw [blk_cell hb4]; rfl
        have c3 : w4.cell? ⟨wr.heap.size, 3, none⟩ = some (.int .u8 q.2.2.2) := by rw [blk_cell hb4]; rfl
        by_cases h0 : q.1 = 0
        · have e0 : ((q.1 : Int) == 0) = true := beq_iff_eq.2 (by omega)
          have hrd := read_any (hD.keep hKn4 (fun _ _ e => e)) q.2.1 q.2.2.1 hC.zle
          clear hC
          go_wp2_with (go_at_call 25; refine hrd.mono ?_; rintro e w5 ⟨rfl, hk5⟩)
          have hKx := hK4.keep hk5
          clear hrd hk5
          obtain ⟨Dt, Ft, hDt, hFt, hCt, hKt⟩ := id hKx
          have hck := check_any hDt
          clear hDt hFt hKt
          go_wp2_with (go_at_call 24; refine hck.mono ?_; rintro e w9 ⟨B, rfl, hB, hk9⟩; obtain rfl := hB.2 hCt)
          clear hB hck hCt
          go_wp2_with fail
          go_roundg (gk - 1)
          case measure => omega
          case rel => exact ⟨k + 1, rr, b, by omega, by go_num, rfl, by omega, rfl, hKx.keep hk9⟩
        · have e0 : ((q.1 : Int) == 0) = false := beq_eq_false_iff_ne.2 (by omega)
          by_cases h1 : q.1 = 1
          · have e1 : ((q.1 : Int) == 1) = true := beq_iff_eq.2 (by omega)
            have hFlt : ∀ j, F j → j < wr.heap.size := by obtain ⟨v, vc, h⟩ := hD; exact h.fp
            have hz4 := hKn4.size
            go_wp2_with (first | (go_at_call 17; refine (fill_any q.2.2.1 q.2.2.2 w4).mono ?_; rintro e w5 ⟨p, hp, rfl, hk5⟩) | (refine wl_store61_new rfl _ _ rfl w5.heap.size p zpg rfl rfl hp.len hp.one (blk_new _ _ _) zpg_is.len ?_))
            intro w6 hb6 hk6 hs6
            have hz5 := hk5.size
            have hK46 : Keep Non w4 w6 := hk5.trans (((Keep.refl (fun k => k = w5.heap.size) w5).alloc _).trans_same hk6) (fun j e hlt => by omega)
            have hKr6 : Keep Non wr w6 := hKn4.trans_same hK46
            have b6 : World.blk w6 wr.heap.size 52 (opc q) := blk_keep hb4 hK46 (fun e => e)
            have s1 : w6.cell? ⟨wr.heap.size, 1, none⟩ = some (.int .u8 q.2.1) := by rw [blk_cell b6]; rfl
            have s2 : w6.cell? ⟨wr.heap.size, 2, none⟩ = some (.int .u16 q.2.2.1) := by rw [blk_cell b6]; rfl
            have hwr := write_any (hD.keep hKr6 (fun _ _ e => e)) hC.lively q.2.1 q.2.2.1 w5.heap.size 0 p hp (blk_range hb6) (fun hf => by have := hFlt _ hf; omega)
            have Hc : Hid (Chk (writeD D q.2.1 q.2.2.1 p).2) := hC.write _ _ _
            clear hk6 hk5 hC c0 c1 c2 c3 b6
            go_wp2_with (go_at_call 10; refine hwr.mono ?_; rintro e w7 ⟨rfl, hD7, hk7⟩)
            have hKx : IRel w b w7 := IRel.step hF (hKw.trans_same hKr6) hD7 (fun j hj => hj.imp id And.left) hk7 Hc.out
            clear hwr Hc hD7 hk7 hKr6 hK46 hF
            obtain ⟨Dt, Ft, hDt, hFt, hCt, hKt⟩ := id hKx
            have hck := check_any hDt
            clear hDt hFt hKt
            go_wp2_with (go_at_call 24; refine hck.mono ?_; rintro e w9 ⟨B, rfl, hB, hk9⟩; obtain rfl := hB.2 hCt)
            clear hB hck hCt
            go_wp2_with fail
            go_roundg (gk - 1)
            case measure => omega
            case rel => exact ⟨k + 1, rr, b, by omega, by go_num, rfl, by omega, rfl, hKx.keep hk9⟩
          · have e1 : ((q.1 : Int) == 1) = false := beq_eq_false_iff_ne.2 (by omega)
            by_cases h2 : q.1 = 2
            · have e2 : ((q.1 : Int) == 2) = true := beq_iff_eq.2 (by omega)
              have hsy := sync_any (hD.keep hKn4 (fun _ _ e => e)) hC.lively q.2.1 (fun e he => (hC.mem e he).2) hC.cl
              have Hc : Hid (Chk (syncD D q.2.1).2) := hC.sync _
              clear hC
              go_wp2_with (go_at_call 26; refine hsy.mono ?_; rintro e w7 ⟨rfl, hD7, hk7⟩)
              have hKx : IRel w b w7 := IRel.step hF (hKw.trans_same hKn4) hD7 (fun j hj => hj.imp id And.left) hk7 Hc.out
              clear hsy Hc hD7 hk7 hF
              obtain ⟨Dt, Ft, hDt, hFt, hCt, hKt⟩ := id hKx
              have hck := check_any hDt
              clear hDt hFt hKt
              go_wp2_with (go_at_call 24; refine hck.mono ?_; rintro e w9 ⟨B, rfl, hB, hk9⟩; obtain rfl := hB.2 hCt)
              clear hB hck hCt
              go_wp2_with fail
              go_roundg (gk - 1)
              case measure => omega
              case rel => exact ⟨k + 1, rr, b, by omega, by go_num, rfl, by omega, rfl, hKx.keep hk9⟩
            · have e2 : ((q.1 : Int) == 2) = false := beq_eq_false_iff_ne.2 (by omega)
              by_cases h3 : q.1 = 3
              · have e3 : ((q.1 : Int) == 3) = true := beq_iff_eq.2 (by omega)
                have hsi := size_any (hD.keep hKn4 (fun _ _ e => e)) q.2.1
                clear hC
                go_wp2_with (go_at_call 27; refine hsi.mono ?_; rintro e w5 ⟨rfl, n5, rfl⟩)
                have hKx := hK4.keep ((Keep.refl Non w4).drewN n5)
                clear hsi
                obtain ⟨Dt, Ft, hDt, hFt, hCt, hKt⟩ := id hKx
                have hck := check_any hDt
                clear hDt hFt hKt
                go_wp2_with (go_at_call 24; refine hck.mono ?_; rintro e w9 ⟨B, rfl, hB, hk9⟩; obtain rfl := hB.2 hCt)
                clear hB hck hCt
                go_wp2_with fail
                go_roundg (gk - 1)
                case measure => omega
                case rel => exact ⟨k + 1, rr, b, by omega, by go_num, rfl, by omega, rfl, hKx.keep hk9⟩
              · have e3 : ((q.1 : Int) == 3) = false := beq_eq_false_iff_ne.2 (by omega)
                by_cases h4 : q.1 = 4
                · have e4 : ((q.1 : Int) == 4) = true := beq_iff_eq.2 (by omega)
                  have hrr' : (rr : Int) ≤ 64 := by omega
                  have hP4 := hP.keep (hKw.trans_same hKn4) (fun _ e => e.elim)
                  have hpa := planAt_any w4 w.heap.size pv ps hP4 (rr : Int) (by omega)
                  have et1 : ((rr : Int)).toNat = rr := by omega
                  have et2 : ((rr : Int) + 1).toNat = rr + 1 := by omega
                  rw [et1] at hpa
                  have HC : Hid (Chk D) := hC
                  clear hC hb4 c1 c2 c3
                  go_wp2_with (with_reducible refine hpa.mono ?_; rintro e w5 ⟨rfl, hk5⟩)
                  clear hpa
                  have hpb := planAt_any w5 w.heap.size pv ps (hP4.keep hk5 (fun _ e => e.elim)) ((rr : Int) + 1) (by omega)
                  rw [et2] at hpb
                  refine hpb.mono ?_
                  rintro e w6 ⟨rfl, hk6⟩
                  clear hpb et1 et2
                  have Hq1 := Hpl.out rr
                  have Hq2 := Hpl.out (rr + 1)
                  generalize planL ps rr = p1 at *
                  generalize planL ps (rr + 1) = p2 at *
                  have hKr6 : Keep Non wr w6 := (hKn4.trans_same hk5).trans_same hk6
                  have hrb := reboot_any (hD.keep hKr6 (fun _ _ e => e)) p1.2 p2.1 Hq2.1 Hq2.2.1 HC.out.cl HC.out.s (fun e he => (HC.out.mem e he).1) (fun e he => (HC.out.mem e he).2)
                  have HR : Hid (Chk (rebooted D p1.2 p2.1) ∧ dead (rebooted D p1.2 p2.1) = false) := HC.out.reboot _ _
                  have hKw6 := hKw.trans_same hKr6
                  clear Hq1 Hq2 hk5 hk6 hP4 HC
                  go_wp2_with (go_at_call 28; refine hrb.mono ?_; rintro e w7 ⟨rfl, hR7⟩)
                  obtain ⟨F7, v7, hI7, hF7, hk7⟩ := hR7
                  have hKx0 : IRel w w6.heap.size w7 := IRel.step hF hKw6 ⟨v7, _, hI7⟩ (fun j hj => .inr (hF7 j hj)) (hk7.of_non F) HR.out.1
                  have hde := dead_any ⟨v7, _, hI7⟩
                  rw [HR.out.2] at hde
                  clear hrb HR hI7 hF7 hk7 hKw6 hKr6 hF
                  go_wp2_with (go_at_call 29; refine hde.mono ?_; rintro e w8 ⟨rfl, n8, rfl⟩)
                  have hKx := hKx0.keep ((Keep.refl Non w7).drewN n8)
                  clear hKx0 hde
                  obtain ⟨Dt, Ft, hDt, hFt, hCt, hKt⟩ := id hKx
                  have hck := check_any hDt
                  clear hDt hFt hKt
                  go_wp2_with (go_at_call 24; refine hck.mono ?_; rintro e w9 ⟨B, rfl, hB, hk9⟩; obtain rfl := hB.2 hCt)
                  clear hB hck hCt
                  go_wp2_with fail
                  go_roundg (gk - 1)
                  case measure => omega
                  case rel => exact ⟨k + 1, rr + 1, w6.heap.size, by omega, by go_num, by go_num, by omega, rfl, hKx.keep hk9⟩
                · have e4 : ((q.1 : Int) == 4) = false := beq_eq_false_iff_ne.2 (by omega)
                  have hKx := hK4
                  clear h0 h1 h2 h3 h4 hC
                  obtain ⟨Dt, Ft, hDt, hFt, hCt, hKt⟩ := id hKx
                  have hck := check_any hDt
                  clear hDt hFt hKt
                  go_wp2_with (go_at_call 24; refine hck.mono ?_; rintro e w9 ⟨B, rfl, hB, hk9⟩; obtain rfl := hB.2 hCt)
                  clear hB hck hCt
                  go_wp2_with fail
                  go_roundg (gk - 1)
                  case measure => omega
                  case rel => exact ⟨k + 1, rr, b, by omega, by go_num, rfl, by omega, rfl, hKx.keep hk9⟩
      · obtain rfl : k = ol.length := by omega
        go_wp2_with fail
        go_ret
        obtain ⟨D, F, h1, h2, h3, h4⟩ := hK
        exact ⟨rfl, h4⟩
end Go.Proofs.Ygdacg
