/-
  (*diskModel).read.
-/
import Derived.Test.YgdacgModel
import Derived.Test.YgdacgRead
namespace Go.Proofs.Ygdacg
open Go.RowKit
set_option linter.unusedVariables false
set_option linter.unusedSimpArgs false
attribute [local simp] zero61 zero82

def hitM (f pg : Nat) (e : Nat × Nat × List Value × Bool) : Bool := e.1 == f && e.2.1 == pg
def readM (M : MS) (f pg : Nat) : List Value × Bool :=
  if M.dead || decide (1 < f) || decide (sizeM M f ≤ pg) then (zpg, false)
  else match M.ws.reverse.find? (hitM f pg) with
    | some e => (e.2.2.1, true)
    | none => (zpg, true)

section
variable {w w' : World} {F G : Nat → Prop} {m : Nat} {vw : Value} {M M' : MS}
theorem readM_end {a : Act} {B : Nat} {p : List Value} {ok : Bool} {R : Ending → World → Prop} (hp : IsPg p) (ha : a.tmps.getD 6 undef = .pointer (some ⟨B, 0, none⟩)) (hu : a.tmps.getD 7 undef = .bool ok) (hd : a.defers = [])
    (hb : World.blk w B 61 p) (hR : R (.returned (.tuple #[.agg p.toArray, .bool ok])) w) : bodyPost Yacd.prog Yacd.f16 R .ret a w := by
  refine bodyPost_ret (results61b rfl ha hp.len (blk_range hb)) hd ?_
  rw [hu]
  exact hR

set_option maxRecDepth 100000 in
set_option maxHeartbeats 600000 in
theorem readM_no (h : ModAt w F m M) (f pg : Nat) (hlen : M.ws.length ≤ 4096) (hno : M.dead = true ∨ 1 < f ∨ sizeM M f ≤ pg) :
    Calls Yacd.prog 16 #[.pointer (some ⟨m, 0, none⟩), .int .u8 f, .int .u16 pg] w fun e w' => e = .returned (.tuple #[.agg zpg.toArray, .bool false]) ∧ Keep Non w w' := by
  have h0 : ModAt (w.alloc (.cells zpg.toArray 61)) F m M := h.keep ((Keep.refl Non w).alloc _) (fun _ _ h => h)
  have hbn : World.blk (w.alloc (.cells zpg.toArray 61)) w.heap.size 61 zpg := blk_new _ _ _
  have hmz : ∀ w1, Keep Non (w.alloc (.cells zpg.toArray 61)) w1 → Keep Non w w1 := fun w1 hk => ((Keep.refl _ _).alloc _).trans_same hk
  obtain ⟨vw, hI⟩ := h
  have hml := blk_lt hI.blk
  cases hd : M.dead with
  | true =>
    have cd := hI.cDead
    rw [hd] at cd
    go_enter Yacd.func16, Yacd.ntmps16
    go_wp2_with (first | (refine wl_build61 rfl rfl ?_) | (refine wl_store61_new rfl _ _ rfl w.heap.size zpg zpg rfl rfl zpg_is.len zpg_is.one hbn zpg_is.len ?_))
    intro w1 hb1 hk1 hs1
    go_wp2_with fail
    exact readM_end zpg_is rfl rfl rfl hb1 ⟨rfl, ((Keep.refl Non w).alloc _).trans hk1 (fun j e hlt => by omega)⟩
  | false =>
    have cd := hI.cDead
    rw [hd] at cd
    by_cases hf : 1 < f
    · have hf' : (1 : Int) < (f : Int) := by omega
      go_enter Yacd.func16, Yacd.ntmps16
      go_wp2_with (first | (refine wl_build61 rfl rfl ?_) | (refine wl_store61_new rfl _ _ rfl w.heap.size zpg zpg rfl rfl zpg_is.len zpg_is.one hbn zpg_is.len ?_))
      intro w1 hb1 hk1 hs1
      go_wp2_with fail
      exact readM_end zpg_is rfl rfl rfl hb1 ⟨rfl, ((Keep.refl Non w).alloc _).trans hk1 (fun j e hlt => by omega)⟩
    · have hz : sizeM M f ≤ pg := by
        rcases hno with h1 | h1 | h1
        · rw [hd] at h1; cases h1
        · exact absurd h1 hf
        · exact h1
      have hz' : (sizeM M f : Int) ≤ (pg : Int) := by omega
      have hf' : (f : Int) ≤ 1 := by omega
      have hd1 : decide ((1 : Int) < (f : Int)) = false := decide_eq_false (by omega)
      go_enter Yacd.func16, Yacd.ntmps16
      go_wp2_with (first | (go_at_call 20; refine (sizeM_any h0 f hlen).mono ?_; rintro e w1 ⟨rfl, hk1⟩; have hb1 := blk_keep hbn hk1 (fun e => e)) | (refine wl_build61 rfl rfl ?_) | (refine wl_store61_new rfl _ _ rfl w.heap.size zpg zpg rfl rfl zpg_is.len zpg_is.one hb1 zpg_is.len ?_))
      intro w2 hb2 hk2 hs2
      go_wp2_with fail
      exact readM_end zpg_is rfl rfl rfl hb2 ⟨rfl, (hmz _ hk1).trans hk2 (fun j e hlt => by omega)⟩

set_option maxRecDepth 100000 in
set_option maxHeartbeats 600000 in
theorem readM_yes (h : ModAt w F m M) (f pg : Nat) (hlen : M.ws.length ≤ 4096) (hd : M.dead = false) (hf : f < 2) (hz : pg < sizeM M f) :
    Calls Yacd.prog 16 #[.pointer (some ⟨m, 0, none⟩), .int .u8 f, .int .u16 pg] w fun e w' => e = .returned (.tuple #[.agg (readM M f pg).1.toArray, .bool (readM M f pg).2]) ∧ Keep Non w w' := by
  have h0 : ModAt (w.alloc (.cells zpg.toArray 61)) F m M := h.keep ((Keep.refl Non w).alloc _) (fun _ _ h => h)
  have hbn : World.blk (w.alloc (.cells zpg.toArray 61)) w.heap.size 61 zpg := blk_new _ _ _
  have hmz : ∀ w1, Keep Non (w.alloc (.cells zpg.toArray 61)) w1 → Keep Non w w1 := fun w1 hk => ((Keep.refl _ _).alloc _).trans_same hk
  obtain ⟨vw, hI⟩ := h
  have hml := blk_lt hI.blk
  have cd := hI.cDead
  rw [hd] at cd
  have hz' : ¬ (sizeM M f : Int) ≤ (pg : Int) := by omega
  have hf' : (f : Int) ≤ 1 := by omega
  have hd1 : decide ((1 : Int) < (f : Int)) = false := decide_eq_false (by omega)
  have hd2 : decide ((sizeM M f : Int) ≤ (pg : Int)) = false := decide_eq_false (by omega)
  have hd3 : decide (sizeM M f ≤ pg) = false := decide_eq_false (by omega)
  obtain ⟨ao, cap, hv, -, -⟩ := owns_slice hI.rw
  subst hv
  have hlen' : (M.ws.length : Int) ≤ 4096 := by omega
  go_enter Yacd.func16, Yacd.ntmps16
  go_wp2_with (first | (go_at_call 20; refine (sizeM_any h0 f hlen).mono ?_; rintro e w1 ⟨rfl, hk1⟩; have hI1 := hI.keep (hmz _ hk1) (fun _ _ e => e); have cw := hI1.cWrites))
  go_loopg [8] M.ws.length (fun k i wr => ∃ i0 : Int, i = .int .i64 i0 ∧ i0 + 1 = k ∧ k ≤ M.ws.length ∧ Keep Non (w.alloc (.cells zpg.toArray 61)) wr ∧ ∀ j (hj : j < M.ws.length), k ≤ j → hitM f pg M.ws[j] = false)
  case atStart => exact ⟨_, rfl, by omega, Nat.le_refl _, hk1, fun j hj hk => absurd hj (by omega)⟩
  case round =>
    clear cw hI1 hk1
    obtain ⟨i0, rfl, hi0, hk, hK, hmiss⟩ := hrel
    have hIr := hI.keep (hmz _ hK) (fun _ _ e => e)
    have cw := hIr.cWrites
    have hbr := blk_keep hbn hK (fun e => e)
    cases gk with
    | zero =>
      obtain rfl : i0 = -1 := by omega
      have efind := find_none_of (hitM f pg) M.ws (fun j hj => hmiss j hj (Nat.zero_le _))
      have HE : Hid (readM M f pg = (zpg, true)) := by simp [Hid, readM, hd, efind, show ¬ 1 < f by omega, show ¬ sizeM M f ≤ pg by omega]
      clear efind hmiss
      go_wp2_with (first | (refine wl_build61 rfl rfl ?_) | (refine wl_store61_new rfl _ _ rfl w.heap.size zpg zpg rfl rfl zpg_is.len zpg_is.one hbr zpg_is.len ?_))
      intro w2 hb2 hk2 hs2
      go_wp2_with fail
      refine readM_end zpg_is rfl rfl rfl hb2 ⟨?_, (hmz _ hK).trans hk2 (fun j e hlt => by omega)⟩
      rw [HE.out]
    | succ j =>
      obtain rfl : i0 = (j : Int) := by omega
      have hjl : j < M.ws.length := by omega
      have hjl' : (j : Int) < (M.ws.length : Int) := by omega
      obtain ⟨g, cap', hv, hrange⟩ := hIr.elem hjl
      simp only [Value.slice.injEq, true_and] at hv
      obtain ⟨rfl, rfl⟩ := hv
      have hE := hI.ok.pc _ (List.getElem_mem hjl)
      have hmj : (hitM f pg M.ws[j] = false) → ∀ i (hi : i < M.ws.length), j ≤ i → hitM f pg M.ws[i] = false := fun h0 i hi hji => by
        by_cases hij : i = j
        · subst hij
          exact h0
        · exact hmiss i hi (by omega)
      have hhit : hitM f pg M.ws[j] = true → readM M f pg = (M.ws[j].2.2.1, true) := fun h0 => by
        have := find_last_of (hitM f pg) M.ws j hjl h0 (fun i hi hji => hmiss i hi (by omega))
        simp [readM, hd, this, show ¬ 1 < f by omega, show ¬ sizeM M f ≤ pg by omega]
      generalize M.ws[j] = E at *
      obtain ⟨ef, ep, ev, es⟩ := E
      simp only [hitM] at hmj hhit hE
      have Hmj : Hid ((ef == f && ep == pg) = false → ∀ i (hi : i < M.ws.length), j ≤ i → hitM f pg M.ws[i] = false) := hmj
      have Hhit : Hid ((ef == f && ep == pg) = true → readM M f pg = (ev, true)) := hhit
      clear hmj hhit hmiss hd1 hd2
      go_wp2_with (first | (refine wl_load82 rfl _ rfl _ _ rfl (mwc (ef, ep, ev, es)) (mwc_len (e := (ef, ep, ev, es)) hE.1) hrange ?_) | (refine wl_store82_new rfl _ _ rfl wr.heap.size (mwc (ef, ep, ev, es)) (mwc (0, 0, zpg, false)) rfl rfl (mwc_len (e := (ef, ep, ev, es)) hE.1) (mwc_one (e := (ef, ep, ev, es)) hE.1) (blk_new _ _ _) mwc_zero_len ?_))
      intro w1 hb1 hk1 hs1
      have c0 : w1.cell? ⟨wr.heap.size, 0, none⟩ = some (.int .u8 ef) := by rw [blk_cell hb1]; rfl
      have c1 : w1.cell? ⟨wr.heap.size, 1, none⟩ = some (.int .u16 ep) := by rw [blk_cell hb1]; rfl
      have hrP : w1.rangeAt wr.heap.size 2 ev := fun i u hu => by
        rw [blk_cell hb1, show 2 + i = i + 2 by omega]
        have hi := (List.getElem?_eq_some_iff.1 hu).1
        simp only [mwc, List.getElem?_cons_succ]
        rw [List.getElem?_append_left hi]
        exact hu
      have hK1 : Keep Non (w.alloc (.cells zpg.toArray 61)) w1 := hK.trans (((Keep.refl _ wr).alloc _).trans_same hk1) (fun j e hlt => by have := hK.size; omega)
      have hb1' := blk_keep hbn hK1 (fun e => e)
      clear hrange hk1 hs1 hb1 hK cw hIr hbr
      by_cases hf1 : ef = f
      · subst hf1
        by_cases hp1 : ep = pg
        · subst hp1
          go_wp2_with (first | (refine wl_load61 rfl _ rfl _ _ rfl ev hE.1.len hrP ?_) | (refine wl_store61_new rfl _ _ rfl w.heap.size ev zpg rfl rfl hE.1.len hE.1.one hb1' zpg_is.len ?_))
          intro w2 hb2 hk2 hs2
          go_wp2_with fail
          refine readM_end hE.1 rfl rfl rfl hb2 ⟨?_, (hmz _ hK1).trans hk2 (fun j e hlt => by omega)⟩
          rw [Hhit.out (by simp)]
        · have hb1 : ((ep : Int) == (pg : Int)) = false := beq_eq_false_iff_ne.2 (by omega)
          go_wp2_with fail
          go_roundg j
          case measure => omega
          case rel => exact ⟨_, rfl, by omega, by omega, hK1, Hmj.out (by simp [hp1])⟩
      · have hb1 : ((ef : Int) == (f : Int)) = false := beq_eq_false_iff_ne.2 (by omega)
        go_wp2_with fail
        go_roundg j
        case measure => omega
        case rel => exact ⟨_, rfl, by omega, by omega, hK1, Hmj.out (by simp [hf1])⟩

theorem readM_any (h : ModAt w F m M) (f pg : Nat) (hlen : M.ws.length ≤ 4096) :
    Calls Yacd.prog 16 #[.pointer (some ⟨m, 0, none⟩), .int .u8 f, .int .u16 pg] w fun e w' => e = .returned (.tuple #[.agg (readM M f pg).1.toArray, .bool (readM M f pg).2]) ∧ Keep Non w w' := by
  by_cases hno : M.dead = true ∨ 1 < f ∨ sizeM M f ≤ pg
  · have e : readM M f pg = (zpg, false) := by
      unfold readM
      rw [if_pos (by rcases hno with h0 | h0 | h0 <;> simp [h0])]
    rw [e]
    exact readM_no h f pg hlen hno
  · have h1 : M.dead = false := by
      cases hd : M.dead with
      | false => rfl
      | true => exact absurd (.inl hd) hno
    exact readM_yes h f pg hlen h1 (by omega) (by omega)
end
end Go.Proofs.Ygdacg
