/-
  (*Disk).Read.
-/
import Derived.Test.YgdacgDisk
namespace Go.Proofs.Ygdacg
open Go.RowKit
set_option linter.unusedVariables false
set_option linter.unusedSimpArgs false
attribute [local simp] zero61

def hitC (f pg : Nat) (e : Nat × Nat × List Value) : Bool := e.1 == f && e.2.1 == pg
/-- What Read answers. -/
def readD (D : DS) (f pg : Nat) : List Value × Bool :=
  if dead D || decide (1 < f) || decide (D.z f ≤ pg) then (zpg, false)
  else match D.c.reverse.find? (hitC f pg) with
    | some e => (e.2.2, true)
    | none => (((D.s f)[pg]?).getD zpg, true)

theorem find_none_of {α : Type} (p : α → Bool) : ∀ (l : List α), (∀ j (h : j < l.length), p l[j] = false) → l.reverse.find? p = none := by
  intro l h
  rw [List.find?_eq_none]
  intro x hx
  obtain ⟨j, hj, rfl⟩ := List.getElem_of_mem (List.mem_reverse.1 hx)
  simp [h j hj]
theorem find_last_of {α : Type} (p : α → Bool) (l : List α) (k : Nat) (hk : k < l.length) (hp : p l[k] = true) (h : ∀ j (hj : j < l.length), k < j → p l[j] = false) : l.reverse.find? p = some l[k] := by
  have e : l = l.take k ++ l[k] :: l.drop (k + 1) := by rw [List.getElem_cons_drop, List.take_append_drop]
  generalize hx : l[k] = x at *
  rw [e, List.reverse_append, List.reverse_cons, List.find?_append, List.find?_append]
  have e2 : (l.drop (k + 1)).reverse.find? p = none := by
    refine find_none_of p _ fun j hj => ?_
    rw [List.getElem_drop]
    exact h _ _ (by omega)
  rw [e2]
  simp [hp]

section
variable {w : World} {F : Nat → Prop} {b : Nat} {D : DS}
theorem read_end {a : Act} {n : Nat} {p : List Value} {ok : Bool} {R : Ending → World → Prop} (hp : IsPg p) (ha : a.tmps.getD 6 undef = .pointer (some ⟨w.heap.size, 0, none⟩)) (hu : a.tmps.getD 7 undef = .bool ok) (hd : a.defers = [])
    (hR : R (.returned (.tuple #[.agg p.toArray, .bool ok])) ((((w.alloc (.cells zpg.toArray 61)).drewN n)).setCells w.heap.size 0 p)) :
    bodyPost Yacd.prog Yacd.f25 R .ret a ((((w.alloc (.cells zpg.toArray 61)).drewN n)).setCells w.heap.size 0 p) := by
  have hb : World.blk ((w.alloc (.cells zpg.toArray 61)).drewN n) w.heap.size 61 zpg := blk_drewN (blk_new _ _ _) n
  refine bodyPost_ret (results61b rfl ha hp.len (blk_range (blk_sets_whole hb p (by rw [hp.len, zpg_is.len])))) hd ?_
  rw [hu]
  exact hR
theorem read_keep (n : Nat) (p : List Value) : Keep Non w ((((w.alloc (.cells zpg.toArray 61)).drewN n)).setCells w.heap.size 0 p) := (((Keep.refl _ _).alloc _).drewN n).setCells _ _ _ (.inr (Nat.le_refl _))
theorem read_there (n : Nat) : ((w.alloc (.cells zpg.toArray 61)).drewN n).there w.heap.size 0 128 := blk_there (blk_drewN (blk_new _ _ _) n) _ (by simp [zpg])

set_option maxRecDepth 100000 in
set_option maxHeartbeats 1000000 in
theorem read_no (h : DiskAt w F b D) (f pg : Nat) (hno : dead D = true ∨ 1 < f ∨ D.z f ≤ pg) :
    Calls Yacd.prog 25 #[.pointer (some ⟨b, 0, none⟩), .int .u8 f, .int .u16 pg] w fun e w' => e = .returned (.tuple #[.agg zpg.toArray, .bool false]) ∧ Keep Non w w' := by
  have hA : DiskAt (w.alloc (.cells zpg.toArray 61)) F b D := h.keep ((Keep.refl Non w).alloc _) (fun _ _ h => h)
  cases hd : dead D with
  | true =>
    go_enter Yacd.func25, Yacd.ntmps25
    go_wp2_with (first | (go_at_call 29; refine (dead_any hA).mono ?_; rw [hd]; rintro e w' ⟨rfl, n, rfl⟩) | (refine wl_build61 rfl rfl ?_) | (refine wl_store61 rfl _ _ rfl _ _ zpg rfl rfl zpg_is.len zpg_is.one (read_there _) ?_))
    exact read_end (w := w) zpg_is rfl rfl rfl ⟨rfl, read_keep _ _⟩
  | false =>
    by_cases hf : 1 < f
    · have hf' : (1 : Int) < (f : Int) := by omega
      go_enter Yacd.func25, Yacd.ntmps25
      go_wp2_with (first | (go_at_call 29; refine (dead_any hA).mono ?_; rw [hd]; rintro e w' ⟨rfl, n, rfl⟩) | (refine wl_build61 rfl rfl ?_) | (refine wl_store61 rfl _ _ rfl _ _ zpg rfl rfl zpg_is.len zpg_is.one (read_there _) ?_))
      exact read_end (w := w) zpg_is rfl rfl rfl ⟨rfl, read_keep _ _⟩
    · have hz : D.z f ≤ pg := by
        rcases hno with h0 | h0 | h0
        · rw [hd] at h0; cases h0
        · exact absurd h0 hf
        · exact h0
      have hz' : (D.z f : Int) ≤ (pg : Int) := by omega
      have hf' : (f : Int) ≤ 1 := by omega
      have hd1 : decide ((1 : Int) < (f : Int)) = false := decide_eq_false (by omega)
      obtain ⟨v, vc, h⟩ := h
      have hc := h.cSize f (by omega)
      have hb := blk_lt h.blk
      clear hno hf h
      go_enter Yacd.func25, Yacd.ntmps25
      go_wp2_with (first | (go_at_call 29; refine (dead_any hA).mono ?_; rw [hd]; rintro e w' ⟨rfl, n, rfl⟩) | (refine wl_build61 rfl rfl ?_) | (refine wl_store61 rfl _ _ rfl _ _ zpg rfl rfl zpg_is.len zpg_is.one (read_there _) ?_))
      exact read_end (w := w) zpg_is rfl rfl rfl ⟨rfl, read_keep _ _⟩

set_option maxRecDepth 100000 in
set_option maxHeartbeats 1000000 in
theorem read_yes (h : DiskAt w F b D) (f pg : Nat) (hd : dead D = false) (hf : f < 2) (hz : pg < D.z f) (hz1 : D.z f ≤ 1024) :
    Calls Yacd.prog 25 #[.pointer (some ⟨b, 0, none⟩), .int .u8 f, .int .u16 pg] w fun e w' => e = .returned (.tuple #[.agg (readD D f pg).1.toArray, .bool (readD D f pg).2]) ∧ Keep Non w w' := by
  have hA : DiskAt (w.alloc (.cells zpg.toArray 61)) F b D := h.keep ((Keep.refl Non w).alloc _) (fun _ _ h => h)
  have hz' : (pg : Int) < (D.z f : Int) := by omega
  have hf' : (f : Int) ≤ 1 := by omega
  have hd1 : decide ((1 : Int) < (f : Int)) = false := decide_eq_false (by omega)
  have hd2 : decide ((D.z f : Int) ≤ (pg : Int)) = false := decide_eq_false (by omega)
  obtain ⟨v, vc, h⟩ := h
  have hc := h.cSize f hf
  have hb := blk_lt h.blk
  have hcc := h.cCache
  obtain ⟨ao, cap, hvc, hle, hmx⟩ := owns_slice h.rc
  subst hvc
  unfold maxLen at hmx
  have hpg' : (pg : Int) < 1024 := by omega
  go_enter Yacd.func25, Yacd.ntmps25
  go_wp2_with (first | (go_at_call 29; refine (dead_any hA).mono ?_; rw [hd]; rintro e w' ⟨rfl, n, rfl⟩))
  go_loopg [8] D.c.length (fun k i wr => ∃ i0 : Int, i = .int .i64 i0 ∧ i0 + 1 = k ∧ k ≤ D.c.length ∧ (∃ nd, wr = (w.alloc (.cells zpg.toArray 61)).drewN nd) ∧ ∀ j (hj : j < D.c.length), k ≤ j → hitC f pg D.c[j] = false)
  case atStart => exact ⟨_, rfl, by omega, Nat.le_refl _, ⟨n, rfl⟩, fun j hj hk => absurd hj (by omega)⟩
  case round =>
    obtain ⟨i0, rfl, hi0, hk, ⟨nd, rfl⟩, hmiss⟩ := hrel
    cases gk with
    | zero =>
      obtain rfl : i0 = -1 := by omega
      have efind := find_none_of (hitC f pg) D.c (fun j hj => hmiss j hj (Nat.zero_le _))
      have e : readD D f pg = (((D.s f)[pg]?).getD zpg, true) := by simp [readD, hd, efind, show ¬ 1 < f by omega, show ¬ D.z f ≤ pg by omega]
      have HE : Hid (readD D f pg = (((D.s f)[pg]?).getD zpg, true)) := e
      have hcs := h.cStable f hf
      obtain ⟨so, scap, hvs, hsle, hsmx⟩ := owns_slice (h.rs f hf)
      clear e efind hmiss
      by_cases hin : pg < (D.s f).length
      · obtain ⟨g, cap', hv, -, -, hrange⟩ := owns_elem (h.rs f hf) (fun q hq => (h.ok.ps f hf q hq).len) pg hin
        rw [hv] at hcs
        have hgl : g < w.heap.size := by
          have hp := (h.ok.ps f hf _ (List.getElem_mem hin)).len
          have := hrange 0 ((D.s f)[pg][0]'(by omega)) (by simp)
          exact World.block_lt_of_cell? w _ this
        have hp := h.ok.ps f hf _ (List.getElem_mem hin)
        have hin' : (pg : Int) < ((D.s f).length : Int) := by omega
        generalize hpq : (D.s f)[pg] = p at *
        have Hpq : Hid ((D.s f)[pg] = p) := hpq
        have hrange' : ((w.alloc (.cells zpg.toArray 61)).drewN nd).rangeAt g (pg * 128) p := fun j u hu => by
          have := hrange j u hu
          simp only [World.cell?_drewN]
          rw [World.cell?_alloc_lt _ _ _ (by exact hgl)]
          exact this
        clear hpq hrange hv hvs h
        go_wp2_with (first | (refine wl_load61 rfl _ rfl _ _ rfl p hp.len hrange' ?_) | (refine wl_store61 rfl _ _ rfl _ _ p rfl rfl hp.len hp.one (read_there _) ?_))
        refine read_end (w := w) hp rfl rfl rfl ⟨?_, read_keep _ _⟩
        have e2 : readD D f pg = (p, true) := by rw [HE.out, ← Hpq.out]; simp [hin]
        rw [e2]
      · have hin' : ¬ (pg : Int) < ((D.s f).length : Int) := by omega
        rw [hvs] at hcs
        clear hvs h
        go_wp2_with (first | (refine wl_build61 rfl rfl ?_) | (refine wl_store61 rfl _ _ rfl _ _ zpg rfl rfl zpg_is.len zpg_is.one (read_there _) ?_))
        refine read_end (w := w) zpg_is rfl rfl rfl ⟨?_, read_keep _ _⟩
        have e2 : readD D f pg = (zpg, true) := by rw [HE.out]; simp [hin]
        rw [e2]
    | succ j =>
      obtain rfl : i0 = (j : Int) := by omega
      have hjl : j < D.c.length := by omega
      have hjl' : (j : Int) < (D.c.length : Int) := by omega
      obtain ⟨g, cap', hv, -, -, hrange⟩ := owns_elem (ls := D.c.map cwc) (by simpa using h.rc) (fun q hq => by obtain ⟨e, he, rfl⟩ := List.mem_map.1 hq; exact cwc_len (h.ok.pc e he).1) j (by simpa using hjl)
      simp only [Value.slice.injEq, List.length_map, true_and] at hv
      obtain ⟨rfl, rfl⟩ := hv
      simp only [List.getElem_map] at hrange
      have hp := (h.ok.pc _ (List.getElem_mem hjl)).1
      have c0 := hrange 0 _ rfl
      have c1 := hrange 1 _ rfl
      have hgl : g < w.heap.size := World.block_lt_of_cell? w _ c0
      simp only [Nat.add_zero] at c0
      have hmj : (hitC f pg D.c[j] = false) → ∀ i (hi : i < D.c.length), j ≤ i → hitC f pg D.c[i] = false := fun h0 i hi hji => by
        by_cases hij : i = j
        · subst hij
          exact h0
        · exact hmiss i hi (by omega)
      have hhit : hitC f pg D.c[j] = true → readD D f pg = (D.c[j].2.2, true) := fun h0 => by
        have := find_last_of (hitC f pg) D.c j hjl h0 (fun i hi hji => hmiss i hi (by omega))
        simp [readD, hd, this, show ¬ 1 < f by omega, show ¬ D.z f ≤ pg by omega]
      generalize D.c[j] = E at *
      obtain ⟨ef, ep, ev⟩ := E
      simp only [hitC] at hmj hhit hp c0 c1
      have hrange' : ((w.alloc (.cells zpg.toArray 61)).drewN nd).rangeAt g (j * 130 + 2) ev := fun i u hu => by
        have := hrange (i + 2) u hu
        simp only [World.cell?_drewN]
        rw [World.cell?_alloc_lt _ _ _ (by exact hgl), show j * 130 + 2 + i = j * 130 + (i + 2) by omega]
        exact this
      have Hmj : Hid ((ef == f && ep == pg) = false → ∀ i (hi : i < D.c.length), j ≤ i → hitC f pg D.c[i] = false) := hmj
      have Hhit : Hid ((ef == f && ep == pg) = true → readD D f pg = (ev, true)) := hhit
      clear hmj hhit hmiss hrange h hA hd1 hd2
      by_cases hf1 : ef = f
      · subst hf1
        by_cases hp1 : ep = pg
        · subst hp1
          go_wp2_with (first | (refine wl_load61 rfl _ rfl _ _ rfl ev hp.len hrange' ?_) | (refine wl_store61 rfl _ _ rfl _ _ ev rfl rfl hp.len hp.one (read_there _) ?_))
          refine read_end (w := w) hp rfl rfl rfl ⟨?_, read_keep _ _⟩
          rw [Hhit.out (by simp)]
        · have hb1 : ((ep : Int) == (pg : Int)) = false := beq_eq_false_iff_ne.2 (by omega)
          go_wp2_with fail
          go_roundg j
          case measure => omega
          case rel => exact ⟨_, rfl, by omega, by omega, ⟨_, rfl⟩, Hmj.out (by simp [hp1])⟩
      · have hb1 : ((ef : Int) == (f : Int)) = false := beq_eq_false_iff_ne.2 (by omega)
        go_wp2_with fail
        go_roundg j
        case measure => omega
        case rel => exact ⟨_, rfl, by omega, by omega, ⟨_, rfl⟩, Hmj.out (by simp [hf1])⟩

theorem read_any (h : DiskAt w F b D) (f pg : Nat) (hz1 : ∀ f, f < 2 → D.z f ≤ 1024) :
    Calls Yacd.prog 25 #[.pointer (some ⟨b, 0, none⟩), .int .u8 f, .int .u16 pg] w fun e w' => e = .returned (.tuple #[.agg (readD D f pg).1.toArray, .bool (readD D f pg).2]) ∧ Keep Non w w' := by
  by_cases hno : dead D = true ∨ 1 < f ∨ D.z f ≤ pg
  · have e : readD D f pg = (zpg, false) := by
      unfold readD
      rw [if_pos (by rcases hno with h0 | h0 | h0 <;> simp [h0])]
    rw [e]
    exact read_no h f pg hno
  · have h1 : dead D = false := by
      cases hd : dead D with
      | false => rfl
      | true => exact absurd (.inl hd) hno
    exact read_yes h f pg h1 (by omega) (by omega) (hz1 f (by omega))
end
end Go.Proofs.Ygdacg
