/-
  A DISK IN MEMORY; Dead, tick, Size.
-/
import Derived.Test.YgdacgBlocks
namespace Go.Proofs.Ygdacg
open Go.RowKit
set_option linter.unusedVariables false
set_option linter.unusedSimpArgs false

/-- A disk's content: the stable pages of each file, the cached writes (file, page's number, page), the sizes, the death, the count. -/
structure DS where
  s : Nat → List (List Value)
  c : List (Nat × Nat × List Value)
  z : Nat → Nat
  at_ : Int
  calls : Int
structure DOK (D : DS) : Prop where
  ps : ∀ f, f < 2 → ∀ p ∈ D.s f, IsPg p
  pc : ∀ e ∈ D.c, IsPg e.2.2 ∧ e.1 < 256 ∧ e.2.1 < 65536
  z : ∀ f, f < 2 → D.z f < 65536
  at1 : D.at_ ≤ 9223372036854775807
  at0 : -9223372036854775808 ≤ D.at_
  calls1 : D.calls ≤ 9223372036854775807
  calls0 : -9223372036854775808 ≤ D.calls
/-- It lies in the blocks of F: the struct in block b; v 0, v 1, vc: the three slices' values. -/
structure DiskIs (w : World) (F : Nat → Prop) (b : Nat) (v : Nat → Value) (vc : Value) (D : DS) : Prop where
  ok : DOK D
  fp : ∀ k, F k → k < w.heap.size
  fb : F b
  blk : World.blk w b 39 [v 0, v 1, vc, .int .u16 (D.z 0), .int .u16 (D.z 1), .int .i64 D.at_, .int .i64 D.calls]
  rs : ∀ f, f < 2 → w.ownsRow 0 61 128 (v f) (D.s f).length (D.s f).flatten
  rc : w.ownsRow 0 76 130 vc D.c.length (D.c.map cwc).flatten
  fs : ∀ f k, f < 2 → (v f).ownBlock = some k → F k ∧ k ≠ b
  fc : ∀ k, vc.ownBlock = some k → F k ∧ k ≠ b
  a01 : ∀ k, (v 0).ownBlock = some k → (v 1).ownBlock ≠ some k
  asc : ∀ f k, f < 2 → (v f).ownBlock = some k → vc.ownBlock ≠ some k
def DiskAt (w : World) (F : Nat → Prop) (b : Nat) (D : DS) : Prop := ∃ v vc, DiskIs w F b v vc D

section
variable {w w' : World} {F G : Nat → Prop} {b : Nat} {v : Nat → Value} {vc : Value} {D : DS}
theorem DiskIs.keep (h : DiskIs w F b v vc D) (hk : Keep G w w') (hd : ∀ k, F k → ¬ G k) : DiskIs w' F b v vc D :=
  ⟨h.ok, fun k hF => Nat.lt_of_lt_of_le (h.fp k hF) hk.size, h.fb, blk_keep h.blk hk (hd b h.fb), fun f hf => hk.owns (h.rs f hf) (fun k hv => hd k (h.fs f k hf hv).1), hk.owns h.rc (fun k hv => hd k (h.fc k hv).1), h.fs, h.fc, h.a01, h.asc⟩
theorem DiskAt.keep (h : DiskAt w F b D) (hk : Keep G w w') (hd : ∀ k, F k → ¬ G k) : DiskAt w' F b D :=
  let ⟨v, vc, h⟩ := h
  ⟨v, vc, h.keep hk hd⟩
theorem DiskIs.drewN (h : DiskIs w F b v vc D) (n : Nat) : DiskIs (w.drewN n) F b v vc D := h.keep ((Keep.refl Non w).drewN n) (fun _ _ h => h)
theorem DiskAt.drewN (h : DiskAt w F b D) (n : Nat) : DiskAt (w.drewN n) F b D := h.keep ((Keep.refl Non w).drewN n) (fun _ _ h => h)
theorem DiskIs.at_ (h : DiskIs w F b v vc D) : DiskAt w F b D := ⟨v, vc, h⟩
theorem DiskIs.cAt (h : DiskIs w F b v vc D) : w.cell? ⟨b, 5, none⟩ = some (.int .i64 D.at_) := by rw [blk_cell h.blk]; rfl
theorem DiskIs.cCalls (h : DiskIs w F b v vc D) : w.cell? ⟨b, 6, none⟩ = some (.int .i64 D.calls) := by rw [blk_cell h.blk]; rfl
theorem DiskIs.cCache (h : DiskIs w F b v vc D) : w.cell? ⟨b, 2, none⟩ = some vc := by rw [blk_cell h.blk]; rfl
theorem DiskIs.cStable (h : DiskIs w F b v vc D) (f : Nat) (hf : f < 2) : w.cell? ⟨b, f, none⟩ = some (v f) := by
  rw [blk_cell h.blk]
  match f, hf with
  | 0, _ => rfl
  | 1, _ => rfl
theorem DiskIs.cSize (h : DiskIs w F b v vc D) (f : Nat) (hf : f < 2) : w.cell? ⟨b, 3 + f, none⟩ = some (.int .u16 (D.z f)) := by
  rw [blk_cell h.blk]
  match f, hf with
  | 0, _ => rfl
  | 1, _ => rfl
end

/-! ### Dead -/
def dead (D : DS) : Bool := decide (0 < D.at_) && (D.calls == D.at_)

set_option maxHeartbeats 400000 in
theorem dead_cells (b : Nat) (at_ calls : Int) (w : World) (h5 : w.cell? ⟨b, 5, none⟩ = some (.int .i64 at_)) (h6 : w.cell? ⟨b, 6, none⟩ = some (.int .i64 calls)) :
    Calls Yacd.prog 29 #[.pointer (some ⟨b, 0, none⟩)] w fun e w' => e = .returned (.bool (decide (0 < at_) && (calls == at_))) ∧ ∃ n, w' = w.drewN n := by
  by_cases hd : 0 < at_
  · have e : (decide (0 < at_) && (calls == at_)) = (calls == at_) := by simp [hd]
    rw [e]
    clear e
    go_enter Yacd.func29, Yacd.ntmps29
    go_wp2
    go_quiet (fail)
    go_wp2
    go_ret
    exact ⟨rfl, _, rfl⟩
  · have e : (decide (0 < at_) && (calls == at_)) = false := by simp [hd]
    rw [e]
    clear e
    have hd' : decide (0 < at_) = false := decide_eq_false hd
    go_enter Yacd.func29, Yacd.ntmps29
    go_wp2
    go_quiet (fail)
    go_wp2
    go_ret
    exact ⟨rfl, _, rfl⟩
theorem dead_any {w : World} {F : Nat → Prop} {b : Nat} {D : DS} (h : DiskAt w F b D) :
    Calls Yacd.prog 29 #[.pointer (some ⟨b, 0, none⟩)] w fun e w' => e = .returned (.bool (dead D)) ∧ ∃ n, w' = w.drewN n := by
  obtain ⟨v, vc, h⟩ := h
  exact dead_cells b D.at_ D.calls w h.cAt h.cCalls

/-! ### tick -/
theorem setCell_drewN (w : World) (n : Nat) (a : Addr) (u : Value) : (w.drewN n).setCell a u = (w.setCell a u).drewN n := rfl
set_option maxHeartbeats 400000 in
theorem tick_never (b : Nat) (at_ calls : Int) (w : World) (h5 : w.cell? ⟨b, 5, none⟩ = some (.int .i64 at_)) (hd : at_ ≤ 0) :
    Calls Yacd.prog 30 #[.pointer (some ⟨b, 0, none⟩)] w fun e w' => e = .returned (.bool true) ∧ ∃ n, w' = w.drewN n := by
  go_enter Yacd.func30, Yacd.ntmps30
  go_wp2
  go_quiet (fail)
  go_wp2
  go_ret
  exact ⟨rfl, _, rfl⟩
set_option maxHeartbeats 400000 in
theorem tick_live (b : Nat) (at_ calls : Int) (w : World) (h5 : w.cell? ⟨b, 5, none⟩ = some (.int .i64 at_)) (h6 : w.cell? ⟨b, 6, none⟩ = some (.int .i64 calls)) (hf : w.frozen? ⟨b, 6, none⟩ = false)
    (h0 : 0 ≤ calls) (hd : calls < at_) (hm : at_ ≤ 9223372036854775807) :
    Calls Yacd.prog 30 #[.pointer (some ⟨b, 0, none⟩)] w fun e w' => e = .returned (.bool (calls + 1 != at_)) ∧ ∃ n, w' = (w.setCell ⟨b, 6, none⟩ (.int .i64 (calls + 1))).drewN n := by
  have hd1 : decide (at_ ≤ 0) = false := decide_eq_false (by omega)
  have hd2 : decide (at_ ≤ calls) = false := decide_eq_false (by omega)
  go_enter Yacd.func30, Yacd.ntmps30
  go_wp2
  go_quiet (fail)
  go_wp2
  go_quiet (fail)
  go_wp2
  go_ret
  exact ⟨rfl, _, by rw [setCell_drewN, World.drewN_drewN]⟩

def ticked (D : DS) : DS := if D.at_ ≤ 0 then D else { D with calls := D.calls + 1 }
def tickB (D : DS) : Bool := decide (D.at_ ≤ 0) || (D.calls + 1 != D.at_)
section
variable {w w' : World} {F G : Nat → Prop} {b : Nat} {v : Nat → Value} {vc : Value} {D D' : DS}
/-- The struct alone has turned. -/
theorem DiskIs.reblk (h : DiskIs w F b v vc D) (hk : Keep (fun k => k = b) w w') (hok : DOK D') (hs : D'.s = D.s) (hc : D'.c = D.c)
    (hb : World.blk w' b 39 [v 0, v 1, vc, .int .u16 (D'.z 0), .int .u16 (D'.z 1), .int .i64 D'.at_, .int .i64 D'.calls]) : DiskIs w' F b v vc D' :=
  ⟨hok, fun k hF => Nat.lt_of_lt_of_le (h.fp k hF) hk.size, h.fb, hb, fun f hf => by rw [hs]; exact hk.owns (h.rs f hf) (fun k hv => (h.fs f k hf hv).2), by rw [hc]; exact hk.owns h.rc (fun k hv => (h.fc k hv).2), h.fs, h.fc, h.a01, h.asc⟩
theorem tick_any (h : DiskIs w F b v vc D) (hl : D.at_ ≤ 0 ∨ (0 ≤ D.calls ∧ D.calls < D.at_)) :
    Calls Yacd.prog 30 #[.pointer (some ⟨b, 0, none⟩)] w fun e w' => e = .returned (.bool (tickB D)) ∧ DiskIs w' F b v vc (ticked D) ∧ Keep (fun k => k = b) w w' := by
  rcases hl with hl | ⟨h0, hl⟩
  · refine (tick_never b D.at_ D.calls w h.cAt hl).mono ?_
    rintro e w' ⟨rfl, n, rfl⟩
    refine ⟨by simp [tickB, hl], ?_, (Keep.refl _ _).drewN n⟩
    simp only [ticked, hl, if_true]
    exact h.drewN n
  · refine (tick_live b D.at_ D.calls w h.cAt h.cCalls (blk_frozen h.blk 6) h0 hl h.ok.at1).mono ?_
    rintro e w' ⟨rfl, n, rfl⟩
    have hn : ¬ D.at_ ≤ 0 := by omega
    have hk : Keep (fun k => k = b) w ((w.setCell ⟨b, 6, none⟩ (.int .i64 (D.calls + 1))).drewN n) := ((Keep.refl (fun k => k = b) w).setCell (p := ⟨b, 6, none⟩) (.int .i64 (D.calls + 1)) (.inl rfl)).drewN n
    refine ⟨by simp [tickB, hn], ?_, hk⟩
    simp only [ticked, hn, if_false]
    have hok := h.ok
    refine h.reblk hk ⟨hok.ps, hok.pc, hok.z, hok.at1, hok.at0, ?_, ?_⟩ rfl rfl ?_
    · show D.calls + 1 ≤ _
      have := hok.at1
      omega
    · show _ ≤ D.calls + 1
      omega
    · exact blk_drewN (blk_set h.blk 6 _) n
end

/-! ### Size -/
def sizeD (D : DS) (f : Nat) : Nat := if dead D || decide (1 < f) then 0 else D.z f
set_option maxHeartbeats 400000 in
theorem size_any {w : World} {F : Nat → Prop} {b : Nat} {D : DS} (h : DiskAt w F b D) (f : Nat) :
    Calls Yacd.prog 27 #[.pointer (some ⟨b, 0, none⟩), .int .u8 f] w fun e w' => e = .returned (.int .u16 (sizeD D f)) ∧ ∃ n, w' = w.drewN n := by
  cases hd : dead D with
  | true =>
    have e : sizeD D f = 0 := by simp [sizeD, hd]
    rw [e]
    go_enter Yacd.func27, Yacd.ntmps27
    go_wp2_with (go_at_call 29; refine (dead_any h).mono ?_; rw [hd]; rintro e w' ⟨rfl, n, rfl⟩)
    go_ret
    exact ⟨rfl, _, rfl⟩
  | false =>
    by_cases hf : 1 < f
    · have e : sizeD D f = 0 := by simp [sizeD, hf]
      rw [e]
      have hf' : (1 : Int) < (f : Int) := by omega
      go_enter Yacd.func27, Yacd.ntmps27
      go_wp2_with (go_at_call 29; refine (dead_any h).mono ?_; rw [hd]; rintro e w' ⟨rfl, n, rfl⟩)
      go_ret
      exact ⟨rfl, _, rfl⟩
    · have e : sizeD D f = D.z f := by simp [sizeD, hd, hf]
      rw [e]
      have hf' : (f : Int) ≤ 1 := by omega
      obtain ⟨v, vc, h⟩ := h
      have hc := h.cSize f (by omega)
      have hA := h.at_
      clear h e
      go_enter Yacd.func27, Yacd.ntmps27
      go_wp2_with (go_at_call 29; refine (dead_any hA).mono ?_; rw [hd]; rintro e w' ⟨rfl, n, rfl⟩)
      go_ret
      exact ⟨rfl, _, rfl⟩
end Go.Proofs.Ygdacg
