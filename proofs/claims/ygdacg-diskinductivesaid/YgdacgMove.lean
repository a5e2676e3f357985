/-
  A DISK WHOSE ROWS TURN: what must be shown so that it is a disk again. The plain functions of Sync and Reboot.
-/
import Derived.Test.YgdacgSettle
import Derived.Test.YgdacgWrite2
namespace Go.Proofs.Ygdacg
open Go.RowKit
set_option linter.unusedVariables false
set_option linter.unusedSimpArgs false

def updN {α : Type} (g : Nat → α) (f : Nat) (x : α) : Nat → α := fun k => if k = f then x else g k
theorem updN_same {α : Type} (g : Nat → α) (f : Nat) (x : α) : updN g f x f = x := by simp [updN]
theorem updN_ne {α : Type} (g : Nat → α) (f : Nat) (x : α) {k : Nat} (h : k ≠ f) : updN g f x k = g k := by simp [updN, h]

/-- All cached writes of file f made stable, in order. -/
def settleAll (f : Nat) (s : List (List Value)) (c : List (Nat × Nat × List Value)) : List (List Value) := (c.filter (fun e => e.1 == f)).foldl (fun s e => settleL s e.2.1 e.2.2) s

theorem settleAll_snoc (f : Nat) (s : List (List Value)) (c : List (Nat × Nat × List Value)) (e : Nat × Nat × List Value) :
    settleAll f s (c ++ [e]) = if e.1 = f then settleL (settleAll f s c) e.2.1 e.2.2 else settleAll f s c := by
  unfold settleAll
  rw [List.filter_append]
  by_cases h : e.1 = f
  · simp [h]
  · simp [h]
theorem settleAll_is {f : Nat} {s : List (List Value)} (hs : ∀ p ∈ s, IsPg p) : ∀ (c : List (Nat × Nat × List Value)), (∀ e ∈ c, IsPg e.2.2) → ∀ p ∈ settleAll f s c, IsPg p := by
  intro c
  unfold settleAll
  generalize hl : c.filter (fun e => e.1 == f) = l
  intro hc
  have hl' : ∀ e ∈ l, IsPg e.2.2 := fun e he => hc e (by rw [← hl] at he; exact (List.mem_filter.1 he).1)
  clear hl hc
  induction l generalizing s with
  | nil => exact hs
  | cons e l ih =>
    rw [List.foldl_cons]
    exact ih (settleL_is hs (hl' e (by simp))) (fun x hx => hl' x (by simp [hx]))

theorem stable_set (v : Nat → Value) (x vc z0 z1 a c : Value) (f : Nat) (hf : f < 2) : [v 0, v 1, vc, z0, z1, a, c].set f x = [updN v f x 0, updN v f x 1, vc, z0, z1, a, c] := by
  match f, hf with
  | 0, _ => rfl
  | 1, _ => rfl

section
variable {w1 w2 : World} {F F' : Nat → Prop} {b : Nat} {v : Nat → Value} {vc vc' v1 : Value} {D D' : DS}
/-- The footprint may be named larger. -/
theorem DiskIs.widen (h : DiskIs w1 F b v vc D) (hF : ∀ k, F k → F' k) (hb : ∀ k, F' k → k < w1.heap.size) : DiskIs w1 F' b v vc D :=
  ⟨h.ok, hb, hF b h.fb, h.blk, h.rs, h.rc, fun f k hf hk => ⟨hF k (h.fs f k hf hk).1, (h.fs f k hf hk).2⟩, fun k hk => ⟨hF k (h.fc k hk).1, (h.fc k hk).2⟩, h.a01, h.asc⟩
/-- The cache is another slice. -/
theorem DiskIs.swapCache (h : DiskIs w1 F b v vc D) (hk : Keep (fun k => k = b) w1 w2) (hok : DOK D') (hs : D'.s = D.s)
    (hb : World.blk w2 b 39 [v 0, v 1, vc', .int .u16 (D'.z 0), .int .u16 (D'.z 1), .int .i64 D'.at_, .int .i64 D'.calls])
    (hc : w2.ownsRow 0 76 130 vc' D'.c.length (D'.c.map cwc).flatten) (hv : ∀ k, vc'.ownBlock = some k → ¬ F k) : DiskIs w2 (fun k => F k ∨ vc'.ownBlock = some k) b v vc' D' := by
  refine ⟨hok, fun k hF => ?_, .inl h.fb, hb, fun f hf => ?_, hc, fun f k hf hk' => ⟨.inl (h.fs f k hf hk').1, (h.fs f k hf hk').2⟩, fun k hk' => ⟨.inr hk', fun e => hv k hk' (e ▸ h.fb)⟩, h.a01, fun f k hf hk' e => hv k e (h.fs f k hf hk').1⟩
  · rcases hF with hF | hF
    · exact Nat.lt_of_lt_of_le (h.fp k hF) hk.size
    · exact (hc.lt k hF).2
  · rw [hs]
    exact hk.owns (h.rs f hf) fun k hk' => (h.fs f k hf hk').2
/-- The stable row of file f has turned, and the struct. -/
theorem DiskIs.restable {f : Nat} (hf : f < 2) {L : List (List Value)} (h : DiskIs w1 F b v vc D) (hk : Keep (fun k => k = b ∨ (v f).ownBlock = some k) w1 w2) (hok : DOK D') (hs : D'.s = updN D.s f L) (hc : D'.c = D.c)
    (hb : World.blk w2 b 39 [updN v f v1 0, updN v f v1 1, vc, .int .u16 (D'.z 0), .int .u16 (D'.z 1), .int .i64 D'.at_, .int .i64 D'.calls])
    (hr : w2.ownsRow 0 61 128 v1 L.length L.flatten) (hv : v1.ownBlock = (v f).ownBlock ∨ v1.ownBlock = none ∨ ∃ k, v1.ownBlock = some k ∧ w1.heap.size ≤ k) : DiskIs w2 (Ext F w1 w2) b (updN v f v1) vc D' := by
  have old : ∀ g k, g < 2 → (v g).ownBlock = some k → k < w1.heap.size := fun g k hg hk => h.fp k (h.fs g k hg hk).1
  have oldc : ∀ k, vc.ownBlock = some k → k < w1.heap.size := fun k hk => h.fp k (h.fc k hk).1
  have hbl := blk_lt h.blk
  have apart : ∀ g k, g < 2 → g ≠ f → (v g).ownBlock = some k → (v f).ownBlock ≠ some k := by
    intro g k hg hgf h1 h2
    by_cases hg0 : g = 0
    · subst hg0
      obtain rfl : f = 1 := by omega
      exact h.a01 k h1 h2
    · obtain rfl : g = 1 := by omega
      obtain rfl : f = 0 := by omega
      exact h.a01 k h2 h1
  refine ⟨hok, fun k hF => ?_, .inl h.fb, hb, fun g hg => ?_, ?_, fun g k hg hk' => ?_, fun k hk' => ⟨.inl (h.fc k hk').1, (h.fc k hk').2⟩, ?_, fun g k hg hk' e => ?_⟩
  · rcases hF with hF | hF
    · exact Nat.lt_of_lt_of_le (h.fp k hF) hk.size
    · exact hF.2
  · rw [hs]
    by_cases hgf : g = f
    · subst hgf
      rw [updN_same, updN_same]
      exact hr
    · rw [updN_ne _ _ _ hgf, updN_ne _ _ _ hgf]
      refine hk.owns (h.rs g hg) fun k hk' => ?_
      rintro (e | e)
      · exact (h.fs g k hg hk').2 e
      · exact apart g k hg hgf hk' e
  · rw [hc]
    refine hk.owns h.rc fun k hk' => ?_
    rintro (e | e)
    · exact (h.fc k hk').2 e
    · exact h.asc f k hf e hk'
  · by_cases hgf : g = f
    · subst hgf
      rw [updN_same] at hk'
      rcases hv with e | e | ⟨k', e, hle⟩
      · rw [e] at hk'
        exact ⟨.inl (h.fs g k hg hk').1, (h.fs g k hg hk').2⟩
      · rw [e] at hk'
        cases hk'
      · rw [e] at hk'
        obtain rfl : k' = k := by simpa using hk'
        exact ⟨.inr ⟨hle, (hr.lt k' e).2⟩, by omega⟩
    · rw [updN_ne _ _ _ hgf] at hk'
      exact ⟨.inl (h.fs g k hg hk').1, (h.fs g k hg hk').2⟩
  · intro k h0 h1
    by_cases hf0 : f = 0
    · subst hf0
      rw [updN_same] at h0
      rw [updN_ne _ _ _ (by omega)] at h1
      rcases hv with e | e | ⟨k', e, hle⟩
      · rw [e] at h0
        exact h.a01 k h0 h1
      · rw [e] at h0
        cases h0
      · rw [e] at h0
        have := old 1 k (by omega) h1
        simp at h0
        omega
    · obtain rfl : f = 1 := by omega
      rw [updN_same] at h1
      rw [updN_ne _ _ _ (by omega)] at h0
      rcases hv with e | e | ⟨k', e, hle⟩
      · rw [e] at h1
        exact h.a01 k h0 h1
      · rw [e] at h1
        cases h1
      · rw [e] at h1
        have := old 0 k (by omega) h0
        simp at h1
        omega
  · by_cases hgf : g = f
    · subst hgf
      rw [updN_same] at hk'
      rcases hv with e' | e' | ⟨k', e', hle⟩
      · rw [e'] at hk'
        exact h.asc g k hg hk' e
      · rw [e'] at hk'
        cases hk'
      · rw [e'] at hk'
        have := oldc k e
        simp at hk'
        omega
    · rw [updN_ne _ _ _ hgf] at hk'
      exact h.asc g k hg hk' e
end
end Go.Proofs.Ygdacg
