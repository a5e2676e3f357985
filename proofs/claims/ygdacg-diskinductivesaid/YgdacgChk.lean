/-
  WHAT Check ASKS, and that write, sync and reboot keep it. No Go in sight.
-/
import Derived.Test.YgdacgReboot
namespace Go.Proofs.Ygdacg
open Go.RowKit
set_option linter.unusedVariables false
set_option linter.unusedSimpArgs false

theorem snoc_ind' {α : Type} {P : List α → Prop} (h0 : P []) (h1 : ∀ l e, P l → P (l ++ [e])) (l : List α) : P l := by
  have : ∀ r : List α, P r.reverse := fun r => by
    induction r with
    | nil => exact h0
    | cons e r ih => rw [List.reverse_cons]; exact h1 _ _ ih
  have := this l.reverse
  rwa [List.reverse_reverse] at this

/-- The file's size behind the cached writes. -/
def cnt (f n : Nat) (c : List (Nat × Nat × List Value)) : Nat := c.foldl (fun n e => if e.1 = f ∧ e.2.1 = n then n + 1 else n) n
theorem cnt_snoc (f n : Nat) (c : List (Nat × Nat × List Value)) (e : Nat × Nat × List Value) : cnt f n (c ++ [e]) = if e.1 = f ∧ e.2.1 = cnt f n c then cnt f n c + 1 else cnt f n c := by
  unfold cnt
  rw [List.foldl_append]
  rfl
/-- Each cached write fits. -/
def Fine (s : Nat → Nat) (c : List (Nat × Nat × List Value)) : Prop := ∀ k (h : k < c.length), c[k].1 < 2 ∧ c[k].2.1 < 1024 ∧ c[k].2.1 ≤ cnt c[k].1 (s c[k].1) (c.take k)
theorem fine_snoc {s : Nat → Nat} {c : List (Nat × Nat × List Value)} {e : Nat × Nat × List Value} : Fine s (c ++ [e]) ↔ Fine s c ∧ e.1 < 2 ∧ e.2.1 < 1024 ∧ e.2.1 ≤ cnt e.1 (s e.1) c := by
  constructor
  · intro h
    refine ⟨fun k hk => ?_, ?_⟩
    · have := h k (by simp; omega)
      rw [List.getElem_append_left hk, List.take_append_of_le_length (by omega)] at this
      exact this
    · have := h c.length (by simp)
      rw [List.getElem_append_right (Nat.le_refl _), List.take_append_of_le_length (Nat.le_refl _), List.take_of_length_le (Nat.le_refl _)] at this
      simpa using this
  · rintro ⟨h1, h2⟩ k hk
    by_cases hkl : k < c.length
    · rw [List.getElem_append_left hkl, List.take_append_of_le_length (by omega)]
      exact h1 k hkl
    · obtain rfl : k = c.length := by simp at hk; omega
      rw [List.getElem_append_right (Nat.le_refl _), List.take_append_of_le_length (Nat.le_refl _), List.take_of_length_le (Nat.le_refl _)]
      simpa using h2
theorem cnt_settle {s : Nat → Nat} {f : Nat} {S : List (List Value)} (hS : S.length = s f) (c : List (Nat × Nat × List Value)) : Fine s c → (settleAll f S c).length = cnt f (s f) c := by
  induction c using snoc_ind' with
  | h0 => intro _; exact hS
  | h1 l e ih =>
    intro hf
    obtain ⟨h1, -, -, h2⟩ := fine_snoc.1 hf
    have ih := ih h1
    rw [settleAll_snoc, cnt_snoc]
    by_cases h : e.1 = f
    · rw [h] at h2
      rw [if_pos h, settleL_len, ih]
      by_cases hp : e.2.1 = cnt f (s f) l
      · rw [if_pos ⟨h, hp⟩]
        omega
      · rw [if_neg (fun h0 => hp h0.2)]
        omega
    · rw [if_neg h, if_neg (fun h0 => h h0.1), ih]
theorem cnt_le {s : Nat → Nat} {f : Nat} (hs : s f ≤ 1024) (c : List (Nat × Nat × List Value)) : Fine s c → cnt f (s f) c ≤ 1024 := by
  induction c using snoc_ind' with
  | h0 => intro _; exact hs
  | h1 l e ih =>
    intro hf
    obtain ⟨h1, -, h3, h2⟩ := fine_snoc.1 hf
    have ih := ih h1
    rw [cnt_snoc]
    split
    · rename_i h
      omega
    · exact ih
theorem cnt_noF {f n : Nat} {c : List (Nat × Nat × List Value)} (h : ∀ e ∈ c, e.1 ≠ f) : cnt f n c = n := by
  induction c with
  | nil => rfl
  | cons e c ih =>
    show cnt f (if e.1 = f ∧ e.2.1 = n then n + 1 else n) c = n
    rw [if_neg (fun h0 => h e (by simp) h0.1)]
    exact ih (fun x hx => h x (by simp [hx]))
theorem cnt_other {f g n : Nat} (hg : g ≠ f) (c : List (Nat × Nat × List Value)) : cnt g n (c.filter (fun e => e.1 != f)) = cnt g n c := by
  induction c using snoc_ind' with
  | h0 => rfl
  | h1 l e ih =>
    rw [List.filter_append, cnt_snoc]
    by_cases h : e.1 = f
    · have : ([e].filter (fun e => e.1 != f)) = [] := by simp [h]
      rw [this, List.append_nil, ih, if_neg (fun h0 => hg (by rw [← h0.1, h]))]
    · have : ([e].filter (fun e => e.1 != f)) = [e] := by simp [h]
      rw [this, cnt_snoc, ih]
theorem fine_filter {s s' : Nat → Nat} {f : Nat} (hs : ∀ g, g ≠ f → s' g = s g) (c : List (Nat × Nat × List Value)) : Fine s c → Fine s' (c.filter (fun e => e.1 != f)) := by
  induction c using snoc_ind' with
  | h0 => intro _ k hk; simp at hk
  | h1 l e ih =>
    intro hf
    obtain ⟨h1, h2, h3, h4⟩ := fine_snoc.1 hf
    have ih := ih h1
    rw [List.filter_append]
    by_cases h : e.1 = f
    · have : ([e].filter (fun e => e.1 != f)) = [] := by simp [h]
      rw [this, List.append_nil]
      exact ih
    · have : ([e].filter (fun e => e.1 != f)) = [e] := by simp [h]
      rw [this]
      exact fine_snoc.2 ⟨ih, h2, h3, by rw [cnt_other h, hs _ h]; exact h4⟩

/-- What Check asks. -/
structure Chk (D : DS) : Prop where
  s0 : (D.s 0).length ≤ 1024
  s1 : (D.s 1).length ≤ 1024
  cl : D.c.length ≤ 2048
  e : Fine (fun f => (D.s f).length) D.c
  z0 : D.z 0 = cnt 0 (D.s 0).length D.c
  z1 : D.z 1 = cnt 1 (D.s 1).length D.c
  cal : (D.at_ ≤ 0 ∧ D.calls = 0) ∨ (0 ≤ D.calls ∧ D.calls ≤ D.at_)

section
variable {D : DS}
theorem Chk.s (h : Chk D) : ∀ f, f < 2 → (D.s f).length ≤ 1024 := fun f hf => by
  match f, hf with
  | 0, _ => exact h.s0
  | 1, _ => exact h.s1
theorem Chk.z (h : Chk D) : ∀ f, f < 2 → D.z f = cnt f (D.s f).length D.c := fun f hf => by
  match f, hf with
  | 0, _ => exact h.z0
  | 1, _ => exact h.z1
theorem chk_mk (hs : ∀ f, f < 2 → (D.s f).length ≤ 1024) (hcl : D.c.length ≤ 2048) (he : Fine (fun f => (D.s f).length) D.c) (hz : ∀ f, f < 2 → D.z f = cnt f (D.s f).length D.c) (hc : (D.at_ ≤ 0 ∧ D.calls = 0) ∨ (0 ≤ D.calls ∧ D.calls ≤ D.at_)) : Chk D :=
  ⟨hs 0 (by omega), hs 1 (by omega), hcl, he, hz 0 (by omega), hz 1 (by omega), hc⟩
theorem Chk.lively (h : Chk D) : Lively D := by
  rcases h.cal with ⟨h1, h2⟩ | h1
  · exact .inl h1
  · exact .inr h1
theorem Chk.zle (h : Chk D) : ∀ f, f < 2 → D.z f ≤ 1024 := fun f hf => by
  rw [h.z f hf]
  exact cnt_le (s := fun f => (D.s f).length) (h.s f hf) D.c h.e
theorem Chk.mem (h : Chk D) : ∀ e ∈ D.c, e.1 < 2 ∧ e.2.1 < 1024 := fun e he => by
  obtain ⟨k, hk, rfl⟩ := List.getElem_of_mem he
  have := h.e k hk
  exact ⟨this.1, this.2.1⟩
theorem Chk.tick (h : Chk D) (hd : dead D = false) : Chk (ticked D) := by
  unfold ticked
  split
  · exact h
  · rename_i ha
    refine ⟨h.s0, h.s1, h.cl, h.e, h.z0, h.z1, .inr ?_⟩
    rcases h.lively.step hd with h1 | h1
    · exact absurd h1 ha
    · exact ⟨by show 0 ≤ D.calls + 1; omega, by show D.calls + 1 ≤ D.at_; omega⟩
theorem Chk.write (h : Chk D) (f pg : Nat) (p : List Value) : Chk (writeD D f pg p).2 := by
  unfold writeD
  split
  · exact h
  · rename_i hn
    have hd : dead D = false := by
      cases hx : dead D with
      | false => rfl
      | true => exact absurd (by simp [hx]) hn
    have hf : ¬ 1 < f := fun h0 => hn (by simp [h0])
    have hz : ¬ D.z f < pg := fun h0 => hn (by simp [h0])
    have hp : ¬ 1024 ≤ pg := fun h0 => hn (by simp [h0])
    have hc : ¬ 2048 ≤ D.c.length := fun h0 => hn (by simp [h0])
    have ht := h.tick hd
    split
    · have e1 : (wrote D f pg p).s = D.s := ticked_s D
      refine chk_mk (fun k hk => by rw [e1]; exact h.s k hk) (by show (D.c ++ [(f, pg, p)]).length ≤ 2048; simp; omega) ?_ ?_ ht.cal
      · show Fine (fun k => ((wrote D f pg p).s k).length) (D.c ++ [(f, pg, p)])
        rw [e1]
        refine fine_snoc.2 ⟨h.e, by show f < 2; omega, by show pg < 1024; omega, ?_⟩
        show pg ≤ cnt f (D.s f).length D.c
        rw [← h.z f (by omega)]
        omega
      · intro k hk
        rw [e1]
        show (if k = f ∧ pg = D.z f then D.z f + 1 else D.z k) = cnt k (D.s k).length (D.c ++ [(f, pg, p)])
        rw [cnt_snoc, ← h.z k hk]
        show _ = if f = k ∧ pg = D.z k then D.z k + 1 else D.z k
        by_cases hkf : k = f
        · subst hkf
          rfl
        · rw [if_neg (fun h0 => hkf h0.1), if_neg (fun h0 => hkf h0.1.symm)]
    · exact ht
theorem Chk.sync (h : Chk D) (f : Nat) : Chk (syncD D f).2 := by
  unfold syncD
  split
  · exact h
  · rename_i hn
    have hd : dead D = false := by
      cases hx : dead D with
      | false => rfl
      | true => exact absurd (by simp [hx]) hn
    have hf : ¬ 1 < f := fun h0 => hn (by simp [h0])
    have ht := h.tick hd
    split
    · have hset : (settleAll f (D.s f) D.c).length = cnt f (D.s f).length D.c := cnt_settle (s := fun f => (D.s f).length) rfl D.c h.e
      refine chk_mk (fun k hk => ?_) ?_ ?_ ?_ ht.cal
      · show (updN D.s f (settleAll f (D.s f) D.c) k).length ≤ 1024
        by_cases hkf : k = f
        · subst hkf
          rw [updN_same]
          exact settleAll_len (h.s k hk) (fun e he => (h.mem e he).2)
        · rw [updN_ne _ _ _ hkf]
          exact h.s k hk
      · show (D.c.filter _).length ≤ 2048
        exact Nat.le_trans (List.length_filter_le _ _) h.cl
      · show Fine (fun k => (updN D.s f (settleAll f (D.s f) D.c) k).length) (D.c.filter (fun e => e.1 != f))
        exact fine_filter (s := fun f => (D.s f).length) (fun g hg => by rw [updN_ne _ _ _ hg]) D.c h.e
      · intro k hk
        show (ticked D).z k = cnt k (updN D.s f (settleAll f (D.s f) D.c) k).length (D.c.filter (fun e => e.1 != f))
        rw [ticked_z, h.z k hk]
        by_cases hkf : k = f
        · subst hkf
          rw [updN_same, hset, cnt_noF (c := D.c.filter (fun e => e.1 != k)) (fun e he => by have := (List.mem_filter.1 he).2; simpa using this)]
        · rw [updN_ne _ _ _ hkf, cnt_other hkf]
    · exact ht
theorem Chk.reboot (h : Chk D) (keep at_ : Int) : Chk (rebooted D keep at_) ∧ dead (rebooted D keep at_) = false := by
  refine ⟨chk_mk (fun k hk => rebS_len (h.s k hk) (fun e he => (h.mem e he).2)) (Nat.zero_le _) (fun k hk => ?_) (fun k hk => rfl) ?_, ?_⟩
  · simp [rebooted] at hk
  · show (at_ ≤ 0 ∧ (0 : Int) = 0) ∨ ((0 : Int) ≤ 0 ∧ 0 ≤ at_)
    omega
  · show (decide (0 < at_) && ((0 : Int) == at_)) = false
    by_cases ha : 0 < at_
    · have : ((0 : Int) == at_) = false := beq_eq_false_iff_ne.2 (by omega)
      simp [this]
    · simp [ha]
end
end Go.Proofs.Ygdacg
