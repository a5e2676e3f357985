/-
  THE PLAIN LAW, 2: what the disk and its model share, and that every step keeps it.
-/
import Derived.Test.YgdacgAgree
namespace Go.Proofs.Ygdacg
open Go.RowKit
set_option linter.unusedVariables false
set_option linter.unusedSimpArgs false

structure Agree (D : DS) (M : MS) : Prop where
  at_ : M.at_ = D.at_
  calls : M.calls = D.calls
  dd : M.dead = dead D
  c : D.c = unS M.ws
  s : ∀ f, f < 2 → D.s f = settleAll f [] (syS M.ws)
  z : ∀ f, f < 2 → D.z f = maxPg f M.ws
  ord : Ord M.ws
  live : Lively D

section
variable {D : DS} {M : MS}
theorem Agree.mlive (h : Agree D M) : MLive M := fun hd => by
  rw [h.dd] at hd
  have := h.live.step hd
  rw [h.at_, h.calls]
  exact this
theorem Agree.size (h : Agree D M) (f : Nat) : sizeM M f = sizeD D f := by
  unfold sizeM sizeD
  rw [h.dd]
  split
  · rfl
  · rename_i hn
    have : ¬ 1 < f := fun h0 => hn (by simp [h0])
    exact (h.z f (by omega)).symm
theorem Agree.read (h : Agree D M) (f pg : Nat) : readM M f pg = readD D f pg := by
  by_cases hd : dead D = true ∨ 1 < f
  · unfold readM readD
    rw [h.dd, if_pos (by rcases hd with h0 | h0 <;> simp [h0]), if_pos (by rcases hd with h0 | h0 <;> simp [h0])]
  · have hd0 : dead D = false := by
      cases hx : dead D with
      | false => rfl
      | true => exact absurd (.inl hx) hd
    have hf : ¬ 1 < f := fun h0 => hd (.inr h0)
    have hz : sizeM M f = D.z f := by rw [h.size, sizeD, hd0]; simp [hf]
    unfold readM readD
    rw [h.dd, hz]
    by_cases hq : (dead D || decide (1 < f) || decide (D.z f ≤ pg)) = true
    · rw [if_pos hq, if_pos hq]
    · rw [if_neg hq, if_neg hq]
      have e1 := last_split f pg M.ws h.ord
      rw [← h.c] at e1
      have e2 := settle_get f pg (syS M.ws)
      rw [← h.s f (by omega)] at e2
      unfold lastM lastP at e1
      unfold lastP at e2
      cases hm : M.ws.reverse.find? (hitM f pg) with
      | some e =>
        cases hc : D.c.reverse.find? (hitC f pg) with
        | some x =>
          rw [hm, hc] at e1
          simp at e1
          simp [e1]
        | none =>
          rw [hm, hc] at e1
          simp only [Option.map_some, Option.map_none, Option.none_or] at e1
          rw [← e1] at e2
          simp only [Option.getD_some] at e2
          simp [e2]
      | none =>
        cases hc : D.c.reverse.find? (hitC f pg) with
        | some x =>
          rw [hm, hc] at e1
          simp at e1
        | none =>
          rw [hm, hc] at e1
          simp only [Option.map_none, Option.none_or] at e1
          rw [← e1] at e2
          simp only [Option.getD_none] at e2
          simp [e2]

/-! ### A count -/
theorem Agree.count (h : Agree D M) : countB M = tickB D := by unfold countB tickB; rw [h.at_, h.calls]
theorem Agree.tick (h : Agree D M) (hd : dead D = false) : Agree (ticked D) (counted M) := by
  have hl := h.live.step hd
  by_cases ha : D.at_ ≤ 0
  · have e1 : ticked D = D := by simp [ticked, ha]
    have e2 : counted M = M := by simp [counted, h.at_, ha]
    rw [e1, e2]
    exact h
  · have e1 : ticked D = { D with calls := D.calls + 1 } := by simp [ticked, ha]
    have e2 : counted M = { M with calls := M.calls + 1, dead := M.calls + 1 == M.at_ } := by simp [counted, h.at_, ha]
    rw [e1, e2]
    refine ⟨h.at_, ?_, ?_, h.c, h.s, h.z, h.ord, ?_⟩
    · show M.calls + 1 = D.calls + 1
      rw [h.calls]
    · show (M.calls + 1 == M.at_) = (decide (0 < D.at_) && (D.calls + 1 == D.at_))
      rw [h.calls, h.at_]
      have : (0 : Int) < D.at_ := by omega
      simp [this]
    · right
      rcases hl with hl | hl
      · exact absurd hl ha
      · exact ⟨by show 0 ≤ D.calls + 1; omega, by show D.calls + 1 ≤ D.at_; omega⟩

/-! ### Write -/
theorem Agree.write (h : Agree D M) (f pg : Nat) (p : List Value) : (mwriteD M f pg p).1 = (writeD D f pg p).1 ∧ Agree (writeD D f pg p).2 (mwriteD M f pg p).2 := by
  have hcl : D.c.length = cachedL M.ws := by rw [h.c, unS_len]
  have hcond : (M.dead || decide (1 < f) || decide (sizeM M f < pg) || decide (1024 ≤ pg) || decide (2048 ≤ cachedL M.ws)) = (dead D || decide (1 < f) || decide (D.z f < pg) || decide (1024 ≤ pg) || decide (2048 ≤ D.c.length)) := by
    rw [h.dd, hcl, h.size]
    by_cases hd : dead D = true ∨ 1 < f
    · rcases hd with h0 | h0 <;> simp [h0]
    · have hd0 : dead D = false := by
        cases hx : dead D with
        | false => rfl
        | true => exact absurd (.inl hx) hd
      have hf : ¬ 1 < f := fun h0 => hd (.inr h0)
      simp [sizeD, hd0, hf]
  unfold writeD mwriteD
  rw [hcond, h.count]
  split
  · exact ⟨rfl, h⟩
  · rename_i hn
    have hd : dead D = false := by
      cases hx : dead D with
      | false => rfl
      | true => exact absurd (by simp [hx]) hn
    have hf : ¬ 1 < f := fun h0 => hn (by simp [h0])
    have hz : ¬ D.z f < pg := fun h0 => hn (by simp [h0])
    have ht := h.tick hd
    split
    · refine ⟨rfl, ht.at_, ht.calls, ht.dd, ?_, ?_, ?_, ord_snoc_un h.ord rfl, ht.live⟩
      · show D.c ++ [(f, pg, p)] = unS (M.ws ++ [(f, pg, p, false)])
        rw [unS_snoc, h.c]
        rfl
      · intro k hk
        have e : (wrote D f pg p).s = D.s := by
          show (ticked D).s = D.s
          unfold ticked
          split <;> rfl
        rw [e, h.s k hk]
        show _ = settleAll k [] (syS (M.ws ++ [(f, pg, p, false)]))
        rw [syS_snoc]
        rfl
      · intro k hk
        show (if k = f ∧ pg = D.z f then D.z f + 1 else D.z k) = maxPg k (M.ws ++ [(f, pg, p, false)])
        rw [maxPg_snoc, ← h.z k hk]
        show _ = if f = k ∧ D.z k < pg + 1 then pg + 1 else D.z k
        by_cases hkf : k = f
        · subst hkf
          by_cases hp : pg = D.z k
          · rw [if_pos ⟨rfl, hp⟩, if_pos ⟨rfl, by omega⟩, hp]
          · rw [if_neg (fun h0 => hp h0.2), if_neg (fun h0 => hp (by omega))]
        · rw [if_neg (fun h0 => hkf h0.1), if_neg (fun h0 => hkf h0.1.symm)]
    · exact ⟨rfl, ht⟩

/-! ### Sync -/
theorem markS_sync (f : Nat) (e : Nat × Nat × List Value × Bool) : (markS f e).2.2.2 = (e.2.2.2 || e.1 == f) := by
  unfold markS
  by_cases h : e.1 = f
  · rw [if_pos h]; simp [h]
  · rw [if_neg h]; simp [h]
theorem strip_mark (f : Nat) (e : Nat × Nat × List Value × Bool) : strip (markS f e) = strip e := by
  unfold markS
  split <;> rfl
theorem mark_un (f : Nat) (ws : List (Nat × Nat × List Value × Bool)) : unS (ws.map (markS f)) = (unS ws).filter (fun e => e.1 != f) := by
  induction ws using snoc_ind with
  | h0 => rfl
  | h1 l e ih =>
    rw [List.map_append, List.map_singleton, unS_snoc, unS_snoc, markS_sync, strip_mark, ih]
    cases hs : e.2.2.2 with
    | true => simp
    | false =>
      have h1 : (strip e).1 = e.1 := rfl
      by_cases h : e.1 = f
      · simp [h, List.filter_append, List.filter_cons, h1]
      · simp [h, List.filter_append, List.filter_cons, h1]
theorem mark_sy_other {f k : Nat} (hk : k ≠ f) (ws : List (Nat × Nat × List Value × Bool)) : settleAll k [] (syS (ws.map (markS f))) = settleAll k [] (syS ws) := by
  induction ws using snoc_ind with
  | h0 => rfl
  | h1 l e ih =>
    have h1 : (strip e).1 = e.1 := rfl
    rw [List.map_append, List.map_singleton, syS_snoc, syS_snoc, markS_sync, strip_mark]
    by_cases h : e.1 = f
    · have hne : ¬ (strip e).1 = k := fun h0 => hk (by rw [← h0, h1, h])
      cases hs : e.2.2.2 <;> simp [h, settleAll_snoc, hne, ih]
    · cases hs : e.2.2.2 <;> simp [h, settleAll_snoc, ih]
theorem mark_sy_same (f : Nat) (ws : List (Nat × Nat × List Value × Bool)) : Ord ws → settleAll f (settleAll f [] (syS ws)) (unS ws) = settleAll f [] (syS (ws.map (markS f))) := by
  induction ws using snoc_ind with
  | h0 => intro _; rfl
  | h1 l e ih =>
    intro ho
    obtain ⟨hl, he⟩ := ord_snoc ho
    have ih := ih hl
    have h1 : (strip e).1 = e.1 := rfl
    rw [List.map_append, List.map_singleton, syS_snoc, unS_snoc, syS_snoc, markS_sync, strip_mark]
    by_cases h : e.1 = f
    · cases hs : e.2.2.2 with
      | false =>
        simp only [h, Bool.false_or, beq_self_eq_true, if_true, Bool.false_eq_true, if_false]
        rw [settleAll_snoc, settleAll_snoc, ih]
      | true =>
        simp only [Bool.true_or, if_true]
        have hno := unS_noF he hs
        rw [h] at hno
        rw [settleAll_noF hno] at ih ⊢
        rw [settleAll_snoc, settleAll_snoc, ih]
    · cases hs : e.2.2.2 with
      | false => simp [h, settleAll_snoc, h1, ih]
      | true => simp [h, settleAll_snoc, h1, ih]
theorem ord_mark (f : Nat) {ws : List (Nat × Nat × List Value × Bool)} (h : Ord ws) : Ord (ws.map (markS f)) := by
  refine List.pairwise_map.2 (List.Pairwise.imp ?_ h)
  intro a b hab h1 h2
  rw [(markS_pg f a).1, (markS_pg f b).1] at h1
  rw [markS_sync] at h2 ⊢
  by_cases hb : b.1 = f
  · simp [h1, hb]
  · simp [hb] at h2
    simp [hab h1 h2]
theorem maxPg_mark (f k : Nat) (ws : List (Nat × Nat × List Value × Bool)) : maxPg k (ws.map (markS f)) = maxPg k ws := by
  induction ws using snoc_ind with
  | h0 => rfl
  | h1 l e ih => rw [List.map_append, List.map_singleton, maxPg_snoc, maxPg_snoc, ih, (markS_pg f e).1, (markS_pg f e).2.1]
theorem Agree.sync (h : Agree D M) (f : Nat) : (msyncD M f).1 = (syncD D f).1 ∧ Agree (syncD D f).2 (msyncD M f).2 := by
  unfold syncD msyncD
  rw [h.dd, h.count]
  split
  · exact ⟨rfl, h⟩
  · rename_i hn
    have hd : dead D = false := by
      cases hx : dead D with
      | false => rfl
      | true => exact absurd (by simp [hx]) hn
    have hf : ¬ 1 < f := fun h0 => hn (by simp [h0])
    have ht := h.tick hd
    have e0 : (ticked D).z = D.z := by unfold ticked; split <;> rfl
    split
    · refine ⟨rfl, ht.at_, ht.calls, ht.dd, ?_, ?_, ?_, ord_mark f h.ord, ht.live⟩
      · show D.c.filter (fun e => e.1 != f) = unS (M.ws.map (markS f))
        rw [mark_un, h.c]
      · intro k hk
        show updN D.s f (settleAll f (D.s f) D.c) k = settleAll k [] (syS (M.ws.map (markS f)))
        by_cases hkf : k = f
        · subst hkf
          rw [updN_same, ← mark_sy_same k M.ws h.ord, h.s k hk, h.c]
        · rw [updN_ne _ _ _ hkf, mark_sy_other hkf, h.s k hk]
      · intro k hk
        show (ticked D).z k = maxPg k (M.ws.map (markS f))
        rw [maxPg_mark, e0, h.z k hk]
    · exact ⟨rfl, ht⟩

/-! ### Reboot -/
theorem rebW_synced (keep : Int) : ∀ (l : List (Nat × Nat × List Value × Bool)) (i : Nat), ∀ e ∈ rebW keep i l, e.2.2.2 = true
  | [], i, e, he => by cases he
  | x :: l, i, e, he => by
    rw [rebW] at he
    split at he
    · rename_i hx
      rcases List.mem_cons.1 he with rfl | he
      · exact hx
      · exact rebW_synced keep l i e he
    · split at he
      · rcases List.mem_cons.1 he with rfl | he
        · rfl
        · exact rebW_synced keep l _ e he
      · exact rebW_synced keep l _ e he
theorem reb_settle (keep : Int) (h0 : 0 ≤ keep) (h1 : keep ≤ 18446744073709551615) (f : Nat) (ws : List (Nat × Nat × List Value × Bool)) : Ord ws →
    settleAll f (settleAll f [] (syS ws)) (keepL keep 0 (unS ws)) = settleAll f [] ((rebW keep 0 ws).map strip) := by
  induction ws using snoc_ind with
  | h0 => intro _; rfl
  | h1 l e ih =>
    intro ho
    obtain ⟨hl, he⟩ := ord_snoc ho
    have ih := ih hl
    have hs1 : (strip e).1 = e.1 := rfl
    rw [syS_snoc, unS_snoc, rebW_snoc, List.map_append]
    cases hs : e.2.2.2 with
    | false =>
      simp only [Bool.false_eq_true, if_false]
      rw [keepL_snoc, unS_len, bit_same keep h0 h1]
      have e2 : rebW keep (0 + cachedL l) [e] = if bitB keep (0 + cachedL l) then [(e.1, e.2.1, e.2.2.1, true)] else [] := by
        rw [rebW, hs]
        simp [rebW]
      rw [e2]
      cases hb : bitB keep (0 + cachedL l) with
      | false => simpa using ih
      | true =>
        simp only [if_true, List.map_singleton]
        rw [settleAll_snoc, settleAll_snoc, ih]
        rfl
    | true =>
      simp only [if_true]
      have e2 : rebW keep (0 + cachedL l) [e] = [e] := by
        rw [rebW, hs]
        rfl
      rw [e2, List.map_singleton, settleAll_snoc, settleAll_snoc, hs1]
      by_cases h : e.1 = f
      · have hno := unS_noF he hs
        rw [h] at hno
        have hno' : ∀ c ∈ keepL keep 0 (unS l), c.1 ≠ f := fun c hc => hno c (keepL_mem keep _ _ c hc)
        rw [settleAll_noF hno'] at ih ⊢
        rw [if_pos h, if_pos h, ih]
      · rw [if_neg h, if_neg h, ih]
theorem Agree.reboot (h : Agree D M) (keep at_ : Int) (h0 : 0 ≤ keep) (h1 : keep ≤ 18446744073709551615) : Agree (rebooted D keep at_) (mrebooted M keep at_) ∧ dead (rebooted D keep at_) = false := by
  have hall := rebW_synced keep M.ws 0
  have e1 : unS (rebW keep 0 M.ws) = [] := by
    unfold unS
    rw [List.filter_eq_nil_iff.2 (fun e he => by simp [hall e he])]
    rfl
  have e2 : syS (rebW keep 0 M.ws) = (rebW keep 0 M.ws).map strip := by
    unfold syS
    rw [List.filter_eq_self.2 (fun e he => hall e he)]
  have e3 : ∀ f, f < 2 → rebS D keep D.c.length f = settleAll f [] ((rebW keep 0 M.ws).map strip) := fun f hf => by
    unfold rebS
    rw [List.take_of_length_le (Nat.le_refl _), h.s f hf, h.c]
    exact reb_settle keep h0 h1 f M.ws h.ord
  have hdead : dead (rebooted D keep at_) = false := by
    show (decide (0 < at_) && ((0 : Int) == at_)) = false
    by_cases ha : 0 < at_
    · have : ((0 : Int) == at_) = false := beq_eq_false_iff_ne.2 (by omega)
      simp [this]
    · simp [ha]
  refine ⟨⟨rfl, rfl, hdead.symm, e1.symm, fun f hf => ?_, fun f hf => ?_, ord_all hall, ?_⟩, hdead⟩
  · show rebS D keep D.c.length f = settleAll f [] (syS (rebW keep 0 M.ws))
    rw [e2, e3 f hf]
  · show (rebS D keep D.c.length f).length = maxPg f (rebW keep 0 M.ws)
    rw [e3 f hf, settle_len]
  · show at_ ≤ 0 ∨ ((0 : Int) ≤ 0 ∧ 0 ≤ at_)
    omega
theorem agree_new (at_ : Int) : Agree (newD at_) { ws := [], calls := 0, at_ := at_, dead := false } := by
  refine ⟨rfl, rfl, ?_, rfl, fun _ _ => rfl, fun _ _ => rfl, List.Pairwise.nil, ?_⟩
  · show false = (decide (0 < at_) && ((0 : Int) == at_))
    by_cases ha : 0 < at_
    · have : ((0 : Int) == at_) = false := beq_eq_false_iff_ne.2 (by omega)
      simp [this]
    · simp [ha]
  · show at_ ≤ 0 ∨ ((0 : Int) ≤ 0 ∧ 0 ≤ at_)
    omega
/-! ### Bounds -/
theorem Agree.bounds (h : Agree D M) (hm : MOK M) : (∀ f, f < 2 → D.z f ≤ 1024) ∧ (∀ f, f < 2 → (D.s f).length ≤ 1024) ∧ (∀ e ∈ D.c, e.1 < 2 ∧ e.2.1 < 1024) ∧ D.c.length ≤ M.ws.length := by
  have hs : ∀ c ∈ syS M.ws, c.2.1 < 1024 := fun c hc => by
    obtain ⟨e, he, rfl⟩ := List.mem_map.1 hc
    exact (hm.pc e (List.mem_filter.1 he).1).2.2
  refine ⟨fun f hf => ?_, fun f hf => ?_, fun e he => ?_, ?_⟩
  · rw [h.z f hf]
    exact maxPg_le (fun e he => (hm.pc e he).2.2)
  · rw [h.s f hf]
    exact settleAll_len (by simp) hs
  · rw [h.c] at he
    obtain ⟨x, hx, -, rfl⟩ := unS_mem he
    exact (hm.pc x hx).2
  · rw [h.c, unS_len]
    exact cachedL_le _
theorem mwriteD_len (M : MS) (f pg : Nat) (p : List Value) : (mwriteD M f pg p).2.ws.length ≤ M.ws.length + 1 := by
  unfold mwriteD
  split
  · exact Nat.le_succ _
  · split
    · show (M.ws ++ _).length ≤ _
      simp
    · rw [counted_ws]
      exact Nat.le_succ _
theorem msyncD_len (M : MS) (f : Nat) : (msyncD M f).2.ws.length = M.ws.length := by
  unfold msyncD
  split
  · rfl
  · split
    · show (M.ws.map _).length = _
      simp
    · rw [counted_ws]
end
end Go.Proofs.Ygdacg
