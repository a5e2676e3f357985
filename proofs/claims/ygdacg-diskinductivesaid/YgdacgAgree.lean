/-
  THE PLAIN LAW: the disk and its model answer alike. No Go in sight.
-/
import Derived.Test.YgdacgSame
namespace Go.Proofs.Ygdacg
open Go.RowKit
set_option linter.unusedVariables false
set_option linter.unusedSimpArgs false

theorem snoc_ind {α : Type} {P : List α → Prop} (h0 : P []) (h1 : ∀ l e, P l → P (l ++ [e])) (l : List α) : P l := by
  have : ∀ r : List α, P r.reverse := fun r => by
    induction r with
    | nil => exact h0
    | cons e r ih => rw [List.reverse_cons]; exact h1 _ _ ih
  have := this l.reverse
  rwa [List.reverse_reverse] at this

def strip (e : Nat × Nat × List Value × Bool) : Nat × Nat × List Value := (e.1, e.2.1, e.2.2.1)
def unS (ws : List (Nat × Nat × List Value × Bool)) : List (Nat × Nat × List Value) := (ws.filter (fun e => !e.2.2.2)).map strip
def syS (ws : List (Nat × Nat × List Value × Bool)) : List (Nat × Nat × List Value) := (ws.filter (fun e => e.2.2.2)).map strip
def Ord (ws : List (Nat × Nat × List Value × Bool)) : Prop := ws.Pairwise (fun a b => a.1 = b.1 → b.2.2.2 = true → a.2.2.2 = true)

theorem unS_snoc (l : List (Nat × Nat × List Value × Bool)) (e : Nat × Nat × List Value × Bool) : unS (l ++ [e]) = if e.2.2.2 then unS l else unS l ++ [strip e] := by
  unfold unS
  rw [List.filter_append]
  cases h : e.2.2.2 <;> simp [h]
theorem syS_snoc (l : List (Nat × Nat × List Value × Bool)) (e : Nat × Nat × List Value × Bool) : syS (l ++ [e]) = if e.2.2.2 then syS l ++ [strip e] else syS l := by
  unfold syS
  rw [List.filter_append]
  cases h : e.2.2.2 <;> simp [h]
theorem unS_len (ws : List (Nat × Nat × List Value × Bool)) : (unS ws).length = cachedL ws := by simp [unS, cachedL]
theorem ord_snoc {l : List (Nat × Nat × List Value × Bool)} {e : Nat × Nat × List Value × Bool} (h : Ord (l ++ [e])) : Ord l ∧ ∀ a ∈ l, a.1 = e.1 → e.2.2.2 = true → a.2.2.2 = true := by
  have := List.pairwise_append.1 h
  exact ⟨this.1, fun a ha => this.2.2 a ha e (by simp)⟩
theorem ord_snoc_un {l : List (Nat × Nat × List Value × Bool)} {e : Nat × Nat × List Value × Bool} (h : Ord l) (he : e.2.2.2 = false) : Ord (l ++ [e]) := by
  refine List.pairwise_append.2 ⟨h, by simp, fun a ha b hb => ?_⟩
  obtain rfl : b = e := by simpa using hb
  intro _ h1
  rw [he] at h1
  cases h1
theorem ord_all : ∀ {ws : List (Nat × Nat × List Value × Bool)}, (∀ e ∈ ws, e.2.2.2 = true) → Ord ws
  | [], _ => List.Pairwise.nil
  | x :: ws, h => List.Pairwise.cons (fun a ha _ _ => h x (by simp)) (ord_all (fun e he => h e (by simp [he])))
theorem unS_mem {ws : List (Nat × Nat × List Value × Bool)} {c : Nat × Nat × List Value} (h : c ∈ unS ws) : ∃ e ∈ ws, e.2.2.2 = false ∧ c = strip e := by
  obtain ⟨e, he, rfl⟩ := List.mem_map.1 h
  have := List.mem_filter.1 he
  exact ⟨e, this.1, by simpa using this.2, rfl⟩
/-- Behind a synced write, no unsynced one of its file lies ahead. -/
theorem unS_noF {l : List (Nat × Nat × List Value × Bool)} {e : Nat × Nat × List Value × Bool} (h : ∀ a ∈ l, a.1 = e.1 → e.2.2.2 = true → a.2.2.2 = true) (he : e.2.2.2 = true) : ∀ c ∈ unS l, c.1 ≠ e.1 := by
  intro c hc h1
  obtain ⟨a, ha, hf, rfl⟩ := unS_mem hc
  have := h a ha h1 he
  rw [hf] at this
  cases this

/-! ### The last write of a page -/
def lastP (f pg : Nat) (L : List (Nat × Nat × List Value)) : Option (List Value) := (L.reverse.find? (hitC f pg)).map (·.2.2)
def lastM (f pg : Nat) (L : List (Nat × Nat × List Value × Bool)) : Option (List Value) := (L.reverse.find? (hitM f pg)).map (·.2.2.1)
theorem lastP_snoc (f pg : Nat) (L : List (Nat × Nat × List Value)) (e : Nat × Nat × List Value) : lastP f pg (L ++ [e]) = if hitC f pg e then some e.2.2 else lastP f pg L := by
  unfold lastP
  rw [List.reverse_append]
  cases h : hitC f pg e <;> simp [h]
theorem lastM_snoc (f pg : Nat) (L : List (Nat × Nat × List Value × Bool)) (e : Nat × Nat × List Value × Bool) : lastM f pg (L ++ [e]) = if hitM f pg e then some e.2.2.1 else lastM f pg L := by
  unfold lastM
  rw [List.reverse_append]
  cases h : hitM f pg e <;> simp [h]
theorem lastP_none {f pg : Nat} {L : List (Nat × Nat × List Value)} (h : ∀ c ∈ L, c.1 ≠ f) : lastP f pg L = none := by
  unfold lastP
  rw [List.find?_eq_none.2 (fun c hc => by simp [hitC, h c (List.mem_reverse.1 hc)])]
  rfl
theorem last_split (f pg : Nat) (ws : List (Nat × Nat × List Value × Bool)) : Ord ws → lastM f pg ws = (lastP f pg (unS ws)).or (lastP f pg (syS ws)) := by
  induction ws using snoc_ind with
  | h0 => intro _; rfl
  | h1 l e ih =>
    intro ho
    obtain ⟨hl, he⟩ := ord_snoc ho
    have ih := ih hl
    have hh : hitC f pg (strip e) = hitM f pg e := rfl
    have h3 : (strip e).2.2 = e.2.2.1 := rfl
    rw [lastM_snoc, unS_snoc, syS_snoc]
    cases hs : e.2.2.2 with
    | false =>
      simp only [Bool.false_eq_true, if_false]
      rw [lastP_snoc, hh, h3]
      cases hm : hitM f pg e with
      | true => rfl
      | false => simpa using ih
    | true =>
      simp only [if_true]
      rw [lastP_snoc, hh, h3]
      cases hm : hitM f pg e with
      | false => simpa using ih
      | true =>
        have h1 : e.1 = f := by
          simp only [hitM, Bool.and_eq_true, beq_iff_eq] at hm
          exact hm.1
        rw [lastP_none (h1 ▸ unS_noF he hs)]
        rfl
theorem settleL_getD (ls : List (List Value)) (q : Nat) (p : List Value) (pg : Nat) : ((settleL ls q p)[pg]?).getD zpg = if q = pg then p else (ls[pg]?).getD zpg := by
  unfold settleL
  by_cases h : q = pg
  · subst h
    rw [if_pos rfl, List.getElem?_set_self (by simp; omega)]
    rfl
  · rw [if_neg h, List.getElem?_set_ne h]
    by_cases h1 : pg < ls.length
    · rw [List.getElem?_append_left h1]
    · rw [List.getElem?_append_right (by omega), List.getElem?_replicate, List.getElem?_eq_none (by omega)]
      split <;> rfl
theorem settle_get (f pg : Nat) (L : List (Nat × Nat × List Value)) : ((settleAll f [] L)[pg]?).getD zpg = (lastP f pg L).getD zpg := by
  induction L using snoc_ind with
  | h0 => rfl
  | h1 l e ih =>
    rw [settleAll_snoc, lastP_snoc]
    by_cases h : e.1 = f
    · rw [if_pos h, settleL_getD, ih]
      by_cases h2 : e.2.1 = pg
      · rw [if_pos h2, if_pos (by simp [hitC, h, h2])]
        rfl
      · rw [if_neg h2, if_neg (by simp [hitC, h2])]
    · rw [if_neg h, if_neg (by simp [hitC, h]), ih]
theorem settle_len (f : Nat) (L : List (Nat × Nat × List Value × Bool)) : (settleAll f [] (L.map strip)).length = maxPg f L := by
  induction L using snoc_ind with
  | h0 => rfl
  | h1 l e ih =>
    rw [List.map_append, List.map_singleton, settleAll_snoc, maxPg_snoc]
    show (if e.1 = f then settleL _ e.2.1 e.2.2.1 else _).length = _
    by_cases h : e.1 = f
    · rw [if_pos h, settleL_len, ih]
      split <;> omega
    · rw [if_neg h, if_neg (fun h0 => h h0.1), ih]
theorem settleAll_noF {f : Nat} {X : List (List Value)} {L : List (Nat × Nat × List Value)} (h : ∀ c ∈ L, c.1 ≠ f) : settleAll f X L = X := by
  unfold settleAll
  rw [List.filter_eq_nil_iff.2 (fun c hc => by simpa using h c hc)]
  rfl

/-! ### The bit -/
theorem bit_same (keep : Int) (h0 : 0 ≤ keep) (h1 : keep ≤ 18446744073709551615) (i : Nat) : bitA keep i = bitB keep i := by
  obtain ⟨n, rfl⟩ := Int.eq_ofNat_of_zero_le h0
  have hi : i % 64 < 64 := Nat.mod_lt _ (by omega)
  have hp : 2 ^ (i % 64) < 18446744073709551616 := Nat.lt_of_lt_of_eq (Nat.pow_lt_pow_right (by omega) hi) (by rfl)
  have hn : n < 18446744073709551616 := by omega
  have e1 : ((n : Int) / 2 ^ (i % 64)) = ((n / 2 ^ (i % 64) : Nat) : Int) := by simp
  have e2 : IntKind.u64.wrap (2 ^ (i % 64)) = ((2 ^ (i % 64) : Nat) : Int) := by
    have : ((2 : Int) ^ (i % 64)) = ((2 ^ (i % 64) : Nat) : Int) := by simp
    rw [this]
    generalize 2 ^ (i % 64) = m at *
    simp only [IntKind.wrap, IntKind.bits, IntKind.signed]
    simp
    omega
  unfold bitA bitB
  rw [e1, e2, show (1 : Int) = ((1 : Nat) : Int) by rfl, bits_and_u64_nat _ _ (Nat.lt_of_le_of_lt (Nat.div_le_self _ _) hn) (by omega), bits_and_u64_nat _ _ hn hp]
  have t1 : (n / 2 ^ (i % 64)) &&& 1 = (n.testBit (i % 64)).toNat := by
    rw [Nat.and_one_is_mod]
    simp [Nat.testBit, Nat.shiftRight_eq_div_pow]
    rcases Nat.mod_two_eq_zero_or_one (n / 2 ^ (i % 64)) with h | h <;> simp [h]
  rw [t1]
  generalize hj : i % 64 = j at *
  cases ht : n.testBit j with
  | false =>
    have e : n &&& 2 ^ j = 0 := by
      apply Nat.eq_of_testBit_eq
      intro k
      rw [Nat.testBit_and, Nat.testBit_two_pow, Nat.zero_testBit]
      by_cases hk : j = k
      · subst hk
        simp [ht]
      · simp [hk]
    rw [e]
    rfl
  | true =>
    have e : n &&& 2 ^ j ≠ 0 := fun h => by
      have h2 : (n &&& 2 ^ j).testBit j = true := by
        rw [Nat.testBit_and, Nat.testBit_two_pow, ht]
        simp
      rw [h, Nat.zero_testBit] at h2
      cases h2
    have e3 : (((n &&& 2 ^ j : Nat) : Int) == 0) = false := beq_eq_false_iff_ne.2 (by omega)
    rw [e3]
    rfl
end Go.Proofs.Ygdacg
