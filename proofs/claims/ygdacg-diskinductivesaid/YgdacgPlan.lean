/-
  A REGION THAT DRAWS ITS ORDER, WALKED IN ONE PLANNED ORDER: the quiet operations first (each yields one value in every world that may stand when it comes up), then the others, each of which is forced.
  No program in sight: plain laws over the kit's 'wpAny'.
-/
import Derived.OrdersHeld
import Derived.Tactics
import Derived.Laws.World
namespace Go.Proofs.Ygdacg
open Go
set_option linter.unusedVariables false
set_option linter.unusedSimpArgs false

section
variable {P : Program} {ops : Array Oper} {Q : Exit → Act → World → Prop}

/-- Whatever order is picked; T, which may look at what has come up, holds behind each operation. -/
def wpAnyT (P : Program) (ops : Array Oper) (Q : Exit → Act → World → Prop) (T : Array Bool → World → Prop) : Nat → Array Bool → Act → World → Prop
  | 0, L, a, w => Region.ready .any ops L = [] ∧ Q .normal a w
  | n + 1, L, a, w =>
    (Region.ready .any ops L = [] → Q .normal a w) ∧
    ∀ i ∈ Region.ready .any ops L, wpOp P ops Q i (fun a' w' => T (L.setIfInBounds i true) w' ∧ wpAnyT P ops Q T n (L.setIfInBounds i true) a' w') a w

theorem wpAny_of_wpAnyT {T : Array Bool → World → Prop} : ∀ (n : Nat) (L : Array Bool) (a : Act) (w : World), wpAnyT P ops Q T n L a w → wpAny P .any ops Q n L a w
  | 0, _, _, _, h => h
  | n + 1, _, _, _, h => ⟨h.1, fun i hi => wpOp_mono (fun a' w' h' => wpAny_of_wpAnyT n _ a' w' h'.2) (h.2 i hi)⟩

/-- What has come up has all that it waits for behind it. -/
def Shut (ops : Array Oper) (L : Array Bool) : Prop :=
  ∀ (j : Nat) (oj : Oper), ops[j]? = some oj → L.getD j false = true → ∀ e ∈ oj.after, Region.binds .any e = true → L.getD e.on false = true

theorem Shut.start (ops : Array Oper) (n : Nat) : Shut ops (Array.replicate n false) := by
  intro j oj _ h
  exfalso
  by_cases hj : j < n
  · simp [hj] at h
  · simp [Array.getElem?_eq_none, hj] at h

theorem getD_set_cases {L : Array Bool} {i j : Nat} (h : (L.setIfInBounds i true).getD j false = true) : j = i ∨ L.getD j false = true := by
  by_cases hij : i = j
  · exact .inl hij.symm
  · rw [getD_set_ne false hij] at h
    exact .inr h

theorem Shut.set {L : Array Bool} {i : Nat} (h : Shut ops L) (hi : i ∈ Region.ready .any ops L) : Shut ops (L.setIfInBounds i true) := by
  intro j oj hj hl e he hb
  obtain ⟨_, oi, hoi, hall⟩ := mem_ready.1 hi
  rcases getD_set_cases hl with rfl | hl
  · rw [hoi] at hj
    obtain rfl := Option.some.inj hj
    exact getD_set_true (hall e he hb)
  · exact getD_set_true (h j oj hj hl e he hb)

/-- j is i, or waits for it over some road. -/
def reachB (ops : Array Oper) : Nat → Nat → Nat → Bool
  | 0, i, j => i == j
  | n + 1, i, j => i == j || match ops[j]? with
    | some o => o.after.any fun e => Region.binds .any e && reachB ops n i e.on
    | none => false

theorem reachB_listed {L : Array Bool} (hs : Shut ops L) : ∀ (n i j : Nat), reachB ops n i j = true → L.getD j false = true → L.getD i false = true
  | 0, i, j, h, hl => by
    simp [reachB] at h
    subst h
    exact hl
  | n + 1, i, j, h, hl => by
    simp only [reachB, Bool.or_eq_true, beq_iff_eq] at h
    rcases h with rfl | h
    · exact hl
    · cases ho : ops[j]? with
      | none => simp [ho] at h
      | some o =>
        simp only [ho] at h
        obtain ⟨e, he, hb⟩ := Array.any_eq_true'.1 h
        simp only [Bool.and_eq_true] at hb
        exact reachB_listed hs n i e.on hb.2 (hs j o ho hl e he hb.1)

theorem listed_of_true {L : Array Bool} {i : Nat} (h : L.getD i false = true) : L.getD i true = true := by
  rcases Nat.lt_or_ge i L.size with h' | h'
  · simp [h'] at h ⊢
    exact h
  · simp [Array.getElem?_eq_none h'] at h

/-- An operation that may come up, and yields v in every world that can stand while it has not come up, may be taken first. -/
theorem wpAnyT_first {T : Array Bool → World → Prop} {i : Nat} {oi : Oper} {v : Value} (hi : ops[i]? = some oi) (hsel : Region.noSelect ops = true)
    (hQ : ∀ c a w, Q (.panic c) (a.put oi.dst v) w → Q (.panic c) a w) :
    ∀ (n : Nat) (L : Array Bool) (a : Act) (w : World),
      (∀ j oj, ops[j]? = some oj → j ≠ i → L.getD j true = false → (∀ e ∈ oj.after, Region.binds .any e = true → e.on ≠ i) → oi.apart ops oj = true) →
      Shut ops L → i ∈ Region.ready .any ops L →
      YieldsIf P ops (fun w' => ∃ L', Shut ops L' ∧ L'.getD i true = false ∧ T L' w') oi v a → T L w →
      (∀ L' w', T (L'.setIfInBounds i true) w' ↔ T L' w') →
      wpAnyT P ops Q T n (L.setIfInBounds i true) (a.put oi.dst v) w → wpAnyT P ops Q T (n + 1) L a w := by
  intro n
  induction n with
  | zero =>
    intro L a w _ hsh hr hy hT hTi H
    have hun := (mem_ready.1 hr).1
    refine ⟨fun h => (by rw [h] at hr; cases hr), fun j hj => ?_⟩
    by_cases hji : j = i
    · subst hji
      exact hy.wpOp hi ⟨L, hsh, hun, hT⟩ ⟨(hTi L w).2 hT, H⟩
    · have := ready_mono hj hji
      rw [H.1] at this
      cases this
  | succ n ih =>
    intro L a w hfree hsh hr hy hT hTi H
    have hun := (mem_ready.1 hr).1
    refine ⟨fun h => (by rw [h] at hr; cases hr), fun j hj => ?_⟩
    by_cases hji : j = i
    · subst hji
      exact hy.wpOp hi ⟨L, hsh, hun, hT⟩ ⟨(hTi L w).2 hT, H⟩
    · have h1 := H.2 j (ready_mono hj hji)
      obtain ⟨hjun, oj, hoj, hall⟩ := mem_ready.1 hj
      have hnot : ∀ e ∈ oj.after, Region.binds .any e = true → e.on ≠ i := fun e he hb heq => by
        have h2 := listed_of_true (hall e he hb)
        rw [heq, hun] at h2
        cases h2
      have h2 := wpOp_putIf hoj (hfree j oj hoj hji hjun hnot) (fun cs b => Region.noSelect_spec hsel i oi cs b hi) (fun cs b => Region.noSelect_spec hsel j oj cs b hoj) hQ hy h1
      refine wpOp_mono (fun a' w' h3 => ?_) h2
      obtain ⟨hy3, hT3, hW3⟩ := h3
      have hfree' : ∀ k ok, ops[k]? = some ok → k ≠ i → (L.setIfInBounds j true).getD k true = false →
          (∀ e ∈ ok.after, Region.binds .any e = true → e.on ≠ i) → oi.apart ops ok = true := fun k ok hk hki hku hno => by
        refine hfree k ok hk hki ?_ hno
        by_cases hjk : j = k
        · subst hjk; exact hjun
        · rw [getD_set_ne true hjk] at hku; exact hku
      rw [Array.setIfInBounds_comm _ _ (Ne.symm hji)] at hT3 hW3
      have hT4 := (hTi _ _).1 hT3
      exact ⟨hT4, ih (L.setIfInBounds j true) a' w' hfree' (hsh.set hj) (ready_mono hr (Ne.symm hji)) hy3 hT4 hTi hW3⟩

/-! ### The plan: quiet ones first (flag 2: every loud one waits for it; 1: it looks at memory that S tells of; 0: it looks at no memory), then 'l1' (behind each S holds), then 'l2' (its first waits for all of flag 1) -/
def loudB (ops : Array Oper) : List Nat → Array Bool → Bool
  | [], L => (Region.ready .any ops L).isEmpty
  | l :: rest, L => Region.ready .any ops L == [l] && loudB ops rest (L.setIfInBounds l true)
def preB (ops : Array Oper) (louds : List Nat) (mid : Nat) : List (Nat × Nat) → Array Bool → Bool
  | [], L => loudB ops louds L
  | (e, i) :: rest, L => (Region.ready .any ops L).contains i && Region.free .any ops L i && (e != 1 || reachB ops 6 i mid) && (e != 2 || louds.all (reachB ops 6 i ·)) && !louds.contains i && preB ops louds mid rest (L.setIfInBounds i true)
def planB (ops : Array Oper) (pre : List (Nat × Nat)) (l1 : List Nat) (mid : Nat) (l2 : List Nat) : Bool :=
  Region.noSelect ops && !l1.contains mid && pre.length + (l1 ++ mid :: l2).length == ops.size && preB ops (l1 ++ mid :: l2) mid pre (Array.replicate ops.size false)

/-- The quiet operations, in the plan's order. -/
def wpPre (P : Program) (ops : Array Oper) (w0 : World) (S : World → Prop) (N : Act → Prop) : List (Nat × Nat) → Act → Prop
  | [], a => N a
  | (e, i) :: rest, a => ∃ o, ops[i]? = some o ∧ ∃ v, YieldsIf P ops (fun w' => (e = 2 → w' = w0) ∧ (e = 1 → S w')) o v a ∧ wpPre P ops w0 S N rest (a.put o.dst v)
/-- The first loud ones, one behind the other; behind each S holds. -/
def wpLS (P : Program) (ops : Array Oper) (Q : Exit → Act → World → Prop) (S : World → Prop) (N : Act → World → Prop) : List Nat → Act → World → Prop
  | [], a, w => N a w
  | l :: rest, a, w => wpOp P ops Q l (fun a' w' => S w' ∧ wpLS P ops Q S N rest a' w') a w

section
variable {w0 : World} {S : World → Prop} {N : Act → Prop} {rest : List (Nat × Nat)} {a : Act} {i : Nat} {o : Oper} {v : Value}
theorem wpPre_early (ho : ops[i]? = some o) (hw : Region.wanted o (yielded ops a.tmps) = true) (hy : (execOp a.eval o).run P w0 = .ok (.value v) w0) (h : wpPre P ops w0 S N rest (a.put o.dst v)) :
    wpPre P ops w0 S N ((2, i) :: rest) a :=
  ⟨o, ho, v, .inl ⟨hw, fun w' hw' => by rw [hw'.1 rfl]; exact hy⟩, h⟩
theorem wpPre_held (ho : ops[i]? = some o) (hw : Region.wanted o (yielded ops a.tmps) = true) (hy : ∀ w', S w' → (execOp a.eval o).run P w' = .ok (.value v) w') (h : wpPre P ops w0 S N rest (a.put o.dst v)) :
    wpPre P ops w0 S N ((1, i) :: rest) a :=
  ⟨o, ho, v, .inl ⟨hw, fun w' hw' => hy w' (hw'.2 rfl)⟩, h⟩
theorem wpPre_free (ho : ops[i]? = some o) (hw : Region.wanted o (yielded ops a.tmps) = true) (hy : ∀ w', (execOp a.eval o).run P w' = .ok (.value v) w') (h : wpPre P ops w0 S N rest (a.put o.dst v)) :
    wpPre P ops w0 S N ((0, i) :: rest) a :=
  ⟨o, ho, v, .inl ⟨hw, fun w' _ => hy w'⟩, h⟩
theorem wpPre_skip {e : Nat} (ho : ops[i]? = some o) (hw : Region.wanted o (yielded ops a.tmps) = false) (h : wpPre P ops w0 S N rest (a.put o.dst undef)) :
    wpPre P ops w0 S N ((e, i) :: rest) a :=
  ⟨o, ho, undef, .inr ⟨hw, rfl⟩, h⟩
theorem wpPre_done (h : N a) : wpPre P ops w0 S N [] a := h
end

section
variable {S : World → Prop} {N : Act → World → Prop} {rest : List Nat} {a : Act} {w : World} {l : Nat} {o : Oper}
theorem wpLS_cons (ho : ops[l]? = some o) (hw : Region.wanted o (yielded ops a.tmps) = true) (h : ∀ K : Act → World → Prop, (∀ a' w', S w' → wpLS P ops Q S N rest a' w' → K a' w') → o.wp P a w K Q) :
    wpLS P ops Q S N (l :: rest) a w := by
  unfold wpLS wpOp
  simp only [ho, hw, if_true]
  exact .inl (h _ fun a' w' hs hr => ⟨hs, hr⟩)
theorem wpLS_done (h : N a w) : wpLS P ops Q S N [] a w := h
end

/-- What stands behind each operation of the plan. -/
def planT (w0 : World) (S : World → Prop) (louds : List Nat) (mid : Nat) (L : Array Bool) (w : World) : Prop :=
  ((∀ l ∈ louds, L.getD l false = false) → w = w0) ∧ (L.getD mid false = false → S w)

theorem planT_set {w0 : World} {S : World → Prop} {louds : List Nat} {mid i : Nat} (hi : louds.contains i = false) (hm : mid ∈ louds) (L : Array Bool) (w : World) :
    planT w0 S louds mid (L.setIfInBounds i true) w ↔ planT w0 S louds mid L w := by
  have h1 : ∀ l ∈ louds, (L.setIfInBounds i true).getD l false = L.getD l false := fun l hl => getD_set_ne false (fun e => by subst e; simp at hi; exact hi hl)
  have h2 := h1 mid hm
  unfold planT
  rw [h2]
  constructor
  · rintro ⟨g1, g2⟩
    exact ⟨fun g => g1 fun l hl => (h1 l hl).trans (g l hl), g2⟩
  · rintro ⟨g1, g2⟩
    exact ⟨fun g => g1 fun l hl => (h1 l hl).symm.trans (g l hl), g2⟩

theorem getD_set_self {L : Array Bool} {i : Nat} (h : L.getD i true = false) : (L.setIfInBounds i true).getD i false = true := by
  have hlt : i < L.size := by
    rcases Nat.lt_or_ge i L.size with h' | h'
    · exact h'
    · simp [Array.getElem?_eq_none h'] at h
  simp [hlt]

/-- The last loud ones: nothing is kept. -/
theorem late_sound {w0 : World} {S : World → Prop} {louds : List Nat} {mid : Nat} : ∀ (ls : List Nat) (lo : List Oper) (n : Nat) (L : Array Bool) (a : Act) (w : World),
    (∀ l ∈ ls, l ∈ louds) → (L.getD mid false = true ∨ ls.head? = some mid) → ls.map (fun i => ops[i]?) = lo.map some → n = ls.length → loudB ops ls L = true → wpList P ops Q lo a w → wpAnyT P ops Q (planT w0 S louds mid) n L a w
  | [], [], n, L, a, w, _, _, _, hn, hB, h => by
    subst hn
    exact ⟨by simpa [loudB] using hB, h⟩
  | [], _ :: _, _, _, _, _, _, _, he, _, _, _ => by cases he
  | _ :: _, [], _, _, _, _, _, _, he, _, _, _ => by cases he
  | l :: ls, o :: lo, n, L, a, w, hin, hmid, he, hn, hB, h => by
    subst hn
    simp only [loudB, Bool.and_eq_true, beq_iff_eq] at hB
    simp only [List.map_cons, List.cons.injEq] at he
    refine ⟨fun h0 => (by rw [hB.1] at h0; cases h0), fun i hi => ?_⟩
    have hun := (mem_ready.1 hi).1
    rw [hB.1] at hi
    obtain rfl : i = l := by simpa using hi
    have hmid' : (L.setIfInBounds i true).getD mid false = true := by
      rcases hmid with hm | hm
      · exact getD_set_true hm
      · obtain rfl : i = mid := by simpa using hm
        exact getD_set_self hun
    have hk : ∀ a' w', wpList P ops Q lo a' w' → (planT w0 S louds mid (L.setIfInBounds i true) w' ∧ wpAnyT P ops Q (planT w0 S louds mid) ls.length (L.setIfInBounds i true) a' w') := fun a' w' h' => by
      refine ⟨⟨fun g => ?_, fun g => by rw [hmid'] at g; cases g⟩, late_sound ls lo ls.length _ a' w' (fun l hl => hin l (by simp [hl])) (.inl hmid') he.2 rfl hB.2 h'⟩
      have := g i (hin i (by simp))
      rw [getD_set_self hun] at this
      cases this
    simp only [wpList] at h
    unfold wpOp
    simp only [he.1]
    split
    · rename_i hw
      rw [if_pos hw] at h
      exact h.imp (Oper.wp_mono hk) id
    · rename_i hw
      rw [if_neg hw] at h
      exact hk _ _ h

theorem loud_sound {w0 : World} {S : World → Prop} {louds l2 : List Nat} {mid : Nat} {lo : List Oper} (he : (mid :: l2).map (fun i => ops[i]?) = lo.map some) (h2 : ∀ l ∈ mid :: l2, l ∈ louds) : ∀ (ls : List Nat) (n : Nat) (L : Array Bool) (a : Act) (w : World),
    (∀ l ∈ ls, l ∈ louds) → n = (ls ++ mid :: l2).length → loudB ops (ls ++ mid :: l2) L = true → wpLS P ops Q S (fun a w => wpList P ops Q lo a w) ls a w → wpAnyT P ops Q (planT w0 S louds mid) n L a w
  | [], n, L, a, w, _, hn, hB, h => late_sound (mid :: l2) lo n L a w h2 (.inr rfl) he hn hB h
  | l :: ls, n, L, a, w, hin, hn, hB, h => by
    subst hn
    simp only [List.cons_append, loudB, Bool.and_eq_true, beq_iff_eq] at hB
    refine ⟨fun h0 => (by rw [hB.1] at h0; cases h0), fun i hi => ?_⟩
    have hun := (mem_ready.1 hi).1
    rw [hB.1] at hi
    obtain rfl : i = l := by simpa using hi
    refine wpOp_mono (fun a' w' h' => ⟨⟨fun g => ?_, fun g => h'.1⟩, ?_⟩) h
    · have := g i (hin i (by simp))
      rw [getD_set_self hun] at this
      cases this
    · exact loud_sound he h2 ls _ _ a' w' (fun l hl => hin l (by simp [hl])) rfl hB.2 h'.2

theorem pre_sound {w0 : World} {S : World → Prop} {l1 l2 : List Nat} {mid : Nat} {lo : List Oper} (he : (mid :: l2).map (fun i => ops[i]?) = lo.map some) (hsel : Region.noSelect ops = true)
    (hQ : ∀ c a d v w, Q (.panic c) (a.put d v) w → Q (.panic c) a w) : ∀ (pre : List (Nat × Nat)) (n : Nat) (L : Array Bool) (a : Act),
    n = pre.length + (l1 ++ mid :: l2).length → Shut ops L → planT w0 S (l1 ++ mid :: l2) mid L w0 → preB ops (l1 ++ mid :: l2) mid pre L = true →
    wpPre P ops w0 S (fun a' => wpLS P ops Q S (fun a w => wpList P ops Q lo a w) l1 a' w0) pre a → wpAnyT P ops Q (planT w0 S (l1 ++ mid :: l2) mid) n L a w0
  | [], n, L, a, hn, _, _, hB, h => loud_sound he (fun l hl => List.mem_append_right _ hl) l1 n L a w0 (fun l hl => List.mem_append_left _ hl) (by simpa using hn) hB h
  | (e, i) :: pre, n, L, a, hn, hsh, hT, hB, h => by
    obtain ⟨o, ho, v, hy, hrest⟩ := h
    simp only [preB, Bool.and_eq_true, Bool.or_eq_true, Bool.not_eq_true', bne_iff_ne] at hB
    obtain ⟨⟨⟨⟨⟨hr, hf⟩, hre⟩, hea⟩, hnl⟩, hB'⟩ := hB
    have hr' : i ∈ Region.ready .any ops L := by simpa using hr
    obtain ⟨m, rfl⟩ : ∃ m, n = m + 1 := ⟨pre.length + (l1 ++ mid :: l2).length, by simp only [List.length_cons] at hn; omega⟩
    have hTi := planT_set (w0 := w0) (S := S) (mid := mid) hnl (by simp)
    refine wpAnyT_first ho hsel (fun c a w => hQ c a o.dst v w) m L a w0 (Region.free_spec ho hf) hsh hr' ?_ hT hTi
      (pre_sound he hsel hQ pre m _ _ (by simp only [List.length_cons] at hn; omega) (hsh.set hr') ((hTi L w0).2 hT) hB' hrest)
    have hc : ∀ w', (∃ L', Shut ops L' ∧ L'.getD i true = false ∧ planT w0 S (l1 ++ mid :: l2) mid L' w') → (e = 2 → w' = w0) ∧ (e = 1 → S w') := by
      rintro w' ⟨L', hs', hu', ht1, ht2⟩
      have key : ∀ l, reachB ops 6 i l = true → L'.getD l false = false := fun l hl => by
        cases hq : L'.getD l false with
        | false => rfl
        | true =>
          have := listed_of_true (reachB_listed hs' 6 i l hl hq)
          rw [hu'] at this
          cases this
      refine ⟨fun h2 => ht1 fun l hl => key l ?_, fun h1 => ht2 (key mid ?_)⟩
      · rcases hea with h0 | h0
        · exact absurd h2 h0
        · exact List.all_eq_true.1 h0 l hl
      · rcases hre with h0 | h0
        · exact absurd h1 h0
        · exact h0
    rcases hy with ⟨hw, hv⟩ | hy
    · exact .inl ⟨hw, fun w' h' => hv w' (hc w' h')⟩
    · exact .inr hy

/-- Q, with no way out by a panic: so that what Q says of the frame there need not be looked at. -/
def NP (Q : Exit → Act → World → Prop) : Exit → Act → World → Prop
  | .panic _, _, _ => False
  | e, a, w => Q e a w
theorem NP.at_normal {a : Act} {w : World} (h : Q .normal a w) : NP Q .normal a w := h
theorem NP.weaken : ∀ (e : Exit) (a : Act) (w : World), NP Q e a w → Q e a w := fun e a w h => by
  cases e <;> first | exact h | exact (h : False).elim

/-- **THE PLAN**: a region that draws its order, in a program under 'wide'. -/
theorem wp_region_plan {id : Nat} {a : Act} {w : World} (S : World → Prop) (pre : List (Nat × Nat)) (l1 : List Nat) (mid : Nat) (l2 : List Nat) (lo : List Oper) (hm : P.follows .mixedOrders = true)
    (hB : planB ops pre l1 mid l2 = true) (he : (mid :: l2).map (fun i => ops[i]?) = lo.map some) (hS : S w.drew)
    (h : wpPre P ops w.drew S (fun a' => wpLS P ops (NP Q) S (fun a w => wpList P ops (NP Q) lo a w) l1 a' w.drew) pre a) : (Code.region id ops true).wp P Q a w := by
  simp only [planB, Bool.and_eq_true, beq_iff_eq] at hB
  obtain ⟨⟨⟨hsel, hmid⟩, hlen⟩, hB⟩ := hB
  refine Code.wp_mono NP.weaken ?_
  exact wp_region_any hm (wpAny_of_wpAnyT (T := planT w.drew S (l1 ++ mid :: l2) mid) _ _ _ _ (pre_sound he hsel (fun _ _ _ _ _ h => h) pre _ _ a hlen.symm (Shut.start ops _) ⟨fun _ => rfl, fun _ => hS⟩ hB h))
end
end Go.Proofs.Ygdacg
