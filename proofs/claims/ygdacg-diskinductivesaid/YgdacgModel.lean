/-
  THE PLAIN MODEL IN MEMORY; size, cached, count.
-/
import Derived.Test.YgdacgPlan2
namespace Go.Proofs.Ygdacg
open Go.RowKit
set_option linter.unusedVariables false
set_option linter.unusedSimpArgs false
attribute [local simp] zero61 zero82

/-- The model's content: the writes (file, page's number, page, synced), the count, the death, dead. -/
structure MS where
  ws : List (Nat × Nat × List Value × Bool)
  calls : Int
  at_ : Int
  dead : Bool
structure MOK (M : MS) : Prop where
  pc : ∀ e ∈ M.ws, IsPg e.2.2.1 ∧ e.1 < 2 ∧ e.2.1 < 1024
  at1 : M.at_ ≤ 9223372036854775807
  at0 : -9223372036854775808 ≤ M.at_
  calls1 : M.calls ≤ 9223372036854775807
  calls0 : -9223372036854775808 ≤ M.calls
structure ModIs (w : World) (F : Nat → Prop) (m : Nat) (vw : Value) (M : MS) : Prop where
  ok : MOK M
  fp : ∀ k, F k → k < w.heap.size
  fb : F m
  blk : World.blk w m 59 [vw, .int .i64 M.calls, .int .i64 M.at_, .bool M.dead]
  rw : w.ownsRow 0 82 131 vw M.ws.length (M.ws.map mwc).flatten
  fw : ∀ k, vw.ownBlock = some k → F k ∧ k ≠ m
def ModAt (w : World) (F : Nat → Prop) (m : Nat) (M : MS) : Prop := ∃ vw, ModIs w F m vw M

section
variable {w w' : World} {F G : Nat → Prop} {m : Nat} {vw : Value} {M M' : MS}
theorem ModIs.keep (h : ModIs w F m vw M) (hk : Keep G w w') (hd : ∀ k, F k → ¬ G k) : ModIs w' F m vw M :=
  ⟨h.ok, fun k hF => Nat.lt_of_lt_of_le (h.fp k hF) hk.size, h.fb, blk_keep h.blk hk (hd m h.fb), hk.owns h.rw (fun k hv => hd k (h.fw k hv).1), h.fw⟩
theorem ModAt.keep (h : ModAt w F m M) (hk : Keep G w w') (hd : ∀ k, F k → ¬ G k) : ModAt w' F m M :=
  let ⟨vw, h⟩ := h
  ⟨vw, h.keep hk hd⟩
theorem ModIs.drewN (h : ModIs w F m vw M) (n : Nat) : ModIs (w.drewN n) F m vw M := h.keep ((Keep.refl Non w).drewN n) (fun _ _ h => h)
theorem ModIs.at_ (h : ModIs w F m vw M) : ModAt w F m M := ⟨vw, h⟩
theorem ModIs.cWrites (h : ModIs w F m vw M) : w.cell? ⟨m, 0, none⟩ = some vw := by rw [blk_cell h.blk]; rfl
theorem ModIs.cCalls (h : ModIs w F m vw M) : w.cell? ⟨m, 1, none⟩ = some (.int .i64 M.calls) := by rw [blk_cell h.blk]; rfl
theorem ModIs.cAt (h : ModIs w F m vw M) : w.cell? ⟨m, 2, none⟩ = some (.int .i64 M.at_) := by rw [blk_cell h.blk]; rfl
theorem ModIs.cDead (h : ModIs w F m vw M) : w.cell? ⟨m, 3, none⟩ = some (.bool M.dead) := by rw [blk_cell h.blk]; rfl
/-- The write number k, where it lies. -/
theorem ModIs.elem (h : ModIs w F m vw M) {k : Nat} (hk : k < M.ws.length) : ∃ g cap, vw = .slice (some ⟨g, 0, none⟩) M.ws.length cap ∧ w.rangeAt g (k * 131) (mwc M.ws[k]) := by
  obtain ⟨g, cap, hv, -, -, hr⟩ := owns_elem (ls := M.ws.map mwc) (by simpa using h.rw) (fun q hq => by obtain ⟨e, he, rfl⟩ := List.mem_map.1 hq; exact mwc_len (h.ok.pc e he).1) k (by simpa using hk)
  simp only [List.length_map, List.getElem_map] at hv hr
  exact ⟨g, cap, hv, hr⟩
end

/-- A write is copied into a block of its own: the block is then known whole. -/
theorem wl_store82_new {ops : Array Oper} {rest : List Oper} {o : Oper} {a : Act} {w : World} {Q : Exit → Act → World → Prop} (hgd : o.guard = none) (x y : Operand) (ho : o.op = .store 82 x y) (b : Nat) (cs cs0 : List Value)
    (hx : a.eval x = .pointer (some ⟨b, 0, none⟩)) (hy : a.eval y = .agg cs.toArray) (hl : cs.length = 131) (h1 : ∀ v ∈ cs, v.oneCell' = true) (hb : World.blk w b 82 cs0) (hl0 : cs0.length = 131)
    (h : ∀ w', World.blk w' b 82 cs → Keep (fun k => k = b) w w' → w'.heap.size = w.heap.size → wpList Yacd.prog ops Q rest (a.put o.dst undef) w') : wpList Yacd.prog ops Q (o :: rest) a w :=
  wl_store82 hgd x y ho b 0 cs hx hy hl h1 (blk_there hb _ (by omega)) (h _ (blk_sets_whole hb cs (by omega)) ((Keep.refl _ w).setCells b 0 cs (.inl rfl)) (heap_setCells b cs 0 w).1)
theorem wl_store61_new {ops : Array Oper} {rest : List Oper} {o : Oper} {a : Act} {w : World} {Q : Exit → Act → World → Prop} (hgd : o.guard = none) (x y : Operand) (ho : o.op = .store 61 x y) (b : Nat) (cs cs0 : List Value)
    (hx : a.eval x = .pointer (some ⟨b, 0, none⟩)) (hy : a.eval y = .agg cs.toArray) (hl : cs.length = 128) (h1 : ∀ v ∈ cs, v.oneCell' = true) (hb : World.blk w b 61 cs0) (hl0 : cs0.length = 128)
    (h : ∀ w', World.blk w' b 61 cs → Keep (fun k => k = b) w w' → w'.heap.size = w.heap.size → wpList Yacd.prog ops Q rest (a.put o.dst undef) w') : wpList Yacd.prog ops Q (o :: rest) a w :=
  wl_store61 hgd x y ho b 0 cs hx hy hl h1 (blk_there hb _ (by omega)) (h _ (blk_sets_whole hb cs (by omega)) ((Keep.refl _ w).setCells b 0 cs (.inl rfl)) (heap_setCells b cs 0 w).1)
theorem mwc_zero_len : (mwc (0, 0, zpg, false)).length = 131 := mwc_len (e := (0, 0, zpg, false)) zpg_is

/-! ### size -/
def maxPg (f : Nat) (ws : List (Nat × Nat × List Value × Bool)) : Nat := ws.foldl (fun n e => if e.1 = f ∧ n < e.2.1 + 1 then e.2.1 + 1 else n) 0
theorem maxPg_snoc (f : Nat) (ws : List (Nat × Nat × List Value × Bool)) (e : Nat × Nat × List Value × Bool) : maxPg f (ws ++ [e]) = if e.1 = f ∧ maxPg f ws < e.2.1 + 1 then e.2.1 + 1 else maxPg f ws := by
  unfold maxPg
  rw [List.foldl_append]
  rfl
theorem foldl_maxPg_le (f B : Nat) : ∀ (ws : List (Nat × Nat × List Value × Bool)) (n : Nat), n ≤ B → (∀ e ∈ ws, e.2.1 < B) → ws.foldl (fun n e => if e.1 = f ∧ n < e.2.1 + 1 then e.2.1 + 1 else n) n ≤ B
  | [], n, hn, _ => hn
  | e :: ws, n, hn, h => by
    rw [List.foldl_cons]
    refine foldl_maxPg_le f B ws _ ?_ (fun x hx => h x (by simp [hx]))
    have := h e (by simp)
    split <;> omega
theorem maxPg_le {f B : Nat} {ws : List (Nat × Nat × List Value × Bool)} (h : ∀ e ∈ ws, e.2.1 < B) : maxPg f ws ≤ B := foldl_maxPg_le f B ws 0 (Nat.zero_le _) h
def sizeM (M : MS) (f : Nat) : Nat := if M.dead || decide (1 < f) then 0 else maxPg f M.ws
theorem take_snoc {α : Type} (l : List α) (k : Nat) (h : k < l.length) : l.take (k + 1) = l.take k ++ [l[k]] := by rw [List.take_succ_eq_append_getElem h]

section
variable {w w' : World} {F G : Nat → Prop} {m : Nat} {vw : Value} {M M' : MS}
set_option maxRecDepth 100000 in
set_option maxHeartbeats 400000 in
theorem sizeM_any (h : ModAt w F m M) (f : Nat) (hlen : M.ws.length ≤ 4096) :
    Calls Yacd.prog 20 #[.pointer (some ⟨m, 0, none⟩), .int .u8 f] w fun e w' => e = .returned (.int .u16 (sizeM M f)) ∧ Keep Non w w' := by
  obtain ⟨vw, h⟩ := h
  have cd := h.cDead
  cases hd : M.dead with
  | true =>
    have e : sizeM M f = 0 := by simp [sizeM, hd]
    rw [e]
    rw [hd] at cd
    go_enter Yacd.func20, Yacd.ntmps20
    go_wp2
    go_ret
    exact ⟨rfl, Keep.refl _ _⟩
  | false =>
    rw [hd] at cd
    by_cases hf : 1 < f
    · have e : sizeM M f = 0 := by simp [sizeM, hf]
      rw [e]
      have hf' : (1 : Int) < (f : Int) := by omega
      go_enter Yacd.func20, Yacd.ntmps20
      go_wp2
      go_ret
      exact ⟨rfl, Keep.refl _ _⟩
    · have e : sizeM M f = maxPg f M.ws := by simp [sizeM, hd, hf]
      rw [e]
      have hf' : (f : Int) ≤ 1 := by omega
      have hd1 : decide ((1 : Int) < (f : Int)) = false := decide_eq_false (by omega)
      have cw := h.cWrites
      obtain ⟨ao, cap, hv, -, -⟩ := owns_slice h.rw
      subst hv
      have hlen' : (M.ws.length : Int) ≤ 4096 := by omega
      clear e
      go_enter Yacd.func20, Yacd.ntmps20
      go_wp2_with fail
      go_loopg [5, 21] M.ws.length (fun q n i wr => ∃ k : Nat, k + q = M.ws.length ∧ i = .int .i64 k ∧ n = .int .u16 (maxPg f (M.ws.take k)) ∧ Keep Non w wr)
      case atStart => exact ⟨0, by omega, rfl, rfl, Keep.refl _ _⟩
      case round =>
        obtain ⟨k, hkq, rfl, rfl, hK⟩ := hrel
        by_cases hk : k < M.ws.length
        · have hk' : (k : Int) < (M.ws.length : Int) := by omega
          obtain ⟨g, cap', hv, hrange⟩ := (h.keep hK (fun _ _ e => e)).elem hk
          simp only [Value.slice.injEq, true_and] at hv
          obtain ⟨rfl, rfl⟩ := hv
          have hE := h.ok.pc _ (List.getElem_mem hk)
          go_wp2_with (first | (refine wl_load82 rfl _ rfl _ _ rfl (mwc M.ws[k]) (mwc_len hE.1) hrange ?_) | (refine wl_store82_new rfl _ _ rfl wr.heap.size (mwc M.ws[k]) (mwc (0, 0, zpg, false)) rfl rfl (mwc_len hE.1) (mwc_one hE.1) (blk_new _ _ _) mwc_zero_len ?_))
          intro w1 hb1 hk1 hs1
          have c0 : w1.cell? ⟨wr.heap.size, 0, none⟩ = some (.int .u8 M.ws[k].1) := by rw [blk_cell hb1]; rfl
          have c1 : w1.cell? ⟨wr.heap.size, 1, none⟩ = some (.int .u16 M.ws[k].2.1) := by rw [blk_cell hb1]; rfl
          have hpg : (M.ws[k].2.1 : Int) < 1024 := by have := hE.2.2; omega
          have hK1 : Keep Non w w1 := hK.trans (((Keep.refl _ wr).alloc _).trans_same hk1) (fun j e hlt => by have := hK.size; omega)
          have Hs : Hid (maxPg f (M.ws.take (k + 1)) = if M.ws[k].1 = f ∧ maxPg f (M.ws.take k) < M.ws[k].2.1 + 1 then M.ws[k].2.1 + 1 else maxPg f (M.ws.take k)) := by
            rw [take_snoc _ _ hk]
            exact maxPg_snoc f _ _
          clear hrange hk1 hs1 hb1 hK
          by_cases hf1 : M.ws[k].1 = f
          · have hb1 : ((M.ws[k].1 : Int) == (f : Int)) = true := beq_iff_eq.2 (by omega)
            by_cases hn : maxPg f (M.ws.take k) < M.ws[k].2.1 + 1
            · have hn' : (maxPg f (M.ws.take k) : Int) < (M.ws[k].2.1 : Int) + 1 := by omega
              go_wp2_with fail
              go_roundg (gk - 1)
              case measure => omega
              case rel => exact ⟨k + 1, by omega, by go_num, by rw [Hs.out, if_pos ⟨hf1, hn⟩]; go_num, hK1⟩
            · have hn' : decide ((maxPg f (M.ws.take k) : Int) < (M.ws[k].2.1 : Int) + 1) = false := decide_eq_false (by omega)
              have hn2 : ¬ (maxPg f (M.ws.take k) : Int) < (M.ws[k].2.1 : Int) + 1 := by omega
              go_wp2_with fail
              go_roundg (gk - 1)
              case measure => omega
              case rel => exact ⟨k + 1, by omega, by go_num, by rw [Hs.out, if_neg (fun h0 => hn h0.2)], hK1⟩
          · have hb1 : ((M.ws[k].1 : Int) == (f : Int)) = false := beq_eq_false_iff_ne.2 (by omega)
            go_wp2_with fail
            go_roundg (gk - 1)
            case measure => omega
            case rel => exact ⟨k + 1, by omega, by go_num, by rw [Hs.out, if_neg (fun h0 => hf1 h0.1)], hK1⟩
        · obtain rfl : k = M.ws.length := by omega
          rw [List.take_of_length_le (Nat.le_refl _)]
          go_wp2_with fail
          go_ret
          exact ⟨rfl, hK⟩

/-! ### cached -/
def cachedL (ws : List (Nat × Nat × List Value × Bool)) : Nat := (ws.filter (fun e => !e.2.2.2)).length
theorem cachedL_snoc (ws : List (Nat × Nat × List Value × Bool)) (e : Nat × Nat × List Value × Bool) : cachedL (ws ++ [e]) = cachedL ws + if e.2.2.2 then 0 else 1 := by
  unfold cachedL
  rw [List.filter_append, List.length_append]
  cases h : e.2.2.2 <;> simp [h]
theorem cachedL_le (ws : List (Nat × Nat × List Value × Bool)) : cachedL ws ≤ ws.length := List.length_filter_le _ _
set_option maxRecDepth 100000 in
set_option maxHeartbeats 400000 in
theorem cachedM_any (h : ModAt w F m M) (hlen : M.ws.length ≤ 4096) :
    Calls Yacd.prog 32 #[.pointer (some ⟨m, 0, none⟩)] w fun e w' => e = .returned (.int .i64 (cachedL M.ws)) ∧ Keep Non w w' := by
  obtain ⟨vw, h⟩ := h
  have cw := h.cWrites
  obtain ⟨ao, cap, hv, -, -⟩ := owns_slice h.rw
  subst hv
  have hlen' : (M.ws.length : Int) ≤ 4096 := by omega
  go_enter Yacd.func32, Yacd.ntmps32
  go_wp2_with fail
  go_loopg [3, 11] M.ws.length (fun q n i wr => ∃ k : Nat, k + q = M.ws.length ∧ i = .int .i64 k ∧ n = .int .i64 (cachedL (M.ws.take k)) ∧ Keep Non w wr)
  case atStart => exact ⟨0, by omega, rfl, rfl, Keep.refl _ _⟩
  case round =>
    obtain ⟨k, hkq, rfl, rfl, hK⟩ := hrel
    by_cases hk : k < M.ws.length
    · have hk' : (k : Int) < (M.ws.length : Int) := by omega
      obtain ⟨g, cap', hv, hrange⟩ := (h.keep hK (fun _ _ e => e)).elem hk
      simp only [Value.slice.injEq, true_and] at hv
      obtain ⟨rfl, rfl⟩ := hv
      have hE := h.ok.pc _ (List.getElem_mem hk)
      have hcl : (cachedL (M.ws.take k) : Int) ≤ 4096 := by
        have := cachedL_le (M.ws.take k)
        rw [List.length_take] at this
        omega
      go_wp2_with (first | (refine wl_load82 rfl _ rfl _ _ rfl (mwc M.ws[k]) (mwc_len hE.1) hrange ?_) | (refine wl_store82_new rfl _ _ rfl wr.heap.size (mwc M.ws[k]) (mwc (0, 0, zpg, false)) rfl rfl (mwc_len hE.1) (mwc_one hE.1) (blk_new _ _ _) mwc_zero_len ?_))
      intro w1 hb1 hk1 hs1
      have c0 : w1.cell? ⟨wr.heap.size, 130, none⟩ = some (.bool M.ws[k].2.2.2) := by
        rw [blk_cell hb1]
        have := hE.1.len
        simp [mwc, this]
      have hK1 : Keep Non w w1 := hK.trans (((Keep.refl _ wr).alloc _).trans_same hk1) (fun j e hlt => by have := hK.size; omega)
      have Hs : Hid (cachedL (M.ws.take (k + 1)) = cachedL (M.ws.take k) + if M.ws[k].2.2.2 then 0 else 1) := by
        rw [take_snoc _ _ hk]
        exact cachedL_snoc _ _
      clear hrange hk1 hs1 hb1 hK
      cases hb : M.ws[k].2.2.2 with
      | true =>
        rw [hb] at c0
        go_wp2_with fail
        go_roundg (gk - 1)
        case measure => omega
        case rel => exact ⟨k + 1, by omega, by go_num, by rw [Hs.out, hb]; rfl, hK1⟩
      | false =>
        rw [hb] at c0
        go_wp2_with fail
        go_roundg (gk - 1)
        case measure => omega
        case rel => exact ⟨k + 1, by omega, by go_num, by rw [Hs.out, hb]; go_num, hK1⟩
    · obtain rfl : k = M.ws.length := by omega
      rw [List.take_of_length_le (Nat.le_refl _)]
      go_wp2_with fail
      go_ret
      exact ⟨rfl, hK⟩

/-! ### count -/
/-- Behind a count that goes on: the count is one more; dead if it is the death's. -/
def counted (M : MS) : MS := if M.at_ ≤ 0 then M else { M with calls := M.calls + 1, dead := M.calls + 1 == M.at_ }
def countB (M : MS) : Bool := decide (M.at_ ≤ 0) || (M.calls + 1 != M.at_)
theorem ModIs.reblk (h : ModIs w F m vw M) (hk : Keep (fun k => k = m) w w') (hok : MOK M') (hs : M'.ws = M.ws) (hb : World.blk w' m 59 [vw, .int .i64 M'.calls, .int .i64 M'.at_, .bool M'.dead]) : ModIs w' F m vw M' :=
  ⟨hok, fun k hF => Nat.lt_of_lt_of_le (h.fp k hF) hk.size, h.fb, hb, by rw [hs]; exact hk.owns h.rw (fun k hv => (h.fw k hv).2), h.fw⟩
set_option maxHeartbeats 400000 in
theorem count_cells (m : Nat) (at_ calls : Int) (w : World) (h1 : w.cell? ⟨m, 1, none⟩ = some (.int .i64 calls)) (h2 : w.cell? ⟨m, 2, none⟩ = some (.int .i64 at_)) (h3 : w.cell? ⟨m, 3, none⟩ = some (.bool false))
    (f1 : w.frozen? ⟨m, 1, none⟩ = false) (f3 : w.frozen? ⟨m, 3, none⟩ = false) (h0 : 0 ≤ calls) (hd : calls < at_) (hm : at_ ≤ 9223372036854775807) :
    Calls Yacd.prog 33 #[.pointer (some ⟨m, 0, none⟩)] w fun e w' => e = .returned (.bool (calls + 1 != at_)) ∧
      ((calls + 1 = at_ ∧ ∃ n, w' = ((w.setCell ⟨m, 1, none⟩ (.int .i64 (calls + 1))).setCell ⟨m, 3, none⟩ (.bool true)).drewN n) ∨ (calls + 1 ≠ at_ ∧ ∃ n, w' = (w.setCell ⟨m, 1, none⟩ (.int .i64 (calls + 1))).drewN n)) := by
  have hd1 : decide (at_ ≤ 0) = false := decide_eq_false (by omega)
  have hd2 : ¬ at_ ≤ 0 := by omega
  by_cases he : calls + 1 = at_
  · have hb : (calls + 1 == at_) = true := beq_iff_eq.2 he
    have He : Hid (calls + 1 = at_) := he
    clear he
    go_enter Yacd.func33, Yacd.ntmps33
    go_wp2
    go_quiet (fail)
    go_wp2
    go_ret
    refine ⟨by rw [He.out]; simp, .inl ⟨He.out, nq, rfl⟩⟩
  · have hb : (calls + 1 == at_) = false := beq_eq_false_iff_ne.2 he
    have He : Hid (calls + 1 ≠ at_) := he
    clear he
    go_enter Yacd.func33, Yacd.ntmps33
    go_wp2
    go_quiet (fail)
    go_wp2
    go_ret
    have e : (calls + 1 != at_) = true := by rw [bne_iff_ne]; exact He.out
    refine ⟨by rw [e]; rfl, .inr ⟨He.out, _, rfl⟩⟩
set_option maxHeartbeats 400000 in
theorem count_never (m : Nat) (at_ : Int) (w : World) (h2 : w.cell? ⟨m, 2, none⟩ = some (.int .i64 at_)) (hd : at_ ≤ 0) :
    Calls Yacd.prog 33 #[.pointer (some ⟨m, 0, none⟩)] w fun e w' => e = .returned (.bool true) ∧ w' = w := by
  go_enter Yacd.func33, Yacd.ntmps33
  go_wp2
  go_ret
  exact ⟨rfl, rfl⟩
theorem count_any (h : ModIs w F m vw M) (hnd : M.dead = false) (hl : M.at_ ≤ 0 ∨ (0 ≤ M.calls ∧ M.calls < M.at_)) :
    Calls Yacd.prog 33 #[.pointer (some ⟨m, 0, none⟩)] w fun e w' => e = .returned (.bool (countB M)) ∧ ModIs w' F m vw (counted M) ∧ Keep (fun k => k = m) w w' := by
  rcases hl with hl | ⟨h0, hl⟩
  · refine (count_never m M.at_ w h.cAt hl).mono ?_
    rintro e w' ⟨rfl, rfl⟩
    refine ⟨by simp [countB, hl], ?_, Keep.refl _ _⟩
    simp only [counted, hl, if_true]
    exact h
  · have hn : ¬ M.at_ ≤ 0 := by omega
    have hok := h.ok
    have hm := hok.at1
    refine (count_cells m M.at_ M.calls w h.cCalls h.cAt (by rw [← hnd]; exact h.cDead) (blk_frozen h.blk 1) (blk_frozen h.blk 3) h0 hl hm).mono ?_
    rintro e w' ⟨rfl, hw⟩
    refine ⟨by simp [countB, hn], ?_⟩
    have hc : counted M = { M with calls := M.calls + 1, dead := M.calls + 1 == M.at_ } := by simp [counted, hn]
    rw [hc]
    have hokM : MOK { M with calls := M.calls + 1, dead := M.calls + 1 == M.at_ } := ⟨hok.pc, hok.at1, hok.at0, by show M.calls + 1 ≤ _; omega, by show _ ≤ M.calls + 1; omega⟩
    rcases hw with ⟨he, n, rfl⟩ | ⟨he, n, rfl⟩
    · have hk : Keep (fun k => k = m) w (((w.setCell ⟨m, 1, none⟩ (.int .i64 (M.calls + 1))).setCell ⟨m, 3, none⟩ (.bool true)).drewN n) :=
        (((Keep.refl (fun k => k = m) w).setCell (p := ⟨m, 1, none⟩) _ (.inl rfl)).setCell (p := ⟨m, 3, none⟩) _ (.inl rfl)).drewN n
      refine ⟨h.reblk hk hokM rfl ?_, hk⟩
      have e : (M.calls + 1 == M.at_) = true := beq_iff_eq.2 he
      show World.blk _ m 59 [vw, .int .i64 (M.calls + 1), .int .i64 M.at_, .bool (M.calls + 1 == M.at_)]
      rw [e]
      exact blk_drewN (blk_set (blk_set h.blk 1 _) 3 _) n
    · have hk : Keep (fun k => k = m) w ((w.setCell ⟨m, 1, none⟩ (.int .i64 (M.calls + 1))).drewN n) := ((Keep.refl (fun k => k = m) w).setCell (p := ⟨m, 1, none⟩) _ (.inl rfl)).drewN n
      refine ⟨h.reblk hk hokM rfl ?_, hk⟩
      have e : (M.calls + 1 == M.at_) = false := beq_eq_false_iff_ne.2 he
      show World.blk _ m 59 [vw, .int .i64 (M.calls + 1), .int .i64 M.at_, .bool (M.calls + 1 == M.at_)]
      rw [e]
      have hb := h.blk
      rw [hnd] at hb
      exact blk_drewN (blk_set hb 1 _) n
end
end Go.Proofs.Ygdacg
