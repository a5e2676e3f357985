/-
  (*diskModel).sync.
-/
import Derived.Test.YgdacgModWrite
namespace Go.Proofs.Ygdacg
open Go.RowKit
set_option linter.unusedVariables false
set_option linter.unusedSimpArgs false
attribute [local simp] zero61 zero82

theorem flat_set1 {sz : Nat} {x : Value} : ∀ {ls : List (List Value)} (i j : Nat) (hi : i < ls.length), (∀ y ∈ ls, y.length = sz) → j < sz → (ls.set i (ls[i].set j x)).flatten = ls.flatten.set (i * sz + j) x
  | [], i, _, hi, _, _ => by simp at hi
  | y :: ls, 0, j, _, h, hj => by
    have hy := h y (by simp)
    simp only [List.getElem_cons_zero, List.set_cons_zero, List.flatten_cons, Nat.zero_mul, Nat.zero_add]
    rw [List.set_append_left _ _ (by omega)]
  | y :: ls, i + 1, j, hi, h, hj => by
    have hy := h y (by simp)
    have ih := flat_set1 (x := x) (ls := ls) i j (by simpa using hi) (fun z hz => h z (by simp [hz])) hj
    simp only [List.getElem_cons_succ, List.set_cons_succ, List.flatten_cons]
    rw [ih, List.set_append_right _ _ (by rw [hy, Nat.add_mul]; omega)]
    congr 2
    rw [hy, Nat.add_mul]
    omega

/-- One cell of an owned row's element is written. -/
theorem owns_set1 {w : World} {e : TypeId} {sz g : Nat} {v x : Value} {ls : List (List Value)} {i j : Nat} (h : w.ownsRow 0 e sz v ls.length ls.flatten) (hsz : ∀ y ∈ ls, y.length = sz) (hi : i < ls.length) (hj : j < sz) (hv : v.ownBlock = some g) :
    (w.setCell ⟨g, i * sz + j, none⟩ x).ownsRow 0 e sz v (ls.set i (ls[i].set j x)).length (ls.set i (ls[i].set j x)).flatten ∧ w.frozen? ⟨g, i * sz + j, none⟩ = false := by
  rcases h.2 with ⟨rfl, _⟩ | ⟨g', cap, cur, rfl, hb, hg, hc, hm, hs, ht⟩
  · simp [Value.ownBlock] at hv
  · obtain rfl : g' = g := by simpa [Value.ownBlock] using hv
    have hblk : World.blk w g' e cur.toList := by simpa [World.blk] using hg
    have hset : ∀ y ∈ ls.set i (ls[i].set j x), y.length = sz := fun y hy => by
      rcases List.mem_or_eq_of_mem_set hy with hy | rfl
      · exact hsz y hy
      · rw [List.length_set]
        exact hsz _ (List.getElem_mem hi)
    refine ⟨⟨by rw [flat_len hset], .inr ⟨g', cap, (cur.toList.set (i * sz + j) x).toArray, by simp, hb, blk_set hblk (i * sz + j) x, by simpa using hc, hm, by simp [hs], ?_⟩⟩, blk_frozen hblk _⟩
    rw [flat_set1 i j hi hsz hj, ← ht, List.length_set, List.take_set]

/-- The mark that a sync sets. -/
def markS (f : Nat) (e : Nat × Nat × List Value × Bool) : Nat × Nat × List Value × Bool := if e.1 = f then (e.1, e.2.1, e.2.2.1, true) else e
def mmid (M : MS) (f k : Nat) : MS := { counted M with ws := (M.ws.take k).map (markS f) ++ M.ws.drop k }
def msynced (M : MS) (f : Nat) : MS := { counted M with ws := M.ws.map (markS f) }
theorem markS_pg (f : Nat) (e : Nat × Nat × List Value × Bool) : (markS f e).1 = e.1 ∧ (markS f e).2.1 = e.2.1 ∧ (markS f e).2.2.1 = e.2.2.1 := by unfold markS; split <;> exact ⟨rfl, rfl, rfl⟩
theorem mmid_zero (M : MS) (f : Nat) : mmid M f 0 = counted M := by
  have : (counted M).ws = M.ws := counted_ws M
  unfold mmid
  simp only [List.take_zero, List.map_nil, List.drop_zero, List.nil_append]
  rw [← this]
theorem mmid_len (M : MS) (f k : Nat) (hk : k ≤ M.ws.length) : (mmid M f k).ws.length = M.ws.length := by
  show ((M.ws.take k).map (markS f) ++ M.ws.drop k).length = _
  simp
  omega
theorem mmid_get? (M : MS) (f k : Nat) (hk : k < M.ws.length) : (mmid M f k).ws[k]? = some M.ws[k] := by
  show ((M.ws.take k).map (markS f) ++ M.ws.drop k)[k]? = _
  rw [List.getElem?_append_right (by simp; omega), List.length_map, List.length_take, List.getElem?_drop, show k + (k - min k M.ws.length) = k by omega, List.getElem?_eq_getElem hk]
theorem mmid_get (M : MS) (f k : Nat) (hk : k < M.ws.length) : (mmid M f k).ws[k]'(by rw [mmid_len M f k (by omega)]; exact hk) = M.ws[k] := by
  have h1 := mmid_get? M f k hk
  rw [List.getElem?_eq_getElem (by rw [mmid_len M f k (by omega)]; exact hk)] at h1
  exact Option.some.inj h1
theorem mmid_step (M : MS) (f k : Nat) (hk : k < M.ws.length) : (mmid M f (k + 1)).ws = (mmid M f k).ws.set k (markS f M.ws[k]) := by
  show (M.ws.take (k + 1)).map (markS f) ++ M.ws.drop (k + 1) = ((M.ws.take k).map (markS f) ++ M.ws.drop k).set k (markS f M.ws[k])
  rw [take_snoc _ _ hk, List.map_append, List.set_append_right _ _ (by simp; omega)]
  have e : M.ws.drop k = M.ws[k] :: M.ws.drop (k + 1) := (List.getElem_cons_drop (h := hk)).symm
  rw [e, List.length_map, List.length_take, show k - min k M.ws.length = 0 by omega, List.set_cons_zero, List.append_assoc]
  rfl
theorem mwc_mark (f : Nat) (e : Nat × Nat × List Value × Bool) (hp : IsPg e.2.2.1) (he : e.1 = f) : mwc (markS f e) = (mwc e).set 130 (.bool true) := by
  simp only [markS, he, if_true, mwc, List.set_cons_succ]
  rw [List.set_append_right _ _ (by rw [hp.len]; omega), hp.len]
  rfl

section
variable {w w' : World} {F G : Nat → Prop} {m : Nat} {vw : Value} {M M' : MS}
theorem mmid_ok {f k : Nat} (h : MOK M) (hc : MOK (counted M)) : MOK (mmid M f k) := by
  refine ⟨fun e he => ?_, hc.at1, hc.at0, hc.calls1, hc.calls0⟩
  rcases List.mem_append.1 he with he | he
  · obtain ⟨x, hx, rfl⟩ := List.mem_map.1 he
    have := h.pc x (List.mem_of_mem_take hx)
    obtain ⟨e1, e2, e3⟩ := markS_pg f x
    rw [e1, e2, e3]
    exact this
  · exact h.pc e (List.mem_of_mem_drop he)
/-- One round that marks. -/
theorem ModIs.mark {wr : World} {f k g cap : Nat} (hI : ModIs wr F m vw (mmid M f k)) (hv : vw.ownBlock = some g) (hk : k < M.ws.length) (hE : M.ws[k].1 = f) (hok : MOK M) (hc : MOK (counted M)) :
    ModIs (wr.setCell ⟨g, k * 131 + 130, none⟩ (.bool true)) F m vw (mmid M f (k + 1)) ∧ wr.frozen? ⟨g, k * 131 + 130, none⟩ = false := by
  have hgm := (hI.fw g hv).2
  have hl := mmid_len M f k (by omega)
  have hsz : ∀ y ∈ (mmid M f k).ws.map mwc, y.length = 131 := fun y hy => by
    obtain ⟨e, he, rfl⟩ := List.mem_map.1 hy
    exact mwc_len (hI.ok.pc e he).1
  have hrw : wr.ownsRow 0 82 131 vw ((mmid M f k).ws.map mwc).length ((mmid M f k).ws.map mwc).flatten := by simpa using hI.rw
  have h1 := owns_set1 (x := .bool true) (i := k) (j := 130) hrw hsz (by simp [hl]; exact hk) (by omega) hv
  have e1 : ((mmid M f k).ws.map mwc).set k (((mmid M f k).ws.map mwc)[k]'(by simp [hl]; exact hk) |>.set 130 (.bool true)) = (mmid M f (k + 1)).ws.map mwc := by
    rw [mmid_step M f k hk, List.map_set]
    congr 1
    rw [List.getElem_map, mmid_get M f k hk]
    exact (mwc_mark f _ (hok.pc _ (List.getElem_mem hk)).1 hE).symm
  rw [e1] at h1
  refine ⟨⟨mmid_ok hok hc, fun j hj => ?_, hI.fb, blk_set_other hI.blk (fun e => hgm e.symm) _, ?_, hI.fw⟩, h1.2⟩
  · simpa using hI.fp j hj
  · simpa using h1.1

set_option maxHeartbeats 400000 in
theorem msync_no (h : ModAt w F m M) (f : Nat) (hno : M.dead = true ∨ 1 < f) :
    Calls Yacd.prog 19 #[.pointer (some ⟨m, 0, none⟩), .int .u8 f] w fun e w' => e = .returned (.bool false) ∧ w' = w := by
  obtain ⟨vw, hI⟩ := h
  have cd := hI.cDead
  cases hd : M.dead with
  | true =>
    rw [hd] at cd
    go_enter Yacd.func19, Yacd.ntmps19
    go_wp2_with fail
    go_ret
    exact ⟨rfl, rfl⟩
  | false =>
    rw [hd] at cd
    have hf' : (1 : Int) < (f : Int) := by
      rcases hno with h1 | h1
      · rw [hd] at h1; cases h1
      · omega
    go_enter Yacd.func19, Yacd.ntmps19
    go_wp2_with fail
    go_ret
    exact ⟨rfl, rfl⟩

set_option maxHeartbeats 400000 in
theorem msync_dies (h : ModAt w F m M) (f : Nat) (hd : M.dead = false) (hf : f < 2) (hl : M.at_ ≤ 0 ∨ (0 ≤ M.calls ∧ M.calls < M.at_)) (ht : countB M = false) :
    Calls Yacd.prog 19 #[.pointer (some ⟨m, 0, none⟩), .int .u8 f] w fun e w' => e = .returned (.bool false) ∧ ModAt w' F m (counted M) ∧ Keep F w w' := by
  obtain ⟨vw, hI⟩ := h
  have cd := hI.cDead
  rw [hd] at cd
  have hf' : (f : Int) ≤ 1 := by omega
  have hd1 : decide ((1 : Int) < (f : Int)) = false := decide_eq_false (by omega)
  go_enter Yacd.func19, Yacd.ntmps19
  go_wp2_with (go_at_call 33; refine (count_any hI hd hl).mono ?_; rw [ht]; rintro e w3 ⟨rfl, hI3, hk3⟩)
  go_ret
  exact ⟨rfl, hI3.at_, hk3.mono (fun k e => e ▸ hI.fb)⟩

set_option maxRecDepth 100000 in
set_option maxHeartbeats 600000 in
theorem msync_go (h : ModAt w F m M) (f : Nat) (hlen : M.ws.length ≤ 4096) (hd : M.dead = false) (hf : f < 2) (hl : M.at_ ≤ 0 ∨ (0 ≤ M.calls ∧ M.calls < M.at_)) (ht : countB M = true) :
    Calls Yacd.prog 19 #[.pointer (some ⟨m, 0, none⟩), .int .u8 f] w fun e w' => e = .returned (.bool true) ∧ ModAt w' F m (msynced M f) ∧ Keep F w w' := by
  obtain ⟨vw, hI⟩ := h
  have cd := hI.cDead
  rw [hd] at cd
  have hf' : (f : Int) ≤ 1 := by omega
  have hd1 : decide ((1 : Int) < (f : Int)) = false := decide_eq_false (by omega)
  obtain ⟨ao, cap, hv, -, -⟩ := owns_slice hI.rw
  subst hv
  have hlen' : (M.ws.length : Int) ≤ 4096 := by omega
  go_enter Yacd.func19, Yacd.ntmps19
  go_wp2_with (go_at_call 33; refine (count_any hI hd hl).mono ?_; rw [ht]; rintro e w3 ⟨rfl, hI3, hk3⟩; have cw := hI3.cWrites)
  go_loopg [24] M.ws.length (fun q i wr => ∃ k : Nat, k + q = M.ws.length ∧ i = .int .i64 k ∧ ModIs wr F m (.slice ao M.ws.length cap) (mmid M f k) ∧ Keep F w wr)
  case atStart => exact ⟨0, by omega, rfl, by rw [mmid_zero]; exact hI3, hk3.mono (fun k e => e ▸ hI.fb)⟩
  case round =>
    clear cw hk3
    obtain ⟨k, hkq, rfl, hIr, hK⟩ := hrel
    have cw := hIr.cWrites
    have hokc := hI3.ok
    by_cases hk : k < M.ws.length
    · have hk' : (k : Int) < (M.ws.length : Int) := by omega
      have hl := mmid_len M f k (by omega)
      obtain ⟨g, cap', hv, hrange⟩ := hIr.elem (k := k) (by omega)
      rw [mmid_get M f k hk] at hrange
      simp only [Value.slice.injEq] at hv
      obtain ⟨rfl, -, -⟩ := hv
      have hE := hI.ok.pc _ (List.getElem_mem hk)
      have c0 := hrange 0 _ rfl
      simp only [Nat.add_zero] at c0
      have c130 : wr.cell? ⟨g, k * 131 + 130, none⟩ = some (.bool M.ws[k].2.2.2) := hrange 130 _ (by have := hE.1.len; simp [mwc, this])
      by_cases hE1 : M.ws[k].1 = f
      · have hb1 : ((M.ws[k].1 : Int) == (f : Int)) = true := beq_iff_eq.2 (by omega)
        obtain ⟨hIm, hfz⟩ := ModIs.mark (cap := cap) hIr rfl hk hE1 hI.ok hokc
        go_wp2_with fail
        go_roundg (gk - 1)
        case measure => omega
        case rel => exact ⟨k + 1, by omega, by go_num, hIm, hK.setCell _ (.inl (hIr.fw g rfl).1)⟩
      · have hb1 : ((M.ws[k].1 : Int) == (f : Int)) = false := beq_eq_false_iff_ne.2 (by omega)
        go_wp2_with fail
        go_roundg (gk - 1)
        case measure => omega
        case rel =>
          refine ⟨k + 1, by omega, by go_num, ?_, hK⟩
          have e : mmid M f (k + 1) = mmid M f k := by
            have h1 := mmid_step M f k hk
            have h2 : markS f M.ws[k] = M.ws[k] := by simp [markS, hE1]
            rw [h2] at h1
            have h3 : (mmid M f k).ws.set k M.ws[k] = (mmid M f k).ws := by
              rw [← mmid_get M f k hk]
              exact List.set_getElem_self _
            rw [h3] at h1
            show ({ counted M with ws := (mmid M f (k + 1)).ws } : MS) = { counted M with ws := (mmid M f k).ws }
            rw [h1]
          rw [e]
          exact hIr
    · obtain rfl : k = M.ws.length := by omega
      go_wp2_with fail
      go_ret
      refine ⟨rfl, ?_, hK⟩
      have e : mmid M f M.ws.length = msynced M f := by simp [mmid, msynced]
      rw [← e]
      exact hIr.at_

def msyncD (M : MS) (f : Nat) : Bool × MS :=
  if M.dead || decide (1 < f) then (false, M) else if countB M then (true, msynced M f) else (false, counted M)
theorem msync_any (h : ModAt w F m M) (hlv : MLive M) (f : Nat) (hlen : M.ws.length ≤ 4096) :
    Calls Yacd.prog 19 #[.pointer (some ⟨m, 0, none⟩), .int .u8 f] w fun e w' => e = .returned (.bool (msyncD M f).1) ∧ ModAt w' F m (msyncD M f).2 ∧ Keep F w w' := by
  by_cases hbad : M.dead = true ∨ 1 < f
  · have e : msyncD M f = (false, M) := by
      unfold msyncD
      rw [if_pos (by rcases hbad with h0 | h0 <;> simp [h0])]
    rw [e]
    refine (msync_no h f hbad).mono ?_
    rintro e w' ⟨rfl, rfl⟩
    exact ⟨rfl, h, Keep.refl _ _⟩
  · have hd : M.dead = false := by
      cases hd : M.dead with
      | false => rfl
      | true => exact absurd (.inl hd) hbad
    have hf : ¬ 1 < f := fun h0 => hbad (.inr h0)
    cases ht : countB M with
    | true =>
      have e : msyncD M f = (true, msynced M f) := by simp [msyncD, hd, hf, ht]
      rw [e]
      exact msync_go h f hlen hd (by omega) (hlv hd) ht
    | false =>
      have e : msyncD M f = (false, counted M) := by simp [msyncD, hd, hf, ht]
      rw [e]
      exact msync_dies h f hd (by omega) (hlv hd) ht
end
end Go.Proofs.Ygdacg
