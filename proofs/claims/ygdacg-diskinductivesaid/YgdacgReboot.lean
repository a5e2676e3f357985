/-
  (*Disk).Reboot.
-/
import Derived.Test.YgdacgSync
namespace Go.Proofs.Ygdacg
open Go.RowKit
set_option linter.unusedVariables false
set_option linter.unusedSimpArgs false
attribute [local simp] zero61 zero76

/-- The bit that Reboot asks of cached write number k. -/
def bitA (keep : Int) (k : Nat) : Bool := bits BinOp.and IntKind.u64 (keep / 2 ^ (k % 64)) 1 == 1
/-- The cached writes that reached the platter (the first one's number is i). -/
def keepL (keep : Int) : Nat → List (Nat × Nat × List Value) → List (Nat × Nat × List Value)
  | _, [] => []
  | i, e :: r => if bitA keep i then e :: keepL keep (i + 1) r else keepL keep (i + 1) r
theorem keepL_snoc (keep : Int) (e : Nat × Nat × List Value) : ∀ (l : List (Nat × Nat × List Value)) (i : Nat), keepL keep i (l ++ [e]) = keepL keep i l ++ if bitA keep (i + l.length) then [e] else []
  | [], i => by simp [keepL]
  | x :: l, i => by
    have ih := keepL_snoc keep e l (i + 1)
    rw [show i + 1 + l.length = i + (x :: l).length by simp; omega] at ih
    simp only [List.cons_append, keepL, ih]
    split <;> simp
theorem keepL_mem (keep : Int) : ∀ (l : List (Nat × Nat × List Value)) (i : Nat) (e : Nat × Nat × List Value), e ∈ keepL keep i l → e ∈ l
  | [], _, _, h => by simp [keepL] at h
  | x :: l, i, e, h => by
    simp only [keepL] at h
    split at h
    · rcases List.mem_cons.1 h with rfl | h
      · simp
      · exact List.mem_cons_of_mem _ (keepL_mem keep l (i + 1) e h)
    · exact List.mem_cons_of_mem _ (keepL_mem keep l (i + 1) e h)

/-- The new disk's stable pages behind k cached writes. -/
def rebS (D : DS) (keep : Int) (k f : Nat) : List (List Value) := settleAll f (D.s f) (keepL keep 0 (D.c.take k))
def rebD (D : DS) (keep at_ : Int) (k : Nat) : DS := { s := rebS D keep k, c := [], z := fun _ => 0, at_ := at_, calls := 0 }
/-- What Reboot gives. -/
def rebooted (D : DS) (keep at_ : Int) : DS := { s := rebS D keep D.c.length, c := [], z := fun f => (rebS D keep D.c.length f).length, at_ := at_, calls := 0 }
/-- The new disk behind k files. -/
def rb0 (D : DS) (at_ : Int) (k : Nat) : DS := { s := fun f => if f < k then D.s f else [], c := [], z := fun _ => 0, at_ := at_, calls := 0 }
/-- The new disk behind k sizes. -/
def rb3 (D : DS) (keep at_ : Int) (k : Nat) : DS := { rebooted D keep at_ with z := fun f => if f < k then (rebS D keep D.c.length f).length else 0 }

section
variable {w wr w2 w3 : World} {F G : Nat → Prop} {b nb : Nat} {v v' : Nat → Value} {vc v1 : Value} {D Dn D' : DS}
theorem DiskIs.like (h : DiskIs w F b v vc D) (hs : ∀ f, f < 2 → D'.s f = D.s f) (hc : D'.c = D.c) (hz : ∀ f, f < 2 → D'.z f = D.z f) (ha : D'.at_ = D.at_) (hcl : D'.calls = D.calls) : DiskIs w F b v vc D' := by
  have ok := h.ok
  refine ⟨⟨fun f hf => by rw [hs f hf]; exact ok.ps f hf, by rw [hc]; exact ok.pc, fun f hf => by rw [hz f hf]; exact ok.z f hf, by rw [ha]; exact ok.at1, by rw [ha]; exact ok.at0, by rw [hcl]; exact ok.calls1, by rw [hcl]; exact ok.calls0⟩, h.fp, h.fb, ?_, fun f hf => by rw [hs f hf]; exact h.rs f hf, by rw [hc]; exact h.rc, h.fs, h.fc, h.a01, h.asc⟩
  rw [hz 0 (by omega), hz 1 (by omega), ha, hcl]
  exact h.blk
/-- A disk of the call's own: in blocks made since w. -/
def RebRel (w : World) (nb : Nat) (Dn : DS) (wr : World) : Prop := ∃ G v', DiskIs wr G nb v' (.slice none 0 0) Dn ∧ (∀ j, G j → w.heap.size ≤ j) ∧ Keep Non w wr
theorem RebRel.like (h : RebRel w nb D wr) (hs : ∀ f, f < 2 → D'.s f = D.s f) (hc : D'.c = D.c) (hz : ∀ f, f < 2 → D'.z f = D.z f) (ha : D'.at_ = D.at_) (hcl : D'.calls = D.calls) : RebRel w nb D' wr :=
  let ⟨G, v', h1, h2, h3⟩ := h
  ⟨G, v', h1.like hs hc hz ha hcl, h2, h3⟩
theorem RebRel.put {f : Nat} (hf : f < 2) {L : List (List Value)} (hL : ∀ p ∈ L, IsPg p) (hI : DiskIs wr G nb v' (.slice none 0 0) Dn) (hG : ∀ j, G j → w.heap.size ≤ j) (hK : Keep Non w wr)
    (g1 : w2.ownsRow 0 61 128 v1 L.length L.flatten) (k1 : Keep (fun j => (v' f).ownBlock = some j) wr w2) (g3 : v1.ownBlock = (v' f).ownBlock ∨ v1.ownBlock = none ∨ ∃ j, v1.ownBlock = some j ∧ wr.heap.size ≤ j)
    (hw : w3 = w2.setCell ⟨nb, f, none⟩ v1) : RebRel w nb { Dn with s := updN Dn.s f L } w3 := by
  have k2 : Keep (fun j => j = nb) w2 w3 := by rw [hw]; exact (Keep.refl (fun j => j = nb) w2).setCell (p := ⟨nb, f, none⟩) _ (.inl rfl)
  have k3 : Keep (fun j => j = nb ∨ (v' f).ownBlock = some j) wr w3 := (k1.mono (fun j e => .inr e)).trans k2 (fun j e _ => .inl e)
  have hs := hK.size
  have hv1 : ∀ j, v1.ownBlock = some j → j ≠ nb := fun j hj => by
    rcases g3 with e | e | ⟨j', e, hle⟩
    · rw [e] at hj
      exact (hI.fs f j hf hj).2
    · rw [e] at hj
      cases hj
    · rw [e] at hj
      have := blk_lt hI.blk
      simp at hj
      omega
  have hb2 : World.blk w2 nb 39 _ := blk_keep hI.blk k1 (fun e => (hI.fs f nb hf e).2 rfl)
  have ok := hI.ok
  have hI3 := hI.restable hf (D' := { Dn with s := updN Dn.s f L }) (v1 := v1) k3 ⟨fun g hg p hp => by
      have hp' : p ∈ updN Dn.s f L g := hp
      by_cases hgf : g = f
      · subst hgf
        rw [updN_same] at hp'
        exact hL p hp'
      · rw [updN_ne _ _ _ hgf] at hp'
        exact ok.ps g hg p hp', ok.pc, ok.z, ok.at1, ok.at0, ok.calls1, ok.calls0⟩ rfl rfl
    (by rw [hw]; have := blk_set hb2 f v1; rw [stable_set v' v1 _ _ _ _ _ f hf] at this; exact this) (k2.owns g1 hv1) g3
  refine ⟨_, _, hI3, fun j hj => ?_, hK.trans k3 fun j e hlt => ?_⟩
  · rcases hj with hj | ⟨h1, h2⟩
    · exact hG j hj
    · omega
  · rcases e with rfl | e
    · have := hG _ hI.fb
      omega
    · have := hG j (hI.fs f j hf e).1
      omega
theorem RebRel.start (w : World) (at_ : Int) (ha : at_ ≤ 9223372036854775807) (ha0 : -9223372036854775808 ≤ at_) :
    RebRel w w.heap.size (rb0 D at_ 0) (w.alloc (.cells #[.slice none 0 0, .slice none 0 0, .slice none 0 0, .int .u16 0, .int .u16 0, .int .i64 at_, .int .i64 0] 39)) := by
  refine ⟨fun k => k = w.heap.size, fun _ => .slice none 0 0, ⟨⟨fun f hf p hp => ?_, fun e he => ?_, fun f hf => ?_, ha, ha0, by simp [rb0], by simp [rb0]⟩, fun k hk => by simp; omega, rfl, ?_, fun f hf => ?_, ?_, fun f k hf hk => (by cases hk), fun k hk => (by cases hk), fun k hk => (by cases hk), fun f k hf hk => (by cases hk)⟩, fun j hj => by omega, (Keep.refl _ _).alloc _⟩
  · simp [rb0] at hp
  · simp [rb0] at he
  · simp [rb0]
  · exact blk_new w 39 [.slice none 0 0, .slice none 0 0, .slice none 0 0, .int .u16 0, .int .u16 0, .int .i64 at_, .int .i64 0]
  · have : (rb0 D at_ 0).s f = [] := by simp [rb0]
    rw [this]
    exact World.ownsRow_nil _ 0 61 128
  · exact World.ownsRow_nil _ 0 76 130
theorem rb0_step (at_ : Int) (k : Nat) (f : Nat) : (rb0 D at_ (k + 1)).s f = updN (rb0 D at_ k).s k (D.s k) f := by
  by_cases h : f = k
  · subst h
    rw [updN_same]
    simp [rb0]
  · rw [updN_ne _ _ _ h]
    simp only [rb0]
    by_cases h2 : f < k
    · rw [if_pos (by omega), if_pos h2]
    · rw [if_neg (by omega), if_neg h2]
theorem rebS_zero (D : DS) (keep : Int) (f : Nat) : rebS D keep 0 f = D.s f := by simp [rebS, keepL, settleAll]
theorem rebS_hit {keep : Int} {k : Nat} (hk : k < D.c.length) (hb : bitA keep k = true) (f : Nat) : rebS D keep (k + 1) f = updN (rebS D keep k) D.c[k].1 (settleL (rebS D keep k D.c[k].1) D.c[k].2.1 D.c[k].2.2) f := by
  unfold rebS
  rw [take_snoc_get D.c k hk, keepL_snoc, List.length_take, show 0 + min k D.c.length = k by omega, if_pos hb, settleAll_snoc]
  by_cases hf : f = D.c[k].1
  · subst hf
    rw [updN_same, if_pos rfl]
  · rw [updN_ne _ _ _ hf, if_neg (fun e => hf e.symm)]
theorem rebS_miss {keep : Int} {k : Nat} (hk : k < D.c.length) (hb : bitA keep k = false) (f : Nat) : rebS D keep (k + 1) f = rebS D keep k f := by
  unfold rebS
  rw [take_snoc_get D.c k hk, keepL_snoc, List.length_take, show 0 + min k D.c.length = k by omega, if_neg (by simp [hb]), List.append_nil]
theorem rebS_is (hok : DOK D) {keep : Int} {k f : Nat} (hf : f < 2) : ∀ p ∈ rebS D keep k f, IsPg p :=
  settleAll_is (hok.ps f hf) _ (fun e he => (hok.pc e (List.mem_of_mem_take (keepL_mem keep _ _ e he))).1)
theorem settleL_len (ls : List (List Value)) (pg : Nat) (p : List Value) : (settleL ls pg p).length = max ls.length (pg + 1) := by
  simp only [settleL, List.length_set, List.length_append, List.length_replicate]
  omega
theorem foldl_settle_len : ∀ (c : List (Nat × Nat × List Value)) (s : List (List Value)), s.length ≤ 1024 → (∀ e ∈ c, e.2.1 < 1024) → (c.foldl (fun s e => settleL s e.2.1 e.2.2) s).length ≤ 1024
  | [], s, hs, _ => hs
  | e :: c, s, hs, hc => by
    rw [List.foldl_cons]
    refine foldl_settle_len c _ ?_ (fun x hx => hc x (by simp [hx]))
    rw [settleL_len]
    have := hc e (by simp)
    omega
theorem settleAll_len {f : Nat} {s : List (List Value)} {c : List (Nat × Nat × List Value)} (hs : s.length ≤ 1024) (hc : ∀ e ∈ c, e.2.1 < 1024) : (settleAll f s c).length ≤ 1024 :=
  foldl_settle_len _ s hs (fun e he => hc e (List.mem_filter.1 he).1)
theorem rebS_len {keep : Int} {k f : Nat} (hs : (D.s f).length ≤ 1024) (hc : ∀ e ∈ D.c, e.2.1 < 1024) : (rebS D keep k f).length ≤ 1024 :=
  settleAll_len hs (fun e he => hc e (List.mem_of_mem_take (keepL_mem keep _ _ e he)))
theorem RebRel.size {f n : Nat} (hf : f < 2) (hn : n < 65536) (hI : DiskIs wr G nb v' (.slice none 0 0) Dn) (hG : ∀ j, G j → w.heap.size ≤ j) (hK : Keep Non w wr) (hw : w3 = (wr.setCell ⟨nb, 3 + f, none⟩ (.int .u16 n)).drew) : RebRel w nb { Dn with z := updN Dn.z f n } w3 := by
  have k2 : Keep (fun j => j = nb) wr w3 := by rw [hw]; exact ((Keep.refl (fun j => j = nb) wr).setCell (p := ⟨nb, 3 + f, none⟩) _ (.inl rfl)).drew
  have ok := hI.ok
  refine ⟨G, v', hI.reblk (D' := { Dn with z := updN Dn.z f n }) k2 ⟨ok.ps, ok.pc, fun g hg => ?_, ok.at1, ok.at0, ok.calls1, ok.calls0⟩ rfl rfl ?_, hG, hK.trans k2 fun j e hlt => ?_⟩
  · show updN Dn.z f n g < 65536
    by_cases hgf : g = f
    · subst hgf
      rw [updN_same]
      exact hn
    · rw [updN_ne _ _ _ hgf]
      exact ok.z g hg
  · rw [hw]
    have := blk_drew (blk_set hI.blk (3 + f) (.int .u16 n))
    have e := sizes_set v' (.slice none 0 0) (.slice none 0 0) (.int .i64 Dn.at_) (.int .i64 Dn.calls) Dn.z (updN Dn.z f n) f hf n (by rw [updN_same]) (fun k hk => updN_ne _ _ _ hk)
    have e' : [v' 0, v' 1, Value.slice none 0 0, .int .u16 (Dn.z 0), .int .u16 (Dn.z 1), .int .i64 Dn.at_, .int .i64 Dn.calls].set (3 + f) (.int .u16 n) = [v' 0, v' 1, Value.slice none 0 0, .int .u16 ((updN Dn.z f n 0 : Nat) : Int), .int .u16 ((updN Dn.z f n 1 : Nat) : Int), .int .i64 Dn.at_, .int .i64 Dn.calls] := e
    rw [e'] at this
    exact this
  · have := hG _ hI.fb
    omega
theorem rb3_step (keep at_ : Int) (k f : Nat) : (rb3 D keep at_ (k + 1)).z f = updN (rb3 D keep at_ k).z k (rebS D keep D.c.length k).length f := by
  by_cases h : f = k
  · subst h
    rw [updN_same]
    simp [rb3]
  · rw [updN_ne _ _ _ h]
    simp only [rb3]
    by_cases h2 : f < k
    · rw [if_pos (by omega), if_pos h2]
    · rw [if_neg (by omega), if_neg h2]

set_option maxRecDepth 100000 in
set_option maxHeartbeats 1000000 in
theorem reboot_any (h : DiskAt w F b D) (keep at_ : Int) (ha : at_ ≤ 9223372036854775807) (ha0 : -9223372036854775808 ≤ at_) (hl : D.c.length ≤ 2048) (hsl : ∀ f, f < 2 → (D.s f).length ≤ 1024) (hf : ∀ e ∈ D.c, e.1 < 2) (hpg : ∀ e ∈ D.c, e.2.1 < 1024) :
    Calls Yacd.prog 28 #[.pointer (some ⟨b, 0, none⟩), .int .u64 keep, .int .i64 at_] w fun e w' => e = .returned (.pointer (some ⟨w.heap.size, 0, none⟩)) ∧ RebRel w w.heap.size (rebooted D keep at_) w' := by
  obtain ⟨v, vc, h⟩ := h
  have hl' : (D.c.length : Int) ≤ 2048 := by omega
  obtain ⟨ao, cap, hvc, hle, hmx⟩ := owns_slice h.rc
  generalize hvcx : vc = vx at *
  subst hvc
  have hst := RebRel.start (D := D) w at_ ha ha0
  clear ha ha0
  go_enter Yacd.func28, Yacd.ntmps28
  go_wp2_with fail
  go_loopg [15] 2 (fun m i wr => ∃ k : Nat, k + m = 2 ∧ i = .int .i64 k ∧ RebRel w w.heap.size (rb0 D at_ k) wr)
  case atStart => exact ⟨0, rfl, rfl, hst⟩
  case round =>
    obtain ⟨k, hkm, rfl, G, v', hI, hG, hK⟩ := hrel
    clear hst
    have hd := h.keep hK (fun _ _ e => e)
    by_cases hk : k < 2
    · have hk' : (k : Int) < 2 := by omega
      have cs := hd.cStable k hk
      have hsk : ((D.s k).length : Int) ≤ 1024 := by have := hsl k hk; omega
      have hsk' : ((1024 : Int) < ((D.s k).length : Int)) = False := by simp only [eq_iff_iff, iff_false]; omega
      rcases (hd.rs k hk).2 with ⟨hv, hn⟩ | ⟨g, cp, cur, hv, -, hg, hc1, hc2, hcs, htk⟩
      · rw [hv] at cs
        have Hn : Hid ((D.s k).length = 0) := hn
        clear hn hv hsk hsk'
        go_wp2_with fail
        refine wp_plan (fun _ => True) [(0, 0), (0, 1), (0, 2), (0, 3), (0, 4), (0, 5), (0, 6), (2, 7), (0, 8), (0, 9), (0, 10), (0, 11), (0, 12), (2, 13), (0, 14), (0, 15), (0, 16), (0, 18), (0, 19)] [] 17 [20, 21] (by kernel_rfl) (by kernel_rfl) (by kernel_rfl) trivial ?_
        intro N hN
        simp only [List.filterMap_cons, List.filterMap_nil, List.getElem?_toArray, List.getElem?_cons_succ, List.getElem?_cons_zero, Option.map_some] at hN ⊢
        repeat (first
          | (refine quiet_free (v := ?_) rfl ?_ ?_; rotate_left; focus (intro w'; go_simp; try with_reducible rfl))
          | (refine quiet_early (v := ?_) rfl ?_ ?_; rotate_left; focus (go_simp; try with_reducible rfl)))
        refine quiet_done (hN _ (loud_done ?_))
        clear hN
        simp only [Act.put, List.setIfInBounds_toArray, List.set_cons_zero, List.set_cons_succ]
        change wpList _ _ _ [_, _, _] _ _
        have c2 := hI.cStable k hk
        have f2 : wr.frozen? ⟨w.heap.size, k, none⟩ = false := blk_frozen hI.blk k
        go_wp2
        refine NP.at_normal ?_
        go_wp2
        go_roundg (gk - 1)
        case measure => omega
        case rel =>
          have hnil : D.s k = [] := List.eq_nil_of_length_eq_zero Hn.out
          have g1 : wr.drew.ownsRow 0 61 128 (.slice none 0 0) (D.s k).length (D.s k).flatten := by rw [hnil]; exact World.ownsRow_nil _ 0 61 128
          have k1 : Keep (fun j => (v' k).ownBlock = some j) wr wr.drew := (Keep.refl _ wr).drew
          refine ⟨k + 1, by omega, by go_num, RebRel.like (RebRel.put hk (h.ok.ps k hk) hI hG hK g1 k1 (.inr (.inl rfl)) ?_) (fun f hf => rb0_step at_ k f) rfl (fun _ _ => rfl) rfl rfl⟩
          rfl
      · rw [hv] at cs
        have hcp : ((D.s k).length : Int) ≤ (cp : Int) := by omega
        go_wp2_with fail
        refine wp_plan (fun _ => True) [(0, 0), (0, 1), (0, 2), (0, 3), (0, 4), (0, 5), (0, 6), (2, 7), (0, 8), (0, 9), (0, 10), (0, 11), (0, 12), (2, 13), (0, 14), (0, 15), (0, 16), (0, 18), (0, 19)] [] 17 [20, 21] (by kernel_rfl) (by kernel_rfl) (by kernel_rfl) trivial ?_
        intro N hN
        simp only [List.filterMap_cons, List.filterMap_nil, List.getElem?_toArray, List.getElem?_cons_succ, List.getElem?_cons_zero, Option.map_some] at hN ⊢
        repeat (first
          | (refine quiet_free (v := ?_) rfl ?_ ?_; rotate_left; focus (intro w'; go_simp; try with_reducible rfl))
          | (refine quiet_early (v := ?_) rfl ?_ ?_; rotate_left; focus (go_simp; try with_reducible rfl)))
        refine quiet_done (hN _ (loud_done ?_))
        clear hN
        simp only [Act.put, List.setIfInBounds_toArray, List.set_cons_zero, List.set_cons_succ]
        change wpList _ _ _ [_, _, _] _ _
        have hall : ∀ q ∈ D.s k, IsPg q := h.ok.ps k hk
        have hbl : World.blk wr g 61 cur.toList := by simpa [World.blk] using hg
        refine wl_append rfl _ _ 33 rfl 61 Yacd.underlying33 info61 (by simp [Value.cells, zpg_is.len]) (by omega) (.slice none 0 0) 0 [] rfl (World.ownsRow_nil _ 0 61 128) _ (D.s k).length cp (D.s k).flatten rfl (flat_len (fun q hq => (hall q hq).len)) (fun j u hu => by
            rw [Addr.add_mid, Nat.zero_add]
            have e1 := blk_cell (blk_drew hbl) j
            rw [e1]
            rw [← htk, List.getElem?_take] at hu
            split at hu
            · exact hu
            · cases hu) (fun u hu => by
            obtain ⟨q, hq, hu'⟩ := List.mem_flatten.1 hu
            exact (hall q hq).one u hu') (by simp only [maxLen]; omega) (by omega) ?_
        intro v1 w2 g1 g2 g3
        simp only [Nat.zero_add, List.nil_append] at g1
        have hb2 := blk_grown (blk_drew hI.blk) g2 (by simp [Value.ownBlock])
        have c2 : w2.cell? ⟨w.heap.size, k, none⟩ = some (v' k) := by rw [blk_cell hb2, ← blk_cell hI.blk]; exact hI.cStable k hk
        have f2 : w2.frozen? ⟨w.heap.size, k, none⟩ = false := blk_frozen hb2 k
        obtain ⟨a1, p1, hv1, -, -⟩ := owns_slice g1
        subst hv1
        go_wp2
        refine NP.at_normal ?_
        go_wp2
        go_roundg (gk - 1)
        case measure => omega
        case rel =>
          have k1 : Keep (fun j => (v' k).ownBlock = some j) wr w2 := ((Keep.refl _ wr).drew).grown g2 (fun j e => by simp [Value.ownBlock] at e)
          exact ⟨k + 1, by omega, by go_num, RebRel.like (RebRel.put hk hall hI hG hK g1 k1 (.inr (g3.imp id fun e => ⟨_, e, Nat.le_refl _⟩)) rfl) (fun f hf => rb0_step at_ k f) rfl (fun _ _ => rfl) rfl rfl⟩
    · obtain rfl : k = 2 := by omega
      have cc := hd.cCache
      have hst2 : RebRel w w.heap.size (rebD D keep at_ 0) wr := RebRel.like ⟨G, v', hI, hG, hK⟩ (fun f hf => by show rebS D keep 0 f = if f < 2 then D.s f else []; rw [rebS_zero, if_pos hf]) rfl (fun _ _ => rfl) rfl rfl
      clear hI hG hK hd hk
      go_wp2_with fail
      go_loopg [45] D.c.length (fun m i wr => ∃ k : Nat, k + m = D.c.length ∧ i = .int .i64 k ∧ RebRel w w.heap.size (rebD D keep at_ k) wr)
      case atStart => exact ⟨0, by omega, rfl, hst2⟩
      case round =>
        clear hst2 cc
        obtain ⟨k, hkm, rfl, G, v', hI, hG, hK⟩ := hrel
        have hd := h.keep hK (fun _ _ e => e)
        have cc := hd.cCache
        by_cases hk : k < D.c.length
        · have hk' : (k : Int) < (D.c.length : Int) := by omega
          obtain ⟨g, cap', hv, -, -, hrange⟩ := owns_elem (ls := D.c.map cwc) (by simpa using hd.rc) (fun q hq => by obtain ⟨e, he, rfl⟩ := List.mem_map.1 hq; exact cwc_len (h.ok.pc e he).1) k (by simpa using hk)
          simp only [Value.slice.injEq, List.length_map, true_and] at hv
          obtain ⟨rfl, rfl⟩ := hv
          simp only [List.getElem_map] at hrange
          have c0 := hrange 0 _ rfl
          have c1 := hrange 1 _ rfl
          simp only [Nat.add_zero] at c0
          have hp := (h.ok.pc _ (List.getElem_mem hk)).1
          have hffN := hf _ (List.getElem_mem hk)
          have hpgN := hpg _ (List.getElem_mem hk)
          have hff : (D.c[k].1 : Int) ≤ 1 := by omega
          have hff2 : (D.c[k].1 : Int) < 2 := by omega
          cases hb : bitA keep k with
          | true =>
            have hb1 : (bits BinOp.and IntKind.u64 (keep / 2 ^ (k % 64)) 1 == 1) = true := hb
            have Hb : Hid (bitA keep k = true) := hb
            clear hb
            have cs := hI.cStable D.c[k].1 hffN
            have hrP : wr.rangeAt g (k * 130 + 2) D.c[k].2.2 := fun i u hu => by
              have := hrange (i + 2) u hu
              rw [show k * 130 + 2 + i = k * 130 + (i + 2) by omega]
              exact this
            have hgl : g < w.heap.size := h.fp g (h.fc g rfl).1
            have hgne : ∀ j, (v' D.c[k].1).ownBlock = some j → j ≠ g := fun j hj e => by
              have := hG j (hI.fs _ j hffN hj).1
              omega
            go_wp2_with fail
            refine wp_plan (fun w' => w'.cell? ⟨g, k * 130, none⟩ = some (.int .u8 D.c[k].1)) [(0, 0), (0, 1), (0, 2), (0, 3), (1, 4), (0, 5), (0, 6), (0, 7), (0, 8), (2, 9), (0, 10), (0, 11), (0, 12), (2, 13), (0, 14), (0, 15), (0, 16), (2, 17), (0, 18), (0, 19), (0, 20), (0, 22), (0, 23)] [21] 24 [25] (by kernel_rfl) (by kernel_rfl) (by kernel_rfl) c0 ?_
            intro N hN
            simp only [List.filterMap_cons, List.filterMap_nil, List.getElem?_toArray, List.getElem?_cons_succ, List.getElem?_cons_zero, Option.map_some] at hN ⊢
            repeat (first
              | (refine quiet_free (v := ?_) rfl ?_ ?_; rotate_left; focus (intro w'; go_simp; try with_reducible rfl))
              | (refine quiet_early (v := ?_) rfl ?_ ?_; rotate_left; focus (go_simp; try with_reducible rfl))
              | (refine quiet_held (v := ?_) rfl ?_ ?_; rotate_left; focus (intro w' hw'; go_simp; try with_reducible rfl)))
            refine quiet_done (hN _ ?_)
            clear hN
            simp only [Act.put, List.setIfInBounds_toArray, List.set_cons_zero, List.set_cons_succ]
            refine loud_call (f := 34) (args := #[v' D.c[k].1, .int .u16 D.c[k].2.1, .pointer (some ⟨g, k * 130 + 2, none⟩)]) rfl (by go_simp) ?_
            refine (settle_any wr.drew (v' D.c[k].1) ((rebD D keep at_ k).s D.c[k].1) D.c[k].2.1 g (k * 130 + 2) D.c[k].2.2 (hI.ok.ps _ hffN) hp hpgN (World.ownsRow.drew (hI.rs _ hffN)) hrP hgne).mono ?_
            rintro e w2 ⟨v1, rfl, g1, g2, g3⟩
            refine ⟨v1, rfl, ?_, loud_done ?_⟩
            · have := blk_lt hI.blk
              exact (World.cell?_of_block (w := wr) (g2.block g (by have := hK.size; show g < wr.heap.size; omega) (fun e => hgne g e.symm rfl))).trans c0
            have hb2 := blk_grown (blk_drew hI.blk) g2 (fun e => (hI.fs _ _ hffN e).2 rfl)
            have c2 : w2.cell? ⟨w.heap.size, D.c[k].1, none⟩ = some (v' D.c[k].1) := by rw [blk_cell hb2, ← blk_cell hI.blk]; exact cs
            have f2 : w2.frozen? ⟨w.heap.size, D.c[k].1, none⟩ = false := blk_frozen hb2 _
            obtain ⟨a1, p1, hv1, -, -⟩ := owns_slice g1
            subst hv1
            simp only [Act.put, List.setIfInBounds_toArray, List.set_cons_zero, List.set_cons_succ]
            change wpList _ _ _ [_, _] _ _
            clear c0 c1 cs cc
            go_wp2
            refine NP.at_normal ?_
            go_wp2
            go_roundg (gk - 1)
            case measure => omega
            case rel =>
              have k1 : Keep (fun j => (v' D.c[k].1).ownBlock = some j) wr w2 := ((Keep.refl _ wr).drew).grown g2 (fun j e => .inl e)
              exact ⟨k + 1, by omega, by go_num, RebRel.like (RebRel.put hffN (settleL_is (rebS_is h.ok hffN) hp) hI hG hK g1 k1 (g3.imp id .inr) rfl) (fun f _ => rebS_hit hk Hb.out f) rfl (fun _ _ => rfl) rfl rfl⟩
          | false =>
            have hb1 : (bits BinOp.and IntKind.u64 (keep / 2 ^ (k % 64)) 1 == 1) = false := hb
            have Hb : Hid (bitA keep k = false) := hb
            clear hb
            go_wp2_with fail
            go_roundg (gk - 1)
            case measure => omega
            case rel => exact ⟨k + 1, by omega, by go_num, RebRel.like ⟨G, v', hI, hG, hK⟩ (fun f _ => rebS_miss hk Hb.out f) rfl (fun _ _ => rfl) rfl rfl⟩
        · obtain rfl : k = D.c.length := by omega
          have hst3 : RebRel w w.heap.size (rb3 D keep at_ 0) wr := RebRel.like ⟨G, v', hI, hG, hK⟩ (fun f _ => rfl) rfl (fun f _ => by simp [rb3, rebD]) rfl rfl
          clear hI hG hK hd hk cc
          go_wp2_with fail
          go_loopg [94] 2 (fun m i wr => ∃ k : Nat, k + m = 2 ∧ i = .int .i64 k ∧ RebRel w w.heap.size (rb3 D keep at_ k) wr)
          case atStart => exact ⟨0, rfl, rfl, hst3⟩
          case round =>
            clear hst3
            obtain ⟨k, hkm', rfl, G, v', hI, hG, hK⟩ := hrel
            by_cases hk : k < 2
            · have hk' : (k : Int) < 2 := by omega
              have cs := hI.cStable k hk
              have hln : (rebS D keep D.c.length k).length ≤ 1024 := rebS_len (hsl k hk) hpg
              have hown : wr.ownsRow 0 61 128 (v' k) (rebS D keep D.c.length k).length (rebS D keep D.c.length k).flatten := hI.rs k hk
              obtain ⟨a1, p1, hv1, -, -⟩ := owns_slice hown
              rw [hv1] at cs
              generalize hL : (rebS D keep D.c.length k).length = L at *
              have HL : Hid ((rebS D keep D.c.length k).length = L) := hL
              have hL' : (L : Int) ≤ 1024 := by omega
              have cz := hI.cSize k hk
              have f3 : wr.frozen? ⟨w.heap.size, 3 + k, none⟩ = false := blk_frozen hI.blk _
              clear hv1 hown hL
              go_wp2_with fail
              refine wp_plan (fun _ => True) [(0, 0), (0, 1), (0, 2), (0, 3), (0, 4), (0, 5), (0, 6), (2, 7), (0, 8), (0, 9), (0, 10), (0, 11), (0, 12)] [] 13 [] (by kernel_rfl) (by kernel_rfl) (by kernel_rfl) trivial ?_
              intro N hN
              simp only [List.filterMap_cons, List.filterMap_nil, List.getElem?_toArray, List.getElem?_cons_succ, List.getElem?_cons_zero, Option.map_some] at hN ⊢
              repeat (first
                | (refine quiet_free (v := ?_) rfl ?_ ?_; rotate_left; focus (intro w'; go_simp; try with_reducible rfl))
                | (refine quiet_early (v := ?_) rfl ?_ ?_; rotate_left; focus (go_simp; try with_reducible rfl)))
              refine quiet_done (hN _ (loud_done ?_))
              clear hN
              simp only [Act.put, List.setIfInBounds_toArray, List.set_cons_zero, List.set_cons_succ]
              change wpList _ _ _ [_] _ _
              go_wp2
              refine NP.at_normal ?_
              go_wp2
              go_roundg (gk - 1)
              case measure => omega
              case rel => exact ⟨k + 1, by omega, by go_num, RebRel.like (RebRel.size hk (n := L) (by omega) hI hG hK rfl) (fun f _ => rfl) rfl (fun f _ => by rw [rb3_step, HL.out]) rfl rfl⟩
            · obtain rfl : k = 2 := by omega
              go_wp2
              go_ret
              exact ⟨rfl, RebRel.like ⟨G, v', hI, hG, hK⟩ (fun f _ => rfl) rfl (fun f hf => by show (rebS D keep D.c.length f).length = if f < 2 then _ else 0; rw [if_pos hf]) rfl rfl⟩
end
end Go.Proofs.Ygdacg
