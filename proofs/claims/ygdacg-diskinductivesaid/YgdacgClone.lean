/-
  (*Disk).Clone, of a disk that lies anyhow.
-/
import Derived.Test.YgdacgChk
namespace Go.Proofs.Ygdacg
open Go.RowKit
set_option linter.unusedVariables false
set_option linter.unusedSimpArgs false
attribute [local simp] zero61 zero76

/-- A row that is read only: it may lie anywhere. -/
def SrcRow (w : World) (sz : Nat) (v : Value) (n : Nat) (xs : List Value) : Prop :=
  (v = .slice none 0 0 ∧ n = 0 ∧ xs = []) ∨ ∃ ad c, v = .slice (some ad) n c ∧ n ≤ c ∧ c ≤ maxLen ∧ xs.length = n * sz ∧ ∀ j u, xs[j]? = some u → w.cell? (ad.add j) = some u
theorem SrcRow.keep {w w' : World} {sz n : Nat} {v : Value} {xs : List Value} (h : SrcRow w sz v n xs) (hk : Keep Non w w') : SrcRow w' sz v n xs := by
  rcases h with h | ⟨ad, c, h1, h2, h3, h4, h6⟩
  · exact .inl h
  · exact .inr ⟨ad, c, h1, h2, h3, h4, fun j u hu => hk.cell (h6 j u hu) (fun e => e)⟩

section
variable {w wr w2 w3 : World} {G : Nat → Prop} {nb : Nat} {v' : Nat → Value} {vc v1 : Value} {D Dn D' : DS}
def CloRel (w : World) (nb : Nat) (vc : Value) (Dn : DS) (wr : World) : Prop := ∃ G v', DiskIs wr G nb v' vc Dn ∧ (∀ j, G j → w.heap.size ≤ j) ∧ Keep Non w wr
theorem CloRel.like (h : CloRel w nb vc D wr) (hs : ∀ f, f < 2 → D'.s f = D.s f) (hc : D'.c = D.c) (hz : ∀ f, f < 2 → D'.z f = D.z f) (ha : D'.at_ = D.at_) (hcl : D'.calls = D.calls) : CloRel w nb vc D' wr :=
  let ⟨G, v', h1, h2, h3⟩ := h
  ⟨G, v', h1.like hs hc hz ha hcl, h2, h3⟩
theorem CloRel.put {f : Nat} (hf : f < 2) {L : List (List Value)} (hL : ∀ p ∈ L, IsPg p) (hI : DiskIs wr G nb v' vc Dn) (hG : ∀ j, G j → w.heap.size ≤ j) (hK : Keep Non w wr)
    (g1 : w2.ownsRow 0 61 128 v1 L.length L.flatten) (k1 : Keep Non wr w2) (g3 : v1.ownBlock = none ∨ ∃ j, v1.ownBlock = some j ∧ wr.heap.size ≤ j)
    (hw : w3 = w2.setCell ⟨nb, f, none⟩ v1) : CloRel w nb vc { Dn with s := updN Dn.s f L } w3 := by
  have k2 : Keep (fun j => j = nb) w2 w3 := by rw [hw]; exact (Keep.refl (fun j => j = nb) w2).setCell (p := ⟨nb, f, none⟩) _ (.inl rfl)
  have k3 : Keep (fun j => j = nb ∨ (v' f).ownBlock = some j) wr w3 := (k1.of_non _).trans k2 (fun j e _ => .inl e)
  have hs := hK.size
  have hv1 : ∀ j, v1.ownBlock = some j → j ≠ nb := fun j hj => by
    rcases g3 with e | ⟨j', e, hle⟩
    · rw [e] at hj
      cases hj
    · rw [e] at hj
      have := blk_lt hI.blk
      simp at hj
      omega
  have hb2 : World.blk w2 nb 39 _ := blk_keep hI.blk k1 (fun e => e)
  have ok := hI.ok
  have hI3 := hI.restable hf (D' := { Dn with s := updN Dn.s f L }) (v1 := v1) k3 ⟨fun g hg p hp => by
      have hp' : p ∈ updN Dn.s f L g := hp
      by_cases hgf : g = f
      · subst hgf
        rw [updN_same] at hp'
        exact hL p hp'
      · rw [updN_ne _ _ _ hgf] at hp'
        exact ok.ps g hg p hp', ok.pc, ok.z, ok.at1, ok.at0, ok.calls1, ok.calls0⟩ rfl rfl
    (by rw [hw]; have := blk_set hb2 f v1; rw [stable_set v' v1 _ _ _ _ _ f hf] at this; exact this) (k2.owns g1 hv1) (.inr g3)
  refine ⟨_, _, hI3, fun j hj => ?_, hK.trans k3 fun j e hlt => ?_⟩
  · rcases hj with hj | ⟨h1, h2⟩
    · exact hG j hj
    · omega
  · rcases e with rfl | e
    · have := hG _ hI.fb
      omega
    · have := hG j (hI.fs f j hf e).1
      omega
def c0 (D : DS) (k : Nat) : DS := { D with s := fun f => if f < k then D.s f else [] }
theorem c0_step (k : Nat) (f : Nat) : (c0 D (k + 1)).s f = updN (c0 D k).s k (D.s k) f := by
  by_cases h : f = k
  · subst h
    rw [updN_same]
    simp [c0]
  · rw [updN_ne _ _ _ h]
    simp only [c0]
    by_cases h2 : f < k
    · rw [if_pos (by omega), if_pos h2]
    · rw [if_neg (by omega), if_neg h2]
theorem CloRel.start (hok : DOK D) (hk : Keep Non w w2) (hr : w2.ownsRow 0 76 130 vc D.c.length (D.c.map cwc).flatten) (hv : ∀ j, vc.ownBlock = some j → w.heap.size ≤ j) :
    CloRel w w2.heap.size vc (c0 D 0) (w2.alloc (.cells #[.slice none 0 0, .slice none 0 0, vc, .int .u16 (D.z 0), .int .u16 (D.z 1), .int .i64 D.at_, .int .i64 D.calls] 39)) := by
  have hz := hk.size
  refine ⟨fun j => j = w2.heap.size ∨ vc.ownBlock = some j, fun _ => .slice none 0 0, ⟨⟨fun f hf p hp => ?_, hok.pc, hok.z, hok.at1, hok.at0, hok.calls1, hok.calls0⟩, fun j hj => ?_, .inl rfl, blk_new _ _ [.slice none 0 0, .slice none 0 0, vc, .int .u16 (D.z 0), .int .u16 (D.z 1), .int .i64 D.at_, .int .i64 D.calls], fun f hf => ?_, hr.alloc _, fun f j hf hj => ?_, fun j hj => ⟨.inr hj, ?_⟩, fun j hj => ?_, fun f j hf hj => ?_⟩, fun j hj => ?_, hk.alloc _⟩
  · simp [c0] at hp
  · rcases hj with rfl | hj
    · simp
    · have := (hr.lt j hj).2
      simp
      omega
  · have : (c0 D 0).s f = [] := by simp [c0]
    rw [this]
    exact World.ownsRow_nil _ 0 61 128
  · simp [Value.ownBlock] at hj
  · have := (hr.lt j hj).2
    omega
  · simp [Value.ownBlock] at hj
  · simp [Value.ownBlock] at hj
  · rcases hj with rfl | hj
    · exact hz
    · exact hv j hj
end

/-! ### append(nil, x...) -/
section
variable {o : Oper} {a : Act} {w : World}
theorem exec_nil35 (s x : Operand) (ho : o.op = .call { callee := .builtin .append, args := #[s, x], argTypes := #[35, 35] }) (hs : a.eval s = .slice none 0 0) (hx : a.eval x = .slice none 0 0) : (execOp a.eval o).run Yacd.prog w = .ok (.value (.slice none 0 0)) w := by
  unfold execOp
  simp only [ho, resolve, invoke, builtin, Sem.run_bind, Sem.run_pure, Result.andThen_ok, List.map_toArray, List.map_cons, List.map_nil, hs, hx]
  go_simp
theorem exec_nil33 (s x : Operand) (ho : o.op = .call { callee := .builtin .append, args := #[s, x], argTypes := #[33, 33] }) (hs : a.eval s = .slice none 0 0) (hx : a.eval x = .slice none 0 0) : (execOp a.eval o).run Yacd.prog w = .ok (.value (.slice none 0 0)) w := by
  unfold execOp
  simp only [ho, resolve, invoke, builtin, Sem.run_bind, Sem.run_pure, Result.andThen_ok, List.map_toArray, List.map_cons, List.map_nil, hs, hx]
  go_simp
theorem exec_append_src (s x : Operand) (t : TypeId) (hnil : a.eval s = .slice none 0 0 → a.eval x = .slice none 0 0 → (execOp a.eval o).run Yacd.prog w = .ok (.value (.slice none 0 0)) w) (ho : o.op = .call { callee := .builtin .append, args := #[s, x], argTypes := #[t, t] })
    (e : TypeId) {z : Value} {size bytes : Nat} (ht : Yacd.prog.underlying t = some (.slice e)) (hinfo : (Yacd.prog.info? e).map (fun i => (i.zero, i.size, i.bytes)) = some (some z, size, bytes))
    (hzs : z.cells.size = size) (hsz : 0 < size) (hs : a.eval s = .slice none 0 0) (v : Value) (n : Nat) (xs : List Value) (hx : a.eval x = v) (hsrc : SrcRow w size v n xs) (h1 : ∀ u ∈ xs, u.oneCell' = true)
    (h63 : n ≤ maxLen) (hbytes : n * bytes ≤ 140737488355328) :
    ∃ v' w', (execOp a.eval o).run Yacd.prog w = .ok (.value v') w' ∧ w'.ownsRow 0 e size v' n xs ∧ Keep Non w w' ∧ (v'.ownBlock = none ∨ v'.ownBlock = some w.heap.size) := by
  rcases hsrc with ⟨rfl, rfl, rfl⟩ | ⟨ad, c, rfl, hc1, hc2, hl, hcell⟩
  · exact ⟨.slice none 0 0, w, hnil hs hx, World.ownsRow_nil _ 0 e size, Keep.refl _ _, .inl rfl⟩
  · obtain ⟨v', w', hr, h2, h3, h4⟩ := run_append_mine (P := Yacd.prog) w t o.type e ht hinfo hzs hsz (.slice none 0 0) 0 [] (World.ownsRow_nil _ 0 e size) ad n c xs hl hcell h1 (by omega) (by simpa using hbytes)
    refine ⟨v', w', ?_, by simpa using h2, (Keep.refl Non w).grown h3 (fun k e => by simp [Value.ownBlock] at e), ?_⟩
    · unfold execOp
      simp only [ho, resolve, invoke, builtin, Sem.run_bind, Sem.run_pure, Result.andThen_ok, List.map_toArray, List.map_cons, List.map_nil, hs, hx, hr]
    · simpa [Value.ownBlock] using h4
end
section
variable {ops : Array Oper} {Q : Exit → Act → World → Prop} {S : World → Prop} {N : Act → World → Prop} {rest : List Oper} {o : Oper} {a : Act} {w : World}
theorem loud_append_src (hw : Region.wanted o (yielded ops a.tmps) = true) (s x : Operand) (t : TypeId) (hnil : a.eval s = .slice none 0 0 → a.eval x = .slice none 0 0 → (execOp a.eval o).run Yacd.prog w = .ok (.value (.slice none 0 0)) w) (ho : o.op = .call { callee := .builtin .append, args := #[s, x], argTypes := #[t, t] })
    (e : TypeId) {z : Value} {size bytes : Nat} (ht : Yacd.prog.underlying t = some (.slice e)) (hinfo : (Yacd.prog.info? e).map (fun i => (i.zero, i.size, i.bytes)) = some (some z, size, bytes))
    (hzs : z.cells.size = size) (hsz : 0 < size) (hs : a.eval s = .slice none 0 0) (v : Value) (n : Nat) (xs : List Value) (hx : a.eval x = v) (hsrc : SrcRow w size v n xs) (h1 : ∀ u ∈ xs, u.oneCell' = true)
    (h63 : n ≤ maxLen) (hbytes : n * bytes ≤ 140737488355328)
    (h : ∀ v' w', w'.ownsRow 0 e size v' n xs → Keep Non w w' → (v'.ownBlock = none ∨ v'.ownBlock = some w.heap.size) → S w' ∧ loudO Yacd.prog ops Q S N rest (a.put o.dst v') w') : loudO Yacd.prog ops Q S N (o :: rest) a w := by
  obtain ⟨v', w', hr, g1, g2, g3⟩ := exec_append_src s x t hnil ho e ht hinfo hzs hsz hs v n xs hx hsrc h1 h63 hbytes
  have := h v' w' g1 g2 g3
  exact loud_run hw hr this.1 this.2
theorem wl_append_src (hw : Region.wanted o (yielded ops a.tmps) = true) (s x : Operand) (t : TypeId) (hnil : a.eval s = .slice none 0 0 → a.eval x = .slice none 0 0 → (execOp a.eval o).run Yacd.prog w = .ok (.value (.slice none 0 0)) w) (ho : o.op = .call { callee := .builtin .append, args := #[s, x], argTypes := #[t, t] })
    (e : TypeId) {z : Value} {size bytes : Nat} (ht : Yacd.prog.underlying t = some (.slice e)) (hinfo : (Yacd.prog.info? e).map (fun i => (i.zero, i.size, i.bytes)) = some (some z, size, bytes))
    (hzs : z.cells.size = size) (hsz : 0 < size) (hs : a.eval s = .slice none 0 0) (v : Value) (n : Nat) (xs : List Value) (hx : a.eval x = v) (hsrc : SrcRow w size v n xs) (h1 : ∀ u ∈ xs, u.oneCell' = true)
    (h63 : n ≤ maxLen) (hbytes : n * bytes ≤ 140737488355328)
    (h : ∀ v' w', w'.ownsRow 0 e size v' n xs → Keep Non w w' → (v'.ownBlock = none ∨ v'.ownBlock = some w.heap.size) → wpList Yacd.prog ops Q rest (a.put o.dst v') w') : wpList Yacd.prog ops Q (o :: rest) a w := by
  obtain ⟨v', w', hr, g1, g2, g3⟩ := exec_append_src s x t hnil ho e ht hinfo hzs hsz hs v n xs hx hsrc h1 h63 hbytes
  unfold wpList
  rw [if_pos hw]
  refine .inl ?_
  unfold Oper.wp
  rw [hr]
  exact h v' w' g1 g2 g3
end
section
variable {b : Nat} {sv : Nat → Value} {cv : Value} {D : DS} {w : World}
theorem flat_one {L : List (List Value)} (h : ∀ p ∈ L, IsPg p) : ∀ u ∈ L.flatten, u.oneCell' = true := fun u hu => by
  obtain ⟨q, hq, hu'⟩ := List.mem_flatten.1 hu
  exact (h q hq).one u hu'
theorem flatc_one {c : List (Nat × Nat × List Value)} (h : ∀ e ∈ c, IsPg e.2.2) : ∀ u ∈ (c.map cwc).flatten, u.oneCell' = true := fun u hu => by
  obtain ⟨q, hq, hu'⟩ := List.mem_flatten.1 hu
  obtain ⟨e, he, rfl⟩ := List.mem_map.1 hq
  exact cwc_one (h e he) u hu'
set_option maxRecDepth 100000 in
set_option maxHeartbeats 1000000 in
theorem clone_any (hok : DOK D) (hblk : World.blk w b 39 [sv 0, sv 1, cv, .int .u16 (D.z 0), .int .u16 (D.z 1), .int .i64 D.at_, .int .i64 D.calls])
    (hs : ∀ f, f < 2 → SrcRow w 128 (sv f) (D.s f).length (D.s f).flatten) (hc : SrcRow w 130 cv D.c.length (D.c.map cwc).flatten)
    (bs : ∀ f, f < 2 → (D.s f).length * 128 ≤ 140737488355328) (bc : D.c.length * 132 ≤ 140737488355328) :
    Calls Yacd.prog 23 #[.pointer (some ⟨b, 0, none⟩)] w fun e w' => ∃ nb G, e = .returned (.pointer (some ⟨nb, 0, none⟩)) ∧ DiskAt w' G nb D ∧ (∀ j, G j → w.heap.size ≤ j) ∧ Keep Non w w' := by
  have hmx : D.c.length ≤ maxLen := by simp only [maxLen]; omega
  have q2 : w.drew.cell? ⟨b, 2, none⟩ = some cv := by rw [blk_cell (blk_drew hblk)]; rfl
  have q3 : w.drew.cell? ⟨b, 3, none⟩ = some (.int .u16 (D.z 0)) := by rw [blk_cell (blk_drew hblk)]; rfl
  have q4 : w.drew.cell? ⟨b, 4, none⟩ = some (.int .u16 (D.z 1)) := by rw [blk_cell (blk_drew hblk)]; rfl
  have q5 : w.drew.cell? ⟨b, 5, none⟩ = some (.int .i64 D.at_) := by rw [blk_cell (blk_drew hblk)]; rfl
  have q6 : w.drew.cell? ⟨b, 6, none⟩ = some (.int .i64 D.calls) := by rw [blk_cell (blk_drew hblk)]; rfl
  have hcv : ∃ ao n c, cv = .slice ao n c := by
    rcases hc with ⟨h, -⟩ | ⟨ad, c, h, -⟩
    · exact ⟨_, _, _, h⟩
    · exact ⟨_, _, _, h⟩
  obtain ⟨ao, n0, cp0, hcv⟩ := hcv
  subst hcv
  go_enter Yacd.func23, Yacd.ntmps23
  go_wp2_with fail
  refine wp_plan (fun w' => w'.cell? ⟨b, 3, none⟩ = some (.int .u16 (D.z 0)) ∧ w'.cell? ⟨b, 4, none⟩ = some (.int .u16 (D.z 1)) ∧ w'.cell? ⟨b, 5, none⟩ = some (.int .i64 D.at_) ∧ w'.cell? ⟨b, 6, none⟩ = some (.int .i64 D.calls)) [(0, 0), (0, 1), (0, 2), (2, 3), (0, 5), (0, 6), (0, 7), (1, 8), (0, 9), (0, 10), (0, 11), (1, 12), (0, 13), (0, 14), (0, 15), (1, 16)] [4] 17 [18, 19] (by kernel_rfl) (by kernel_rfl) (by kernel_rfl) ⟨q3, q4, q5, q6⟩ ?_
  intro N hN
  simp only [List.filterMap_cons, List.filterMap_nil, List.getElem?_toArray, List.getElem?_cons_succ, List.getElem?_cons_zero, Option.map_some] at hN ⊢
  repeat (first
    | (refine quiet_free (v := ?_) rfl ?_ ?_; rotate_left; focus (intro w'; go_simp; try with_reducible rfl))
    | (refine quiet_early (v := ?_) rfl ?_ ?_; rotate_left; focus (go_simp; try with_reducible rfl))
    | (refine quiet_held (v := ?_) rfl ?_ ?_; rotate_left; focus (intro w' hw'; obtain ⟨t3, t4, t5, t6⟩ := hw'; go_simp; try with_reducible rfl)))
  refine quiet_done (hN _ ?_)
  clear hN
  simp only [Act.put, List.setIfInBounds_toArray, List.set_cons_zero, List.set_cons_succ]
  refine loud_append_src rfl _ _ 35 (exec_nil35 _ _ rfl) rfl 76 Yacd.underlying35 info76 (by simp [Value.cells, cwc_len (e := (0, 0, zpg)) zpg_is]) (by omega) rfl (.slice ao n0 cp0) D.c.length (D.c.map cwc).flatten rfl (hc.keep ((Keep.refl Non w).drew)) (flatc_one (fun e he => (hok.pc e he).1)) hmx bc ?_
  intro vc w1 g1 k1 g3
  refine ⟨⟨k1.cell q3 (fun e => e), k1.cell q4 (fun e => e), k1.cell q5 (fun e => e), k1.cell q6 (fun e => e)⟩, loud_done ?_⟩
  obtain ⟨ac, cc, hvc, -, -⟩ := owns_slice g1
  subst hvc
  have hk1 : Keep Non w w1 := ((Keep.refl Non w).drew).trans_same k1
  have hst := CloRel.start hok hk1 g1 (fun j hj => by
    rcases g3 with e | e
    · rw [e] at hj
      cases hj
    · rw [e] at hj
      have : w.heap.size = j := by simpa using hj
      omega)
  clear q2 q3 q4 q5 q6 k1 g1 g3 hc
  simp only [Act.put, List.setIfInBounds_toArray, List.set_cons_zero, List.set_cons_succ]
  change wpList _ _ _ [_, _, _] _ _
  go_wp2_with fail
  refine NP.at_normal ?_
  go_wp2_with fail
  go_loopg [24] 2 (fun m i wr => ∃ k : Nat, k + m = 2 ∧ i = .int .i64 k ∧ CloRel w w1.heap.size (.slice ac D.c.length cc) (c0 D k) wr)
  case atStart => exact ⟨0, rfl, rfl, hst⟩
  case round =>
    obtain ⟨k, hkm, rfl, G, v', hI, hG, hK⟩ := hrel
    clear hst
    have hd := blk_keep hblk hK (fun e => e)
    by_cases hk : k < 2
    · have hk' : (k : Int) < 2 := by omega
      have hsv : ∃ ao n c, sv k = .slice ao n c := by
        rcases hs k hk with ⟨h, -⟩ | ⟨ad, c, h, -⟩
        · exact ⟨_, _, _, h⟩
        · exact ⟨_, _, _, h⟩
      obtain ⟨ak, nk, ck, hsv⟩ := hsv
      have hsk := (hs k hk).keep hK
      have cs : wr.drew.cell? ⟨b, k, none⟩ = some (sv k) := by
        have e := blk_cell (blk_drew hd) k
        rw [e]
        match k, hk with
        | 0, _ => rfl
        | 1, _ => rfl
      rw [hsv] at cs hsk
      have hbk := bs k hk
      have hmk : (D.s k).length ≤ maxLen := by simp only [maxLen]; omega
      have hall : ∀ q ∈ D.s k, IsPg q := hok.ps k hk
      go_wp2_with fail
      refine wp_plan (fun _ => True) [(0, 0), (0, 1), (0, 2), (0, 3), (0, 4), (0, 5), (0, 6), (2, 7), (0, 9), (0, 10)] [] 8 [11, 12] (by kernel_rfl) (by kernel_rfl) (by kernel_rfl) trivial ?_
      intro N hN
      simp only [List.filterMap_cons, List.filterMap_nil, List.getElem?_toArray, List.getElem?_cons_succ, List.getElem?_cons_zero, Option.map_some] at hN ⊢
      repeat (first
        | (refine quiet_free (v := ?_) rfl ?_ ?_; rotate_left; focus (intro w'; go_simp; try with_reducible rfl))
        | (refine quiet_early (v := ?_) rfl ?_ ?_; rotate_left; focus (go_simp; try with_reducible rfl)))
      refine quiet_done (hN _ (loud_done ?_))
      clear hN
      simp only [Act.put, List.setIfInBounds_toArray, List.set_cons_zero, List.set_cons_succ]
      change wpList _ _ _ [_, _, _] _ _
      refine wl_append_src rfl _ _ 33 (exec_nil33 _ _ rfl) rfl 61 Yacd.underlying33 info61 (by simp [Value.cells, zpg_is.len]) (by omega) rfl (.slice ak nk ck) (D.s k).length (D.s k).flatten rfl (hsk.keep ((Keep.refl Non wr).drew)) (flat_one hall) hmk hbk ?_
      intro v1 w2 g1 k1 g3
      have kr2 : Keep Non wr w2 := ((Keep.refl Non wr).drew).trans_same k1
      have hb2 := blk_keep hI.blk kr2 (fun e => e)
      have c2 : w2.cell? ⟨w1.heap.size, k, none⟩ = some (v' k) := by rw [blk_cell hb2, ← blk_cell hI.blk]; exact hI.cStable k hk
      have f2 : w2.frozen? ⟨w1.heap.size, k, none⟩ = false := blk_frozen hb2 k
      obtain ⟨a1, p1, hv1, -, -⟩ := owns_slice g1
      subst hv1
      go_wp2_with fail
      refine NP.at_normal ?_
      go_wp2_with fail
      go_roundg (gk - 1)
      case measure => omega
      case rel => exact ⟨k + 1, by omega, by go_num, CloRel.like (CloRel.put hk hall hI hG hK g1 kr2 (g3.imp id fun e => ⟨_, e, Nat.le_refl _⟩) rfl) (fun f hf => c0_step k f) rfl (fun _ _ => rfl) rfl rfl⟩
    · obtain rfl : k = 2 := by omega
      go_wp2_with fail
      go_ret
      refine ⟨w1.heap.size, G, rfl, ⟨v', _, hI.like (fun f hf => ?_) rfl (fun _ _ => rfl) rfl rfl⟩, hG, hK⟩
      show D.s f = if f < 2 then D.s f else []
      rw [if_pos hf]
end
end Go.Proofs.Ygdacg
