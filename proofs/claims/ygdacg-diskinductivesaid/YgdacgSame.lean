/-
  New, DiskKeeps$1, realDisk.Reboot, sameDisk.
-/
import Derived.Test.YgdacgModReboot
import Derived.Test.YgdacgModRead
import Derived.Test.YgdacgReboot
namespace Go.Proofs.Ygdacg
open Go.RowKit
set_option linter.unusedVariables false
set_option linter.unusedSimpArgs false
attribute [local simp] zero61 zero76 zero82

/-- The disk, xs the interface's value. -/
def dv (b : Nat) : Value := .iface 30 (.agg #[.pointer (some ⟨b, 0, none⟩)])
def newD (at_ : Int) : DS := { s := fun _ => [], c := [], z := fun _ => 0, at_ := at_, calls := 0 }
theorem m_dead (a : Addr) (w : World) : (method 204 30 (.agg #[.pointer (some a)]) "Dead").run Yacd.prog w = .ok (29, .pointer (some a)) w := by kernel_rfl
theorem m_size (a : Addr) (w : World) : (method 204 30 (.agg #[.pointer (some a)]) "Size").run Yacd.prog w = .ok (27, .pointer (some a)) w := by kernel_rfl
theorem m_read (a : Addr) (w : World) : (method 204 30 (.agg #[.pointer (some a)]) "Read").run Yacd.prog w = .ok (25, .pointer (some a)) w := by kernel_rfl
theorem m_write (a : Addr) (w : World) : (method 204 30 (.agg #[.pointer (some a)]) "Write").run Yacd.prog w = .ok (10, .pointer (some a)) w := by kernel_rfl
theorem m_sync (a : Addr) (w : World) : (method 204 30 (.agg #[.pointer (some a)]) "Sync").run Yacd.prog w = .ok (26, .pointer (some a)) w := by kernel_rfl
theorem m_reboot (a : Addr) (w : World) : (method 204 30 (.agg #[.pointer (some a)]) "Reboot").run Yacd.prog w = .ok (51, .agg #[.pointer (some a)]) w := by kernel_rfl
section
variable {w w' : World} {F G : Nat → Prop} {b m : Nat} {D : DS} {M : MS}
set_option maxHeartbeats 400000 in
theorem new_any (at_ : Int) (ha : at_ ≤ 9223372036854775807) (ha0 : -9223372036854775808 ≤ at_) :
    Calls Yacd.prog 8 #[.int .i64 at_] w fun e w' => e = .returned (.pointer (some ⟨w.heap.size, 0, none⟩)) ∧ RebRel w w.heap.size (newD at_) w' := by
  have hst := (RebRel.start (D := newD at_) w at_ ha ha0).like (D' := newD at_) (fun _ _ => by rfl) rfl (fun _ _ => by rfl) rfl rfl
  clear ha ha0
  go_enter Yacd.func8, Yacd.ntmps8
  go_wp2_with fail
  go_ret
  exact ⟨rfl, hst⟩
set_option maxHeartbeats 400000 in
theorem mk_any (at_ : Int) (ha : at_ ≤ 9223372036854775807) (ha0 : -9223372036854775808 ≤ at_) :
    Calls Yacd.prog 7 #[.int .i64 at_] w fun e w' => e = .returned (dv w.heap.size) ∧ RebRel w w.heap.size (newD at_) w' := by
  have hc := new_any (w := w) at_ ha ha0
  clear ha ha0
  go_enter Yacd.func7, Yacd.ntmps7
  go_wp2_with (go_at_call 8; refine hc.mono ?_; rintro e w1 ⟨rfl, h1⟩)
  go_ret
  exact ⟨rfl, h1⟩
set_option maxHeartbeats 400000 in
theorem rreboot_any (h : DiskAt w F b D) (keep at_ : Int) (ha : at_ ≤ 9223372036854775807) (ha0 : -9223372036854775808 ≤ at_) (hl : D.c.length ≤ 2048) (hsl : ∀ f, f < 2 → (D.s f).length ≤ 1024) (hf : ∀ e ∈ D.c, e.1 < 2) (hpg : ∀ e ∈ D.c, e.2.1 < 1024) :
    Calls Yacd.prog 51 #[.agg #[.pointer (some ⟨b, 0, none⟩)], .int .u64 keep, .int .i64 at_] w fun e w' => e = .returned (dv (w.heap.size + 1)) ∧ ∃ G, DiskAt w' G (w.heap.size + 1) (rebooted D keep at_) ∧ (∀ j, G j → w.heap.size ≤ j) ∧ Keep Non w w' := by
  have h1 : DiskAt (w.alloc (.cells #[.pointer (some ⟨b, 0, none⟩)] 30)) F b D := h.keep ((Keep.refl Non w).alloc _) (fun _ _ h => h)
  have hc := reboot_any h1 keep at_ ha ha0 hl hsl hf hpg
  clear ha ha0 h1
  go_enter Yacd.func51, Yacd.ntmps51
  go_wp2_with (go_at_call 28; refine hc.mono ?_; rintro e w1 ⟨rfl, h1⟩)
  go_ret
  refine ⟨rfl, ?_⟩
  obtain ⟨G, v', hI, hG, hK⟩ := h1
  have e1 : (w.alloc (Obj.cells #[Value.pointer (some { block := b, off := 0 })] 30)).heap.size = w.heap.size + 1 := by simp
  rw [e1] at hI
  refine ⟨G, ⟨v', _, hI⟩, fun j hj => ?_, ((Keep.refl _ _).alloc _).trans_same hK⟩
  have := hG j hj
  simp at this
  omega


theorem exec_neq61 (p : List Value) (hp : IsPg p) (w : World) : (binOp .neq 61 (.agg p.toArray) (.agg p.toArray)).run Yacd.prog w = .ok (.bool false) w := by
  rw [run_neq_struct, Op.equalIn]
  have hsz : ∀ w, (sizeOf 5).run Yacd.prog w = .ok 1 w := fun w => by kernel_rfl
  simp only [Sem.run_bind, run_underlying Yacd.underlying61, Result.andThen_ok, hsz, Std.Legacy.Range.forIn_eq_forIn_range', Std.Legacy.Range.size, Nat.sub_zero, Nat.add_sub_cancel, Nat.div_one]
  have hl : ∀ i ∈ List.range' 0 128 1, i < 128 := fun i hi => by simpa using (List.mem_range'_1.1 hi).2
  generalize List.range' 0 128 1 = l at hl ⊢
  induction l with
  | nil => simp
  | cons i l ih =>
    have hi : i < p.length := by rw [hp.len]; exact hl i (by simp)
    obtain ⟨x, hx⟩ := hp.byte p[i] (List.getElem_mem hi)
    have px : (part 5 p.toArray (i * 1)).run Yacd.prog w = .ok (.int .u8 x) w := by
      simp [part, isAgg, run_underlying Yacd.underlying5, List.getElem?_eq_getElem hi, hx]
    have pe : (Op.equalIn 9999 5 (.int .u8 x) (.int .u8 x)).run Yacd.prog w = .ok true w := by
      rw [run_equalIn_int w 9998 5 .u8 .u8 _ _ Yacd.underlying5]
      simp
    simp only [List.forIn_cons, Sem.run_bind, px, pe, Result.andThen_ok]
    simp only [Bool.not_true, Bool.false_eq_true, if_false, Sem.run_pure, Result.andThen_ok]
    exact ih fun j hj => hl j (by simp [hj])

theorem exec_neq {o : Oper} {a : Act} {w : World} (x y : Operand) (ho : o.op = .binOp .neq 61 x y 61) (p : List Value) (hx : a.eval x = .agg p.toArray) (hy : a.eval y = .agg p.toArray) (hp : IsPg p) : (execOp a.eval o).run Yacd.prog w = .ok (.value (.bool false)) w := by
  unfold execOp
  have hg : Yacd.prog.eqGuardType Yacd.prog.depth 61 = false := by kernel_rfl
  simp only [ho, hx, hy, Sem.run_bind, run_eqGuard_agg w .neq 61 x y _ _ hg, exec_neq61 p hp, Result.andThen_ok, Sem.run_pure]
/-- An operation that is asked for, guarded or not, and gives a value. -/
theorem wl_want {ops : Array Oper} {rest : List Oper} {o : Oper} {a : Act} {w w' : World} {Q : Exit → Act → World → Prop} {v : Value} (hw : Region.wanted o (yielded ops a.tmps) = true) (hex : (execOp a.eval o).run Yacd.prog w = .ok (.value v) w')
    (h : wpList Yacd.prog ops Q rest (a.put o.dst v) w') : wpList Yacd.prog ops Q (o :: rest) a w := by
  unfold wpList
  rw [if_pos hw]
  refine .inl ?_
  unfold Oper.wp
  rw [hex]
  exact h
theorem exec_invoke {o : Oper} {a : Act} {w : World} (x : Operand) (name : String) (args : Array Operand) (tys : Array TypeId) (ho : o.op = .call { callee := .invoke x name, args := args, argTypes := tys }) (b : Nat) (hx : a.eval x = dv b) (f : FuncId) (recv : Value)
    (hm : ∀ w, (method 204 30 (.agg #[.pointer (some ⟨b, 0, none⟩)]) name).run Yacd.prog w = .ok (f, recv) w) (hc : ∀ xs w, (callFunc f xs).run Yacd.prog w = .ok (.enter f xs) w) (xs : Array Value) (has : #[recv] ++ args.map a.eval = xs) :
    (execOp a.eval o).run Yacd.prog w = .ok (.enter f xs) w := by
  have hn : Yacd.prog.types.size + Made.depth = 204 := by kernel_rfl
  have he : (#[dv b] ++ args.map a.eval).extract 1 (#[dv b] ++ args.map a.eval).size = args.map a.eval := by
    apply Array.ext'
    simp
    rw [List.take_of_length_le (by simp)]
  have h0 : (#[dv b] ++ args.map a.eval)[0]? = some (dv b) := by
    rw [Array.getElem?_append_left (by simp)]
    rfl
  have h1 : (invoke (.fn (.method name) #[]) (#[dv b] ++ args.map a.eval)).run Yacd.prog w = .ok (.enter f xs) w := by
    unfold invoke
    simp only [h0, he]
    simp only [callMethod, dv, Sem.run_bind, run_program, Result.andThen_ok, hn, hm, has, hc]
  unfold execOp
  simp only [ho, resolve, hx, Sem.run_bind, Sem.run_pure, Result.andThen_ok, h1]
theorem wl_invoke {ops : Array Oper} {rest : List Oper} {o : Oper} {a : Act} {w : World} {Q : Exit → Act → World → Prop} (hgd : o.guard = none) (x : Operand) (name : String) (args : Array Operand) (tys : Array TypeId) (ho : o.op = .call { callee := .invoke x name, args := args, argTypes := tys }) (b : Nat) (hx : a.eval x = dv b) (f : FuncId) (recv : Value)
    (hm : ∀ w, (method 204 30 (.agg #[.pointer (some ⟨b, 0, none⟩)]) name).run Yacd.prog w = .ok (f, recv) w) (hc : ∀ xs w, (callFunc f xs).run Yacd.prog w = .ok (.enter f xs) w) (xs : Array Value) (has : #[recv] ++ args.map a.eval = xs)
    {v : Value} {R : World → Prop} (hcall : Calls Yacd.prog f xs w fun e w' => e = .returned v ∧ R w') (h : ∀ w', R w' → wpList Yacd.prog ops Q rest (a.put o.dst v) w') : wpList Yacd.prog ops Q (o :: rest) a w :=
  wpList_plain hgd fun K hK => by
    unfold Oper.wp
    rw [exec_invoke x name args tys ho b hx f recv hm hc xs has]
    refine hcall.mono ?_
    rintro e w' ⟨rfl, hR⟩
    exact hK _ _ (h w' hR)
theorem c_10 (xs : Array Value) (w : World) : (callFunc 10 xs).run Yacd.prog w = .ok (.enter 10 xs) w := by kernel_rfl
theorem c_25 (xs : Array Value) (w : World) : (callFunc 25 xs).run Yacd.prog w = .ok (.enter 25 xs) w := by kernel_rfl
theorem c_26 (xs : Array Value) (w : World) : (callFunc 26 xs).run Yacd.prog w = .ok (.enter 26 xs) w := by kernel_rfl
theorem c_27 (xs : Array Value) (w : World) : (callFunc 27 xs).run Yacd.prog w = .ok (.enter 27 xs) w := by kernel_rfl
theorem c_29 (xs : Array Value) (w : World) : (callFunc 29 xs).run Yacd.prog w = .ok (.enter 29 xs) w := by kernel_rfl
theorem c_51 (xs : Array Value) (w : World) : (callFunc 51 xs).run Yacd.prog w = .ok (.enter 51 xs) w := by kernel_rfl
section
variable {ops : Array Oper} {rest : List Oper} {o : Oper} {a : Act} {w : World} {Q : Exit → Act → World → Prop} {b : Nat} {v : Value} {R : World → Prop} {tys : Array TypeId}
theorem wl_inv_dead (hgd : o.guard = none) (x : Operand) (ho : o.op = .call { callee := .invoke x "Dead", args := #[], argTypes := tys }) (hx : a.eval x = dv b)
    (hcall : Calls Yacd.prog 29 #[.pointer (some ⟨b, 0, none⟩)] w fun e w' => e = .returned v ∧ R w') (h : ∀ w', R w' → wpList Yacd.prog ops Q rest (a.put o.dst v) w') : wpList Yacd.prog ops Q (o :: rest) a w :=
  wl_invoke hgd x _ #[] tys ho b hx 29 (.pointer (some ⟨b, 0, none⟩)) (m_dead _) c_29 #[.pointer (some ⟨b, 0, none⟩)] (by simp) hcall h
theorem wl_inv_size (hgd : o.guard = none) (x y : Operand) (ho : o.op = .call { callee := .invoke x "Size", args := #[y], argTypes := tys }) (hx : a.eval x = dv b) (vy : Value) (hy : a.eval y = vy)
    (hcall : Calls Yacd.prog 27 #[.pointer (some ⟨b, 0, none⟩), vy] w fun e w' => e = .returned v ∧ R w') (h : ∀ w', R w' → wpList Yacd.prog ops Q rest (a.put o.dst v) w') : wpList Yacd.prog ops Q (o :: rest) a w :=
  wl_invoke hgd x _ #[y] tys ho b hx 27 (.pointer (some ⟨b, 0, none⟩)) (m_size _) c_27 #[.pointer (some ⟨b, 0, none⟩), vy] (by simp [hy]) hcall h
theorem wl_inv_read (hgd : o.guard = none) (x y z : Operand) (ho : o.op = .call { callee := .invoke x "Read", args := #[y, z], argTypes := tys }) (hx : a.eval x = dv b) (vy vz : Value) (hy : a.eval y = vy) (hz : a.eval z = vz)
    (hcall : Calls Yacd.prog 25 #[.pointer (some ⟨b, 0, none⟩), vy, vz] w fun e w' => e = .returned v ∧ R w') (h : ∀ w', R w' → wpList Yacd.prog ops Q rest (a.put o.dst v) w') : wpList Yacd.prog ops Q (o :: rest) a w :=
  wl_invoke hgd x _ #[y, z] tys ho b hx 25 (.pointer (some ⟨b, 0, none⟩)) (m_read _) c_25 #[.pointer (some ⟨b, 0, none⟩), vy, vz] (by simp [hy, hz]) hcall h
theorem wl_inv_reboot (hgd : o.guard = none) (x y z : Operand) (ho : o.op = .call { callee := .invoke x "Reboot", args := #[y, z], argTypes := tys }) (hx : a.eval x = dv b) (vy vz : Value) (hy : a.eval y = vy) (hz : a.eval z = vz)
    (hcall : Calls Yacd.prog 51 #[.agg #[.pointer (some ⟨b, 0, none⟩)], vy, vz] w fun e w' => e = .returned v ∧ R w') (h : ∀ w', R w' → wpList Yacd.prog ops Q rest (a.put o.dst v) w') : wpList Yacd.prog ops Q (o :: rest) a w :=
  wl_invoke hgd x _ #[y, z] tys ho b hx 51 (.agg #[.pointer (some ⟨b, 0, none⟩)]) (m_reboot _) c_51 #[.agg #[.pointer (some ⟨b, 0, none⟩)], vy, vz] (by simp [hy, hz]) hcall h
end
theorem readD_is (hok : DOK D) (f pg : Nat) : IsPg (readD D f pg).1 := by
  unfold readD
  split
  · exact zpg_is
  · rename_i hno
    split
    · rename_i e he
      have := List.mem_of_find?_eq_some he
      exact (hok.pc e (List.mem_reverse.1 this)).1
    · show IsPg (((D.s f)[pg]?).getD zpg)
      cases hg : (D.s f)[pg]? with
      | none => exact zpg_is
      | some q =>
        refine hok.ps f ?_ q (List.mem_of_getElem? hg)
        have : ¬ 1 < f := fun h0 => hno (by simp [h0])
        omega
theorem sizeD_le (hz1 : ∀ f, f < 2 → D.z f ≤ 1024) (f : Nat) : sizeD D f ≤ 1024 := by
  unfold sizeD
  split
  · omega
  · rename_i hno
    exact hz1 f (by
      have : ¬ 1 < f := fun h0 => hno (by simp [h0])
      omega)
set_option maxRecDepth 100000 in
set_option maxHeartbeats 1000000 in
theorem same_any (h : DiskAt w F b D) (hm : ModAt w G m M) (hd : dead D = false) (hz1 : ∀ f, f < 2 → D.z f ≤ 1024) (hlen : M.ws.length ≤ 4096) (hz : ∀ f, f < 2 → sizeM M f = sizeD D f) (hr : ∀ f pg, f < 2 → readM M f pg = readD D f pg) :
    Calls Yacd.prog 22 #[dv b, .pointer (some ⟨m, 0, none⟩)] w fun e w' => e = .returned (.bool true) ∧ Keep Non w w' := by
  have hok : DOK D := by obtain ⟨v, vc, h⟩ := h; exact h.ok
  have HD : Hid (dead D = false) := hd
  have Hz1 : Hid (∀ f, f < 2 → D.z f ≤ 1024) := hz1
  have Hz : Hid (∀ f, f < 2 → sizeM M f = sizeD D f) := hz
  have Hr : Hid (∀ f pg, f < 2 → readM M f pg = readD D f pg) := hr
  clear hd hz1 hz hr
  go_enter Yacd.func22, Yacd.ntmps22
  go_wp2_with (refine wl_inv_dead rfl _ rfl rfl (dead_any h) ?_; rw [HD.out]; rintro w1 ⟨n1, rfl⟩)
  go_loopg [5] 2 (fun q i wr => ∃ k : Nat, k + q = 2 ∧ i = .int .u8 k ∧ Keep Non w wr)
  case atStart => exact ⟨0, by omega, rfl, (Keep.refl _ _).drewN _⟩
  case round =>
    obtain ⟨k, hkq, rfl, hK⟩ := hrel
    by_cases hk : k < 2
    · have hk' : (k : Int) < 2 := by omega
      have hzk := sizeD_le Hz1.out k
      have hzk' : (sizeD D k : Int) ≤ 1024 := by omega
      go_wp2_with (first | (refine wl_inv_size rfl _ _ rfl rfl (.int .u8 k) rfl (size_any (h.keep hK (fun _ _ e => e)) k) ?_; rintro w2 ⟨n2, rfl⟩) | (go_at_call 20; refine (sizeM_any (hm.keep (hK.drewN n2) (fun _ _ e => e)) k hlen).mono ?_; rw [Hz.out k hk]; rintro e w3 ⟨rfl, hk3⟩))
      have hK3 := (hK.drewN n2).trans_same hk3
      go_loopg [6] (sizeD D k + 1) (fun q j wr => ∃ pg : Nat, pg + q = sizeD D k + 1 ∧ j = .int .u16 pg ∧ Keep Non w wr)
      case atStart => exact ⟨0, by omega, rfl, hK3⟩
      case round =>
        obtain ⟨pg, hpq, rfl, hKr⟩ := hrel
        by_cases hp : pg < sizeD D k + 1
        · have hp' : (pg : Int) ≤ (sizeD D k : Int) := by omega
          have hpg := readD_is hok k pg
          go_wp2_with (first | (refine wl_inv_size rfl _ _ rfl rfl (.int .u8 k) rfl (size_any (h.keep hKr (fun _ _ e => e)) k) ?_; rintro w4 ⟨n4, rfl⟩) | (refine wl_inv_read rfl _ _ _ rfl rfl (.int .u8 k) (.int .u16 pg) rfl rfl (read_any (h.keep (hKr.drewN n4) (fun _ _ e => e)) k pg Hz1.out) ?_; rintro w5 hk5) | (refine wl_store61_new rfl _ _ rfl w5.heap.size (readD D k pg).1 zpg rfl rfl hpg.len hpg.one (blk_new _ _ _) zpg_is.len ?_))
          intro w6 hb6 hk6 hs6
          have hK6 : Keep Non w w6 := ((hKr.drewN n4).trans_same hk5).trans (((Keep.refl (fun k => k = w5.heap.size) w5).alloc _).trans_same hk6) (fun j e hlt => by have := ((hKr.drewN n4).trans_same hk5).size; omega)
          go_wp2_with (first | (go_at_call 16; refine (readM_any (hm.keep hK6 (fun _ _ e => e)) k pg hlen).mono ?_; rw [Hr.out k pg hk]; rintro e w7 ⟨rfl, hk7⟩) | (refine wl_store61_new rfl _ _ rfl w7.heap.size (readD D k pg).1 zpg rfl rfl hpg.len hpg.one (blk_new _ _ _) zpg_is.len ?_))
          intro w8 hb8 hk8 hs8
          have hK78 : Keep Non w6 w8 := hk7.trans (((Keep.refl (fun k => k = w7.heap.size) w7).alloc _).trans_same hk8) (fun j e hlt => by have := hk7.size; omega)
          have hb6' := blk_keep hb6 hK78 (fun e => e)
          go_wp2_with (first | (refine wl_want rfl (exec_load61 _ rfl w5.heap.size 0 rfl (readD D k pg).1 hpg.len (blk_range hb6')) ?_) | (refine wl_want rfl (exec_load61 _ rfl w7.heap.size 0 rfl (readD D k pg).1 hpg.len (blk_range hb8)) ?_) | (refine wl_want rfl (exec_neq _ _ rfl (readD D k pg).1 rfl rfl hpg) ?_))
          go_roundg (gk - 1)
          case measure => omega
          case rel => exact ⟨pg + 1, by omega, by go_num, hK6.trans_same hK78⟩
        · have hp' : ¬ (pg : Int) ≤ (sizeD D k : Int) := by omega
          have hp1 : decide ((pg : Int) ≤ (sizeD D k : Int)) = false := decide_eq_false hp'
          go_wp2_with (refine wl_inv_size rfl _ _ rfl rfl (.int .u8 k) rfl (size_any (h.keep hKr (fun _ _ e => e)) k) ?_; rintro w4 ⟨n4, rfl⟩)
          go_roundg (1 - k)
          case measure => omega
          case rel => exact ⟨k + 1, by omega, by go_num, hKr.drewN _⟩
    · have hk' : ¬ (k : Int) < 2 := by omega
      go_wp2_with fail
      go_ret
      exact ⟨rfl, hK⟩
end
end Go.Proofs.Ygdacg
