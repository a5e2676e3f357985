/-
  FillPage: some page, and nothing that was there has turned.
-/
import Derived.Test.YgdacgBlocks
namespace Go.Proofs.Ygdacg
open Go.RowKit
set_option linter.unusedVariables false
set_option linter.unusedSimpArgs false
attribute [local simp] zero61

theorem IsPg.set {p : List Value} (h : IsPg p) (j : Nat) (n : Int) : IsPg (p.set j (.int .u8 n)) := by
  refine ⟨by simp [h.len], fun v hv => ?_⟩
  rcases List.mem_or_eq_of_mem_set hv with hv | rfl
  · exact h.byte v hv
  · exact ⟨n, rfl⟩

set_option maxRecDepth 100000 in
set_option maxHeartbeats 1000000 in
theorem fill_any (pg fill : Int) (w : World) :
    Calls Yacd.prog 17 #[.int .u16 pg, .int .u8 fill] w fun e w' => ∃ p, IsPg p ∧ e = .returned (.agg p.toArray) ∧ Keep Non w w' := by
  go_enter Yacd.func17, Yacd.ntmps17
  go_wp2_with fail
  go_loopg [7] 128 (fun k i wr => ∃ n : Nat, n + k = 128 ∧ i = .int .i64 n ∧ Keep Non w wr ∧ ∃ cur : List Value, IsPg cur ∧ World.blk wr (w.heap.size + 1) 61 cur ∧ World.blk wr w.heap.size 61 zpg)
  case atStart =>
    refine ⟨0, rfl, rfl, ((Keep.refl _ _).alloc _).alloc _, zpg, zpg_is, ?_, blk_alloc (blk_new _ _ _) _⟩
    have := blk_new (w.alloc (.cells zpg.toArray 61)) 61 zpg
    simpa using this
  case round =>
    obtain ⟨n, hn, rfl, hk, cur, hcur, hb1, hb0⟩ := hrel
    have hlen := hcur.len
    by_cases hlt : n < 128
    · obtain ⟨c, hc⟩ : ∃ c, wr.cell? ⟨w.heap.size + 1, n, none⟩ = some c := ⟨cur[n]'(by omega), by rw [blk_cell hb1]; simp [show n < cur.length by omega]⟩
      have hf : wr.frozen? ⟨w.heap.size + 1, n, none⟩ = false := blk_frozen hb1 n
      clear hlen
      go_wp2
      go_roundg (gk - 1)
      case measure => omega
      case rel => exact ⟨n + 1, by omega, by go_num, hk.setCell _ (.inr (by simp)), _, hcur.set n _, blk_set hb1 n _, blk_set_other hb0 (by simp) _⟩
    · obtain rfl : n = 128 := by omega
      go_wp2_with (first | (refine wl_load61 rfl _ rfl _ _ rfl cur hlen (blk_range hb1) ?_) | (refine wl_store61 rfl _ _ rfl _ _ cur rfl rfl hlen hcur.one (blk_there hb0 _ (by simp [zpg])) ?_))
      refine bodyPost_ret (v := .agg cur.toArray) (results61 rfl rfl hlen ?_) rfl ⟨cur, hcur, rfl, hk.setCells _ _ _ (.inr (Nat.le_refl _))⟩
      exact blk_range (blk_sets_whole hb0 cur (by simp [zpg, hlen]))
end Go.Proofs.Ygdacg
