/-
  Rows.DiskKeepsSaid: the row.
-/
import Derived.Test.YgdacgRows
import Derived.Test.YgdacgKeeps
import Derived.Test.YgdacgOpen
import Derived.WalkKit
import Derived.ProofKit
import Derived.OpenShut
import Derived.ShutString
import Derived.ChangeOld
import Derived.Below
namespace Go.Proofs.Ygdacg.diskKeeps
open Go.ChangeShapes Go.WideShapes Go.ChangeAt Go.RowKit
set_option linter.unusedVariables false
set_option linter.unusedSimpArgs false

theorem own : ownKnob Yacd.prog.godebug = none := by kernel_rfl
theorem laidOut : laidOutB Yacd.prog = true := by kernel_rfl

set_option maxHeartbeats 400000 in
theorem walk (w : World) (ov pv : Value) (os : List (Nat × Nat × Nat × Nat)) (ps : List (Int × Int)) (hS : Script w w.heap.size ov os) (hP : Plans w w.heap.size pv ps)
    (hpl : ∀ j, (planL ps j).1 ≤ 9223372036854775807 ∧ -9223372036854775808 ≤ (planL ps j).1 ∧ 0 ≤ (planL ps j).2 ∧ (planL ps j).2 ≤ 18446744073709551615) :
    Calls Yacd.prog 3 #[ov, pv] w fun e w' => e = .returned (.bool true) ∧ Below w.heap.size w w' := by
  have hc := keeps_any w ov pv os ps hS hP hpl
  clear hpl
  go_enter Yacd.func3, Yacd.ntmps3
  go_wp2_with (go_at_call 6; refine hc.mono ?_; rintro e w1 ⟨rfl, hk⟩)
  go_ret
  exact ⟨rfl, hk.below (Nat.le_refl _) (fun _ e => e.elim)⟩

set_option maxRecDepth 100000 in
theorem lifted (os : Os) (started : os.Started) (H : Type) (enc : TypeId × Value → H) :
    ReturnsInHanded {} Yacd.checked os 3 .any (Rows.diskKeepsSpec.pre6 enc Yacd.prog Yacd.f3 Rows.diskKeepsRow.domain false) (Rows.diskKeepsSpec.post enc Yacd.prog Yacd.f3 false true false false) := by
  refine returnsInHanded_of_change (C := Yacd.checked) own started (by kernel_rfl) Yacd.func3
    (ChangeSpec.witness6 (enc := enc) (C := Yacd.checked) false ⟨#[], #[.slice none 0 0, .slice none 0 0], []⟩ 8 (by kernel_rfl) (by kernel_rfl) (by kernel_rfl) (by kernel_rfl)) ?_
  intro W base args ds gs before hval0 hW hcnd _
  have hval : ∀ (j : Nat) t v, Yacd.f3.params[j]? = some t → args[j]? = some v → Value.okWide Yacd.prog W .any base t v := hval0
  have hW' := hW
  obtain ⟨p, q, hA0, hV, rfl, hfz, hnd⟩ := hW
  have hA : DataW.TrodAll enc Yacd.prog W 0 (fun _ => true) true Yacd.f3.params.toList args.toList ds p := hA0
  rw [Yacd.params3] at hA hval
  obtain ⟨v0, vs0, d0, ds0, p0, q0, hargs, rfl, rfl, h0, r0⟩ := trodAll_cons hA
  obtain ⟨v1, vs1, d1, ds1, p1, q1, rfl, rfl, rfl, h1, r1⟩ := trodAll_cons r0
  obtain ⟨rfl, rfl, rfl⟩ := trodAll_nil r1
  obtain rfl : args = #[v0, v1] := by cases args; simp_all
  obtain ⟨rfl, rfl⟩ := trodVars_none hV
  obtain ⟨a0, len0, cap0, rfl⟩ := okWide_slice Yacd.underlying22 (hval 0 22 v0 rfl rfl)
  have k0 := h0
  have lt0 : ∀ x ∈ p0, x.block < W.heap.size := by obtain ⟨m, hm⟩ := k0; exact DataW.trod_lt m _ _ _ hm
  obtain ⟨ol, hS⟩ : ∃ ol, Script W W.heap.size (.slice a0 len0 cap0) ol := by
    obtain ⟨fuel, hf⟩ := h0
    exact script_of hf
  obtain ⟨a1, len1, cap1, rfl⟩ := okWide_slice Yacd.underlying23 (hval 1 23 v1 rfl rfl)
  have k1 := h1
  have lt1 : ∀ x ∈ p1, x.block < W.heap.size := by obtain ⟨m, hm⟩ := k1; exact DataW.trod_lt m _ _ _ hm
  obtain ⟨ps, hP, hpl⟩ : ∃ ps, Plans W W.heap.size (.slice a1 len1 cap1) ps ∧ ∀ j, (planL ps j).1 ≤ 9223372036854775807 ∧ -9223372036854775808 ≤ (planL ps j).1 ∧ 0 ≤ (planL ps j).2 ∧ (planL ps j).2 ≤ 18446744073709551615 := by
    obtain ⟨fuel, hf⟩ := h1
    exact plans_of hf
  clear hA0 hval0
  refine (walk W (.slice a0 len0 cap0) (.slice a1 len1 cap1) ol ps hS hP hpl).mono fun e W' ⟨he, bel⟩ => ?_
  subst he
  exact ⟨_, rfl, _, _, _, [], _, [], hW', trodAll_mk1 (shut_bool Yacd.underlying4 _), (trodAll_cons_mk (Below.trod laidOut (by kernel_rfl) (of_decide_eq_true (by kernel_rfl)) k0 bel lt0) (trodAll_cons_mk (Below.trod laidOut (by kernel_rfl) (of_decide_eq_true (by kernel_rfl)) k1 bel lt1) trodAll_mk0)), rfl, bel.frame _, fun h => by cases h⟩

theorem over : Rows.diskKeepsRow.holds Yacd.pinned (OpenSpec.ofChange Rows.diskKeepsSpec) :=
  OpenClaim.holds_of_wide 3 Yacd.f3 rfl rfl rfl rfl rfl rfl rfl ⟨rfl, rfl, rfl, rfl, rfl⟩ rfl rfl rfl rfl rfl (by kernel_rfl) Yacd.func3 (by kernel_rfl)
    (of_decide_eq_true (by kernel_rfl)) (by unfold Func.isWrapper; first | (rw [if_pos (by decide +kernel)]; kernel_rfl) | (rw [if_neg (by decide +kernel)]; exact ⟨rfl, rfl⟩))
    (fun os started H enc _ => lifted os started H enc)
end Go.Proofs.Ygdacg.diskKeeps
namespace Go.Proofs.Ygdacg
/-- THE STATEMENT. -/
theorem diskKeeps_proved : Rows.DiskKeepsSaid := diskKeeps.over
end Go.Proofs.Ygdacg
