/-
  Rows.DiskInductiveSaid: the row.
-/
import Derived.Test.YgdacgRows
import Derived.Test.YgdacgInd
import Derived.Test.YgdacgOpen2
import Derived.WalkKit
import Derived.ProofKit
import Derived.OpenShut
import Derived.ShutString
import Derived.ChangeOld
import Derived.Below
namespace Go.Proofs.Ygdacg.diskInductive
open Go.ChangeShapes Go.WideShapes Go.ChangeAt Go.RowKit
set_option linter.unusedVariables false
set_option linter.unusedSimpArgs false

theorem own : ownKnob Yacd.prog.godebug = none := by kernel_rfl
theorem laidOut : laidOutB Yacd.prog = true := by kernel_rfl

set_option maxHeartbeats 400000 in
theorem walk (w : World) (ov pv : Value) (os : List (Nat × Nat × Nat × Nat)) (ps : List (Int × Int)) (sv : Nat → Value) (cv : Value) (D0 : DS) (hS : Script w w.heap.size ov os) (hP : Plans w w.heap.size pv ps)
    (hpl : ∀ j, (planL ps j).1 ≤ 9223372036854775807 ∧ -9223372036854775808 ≤ (planL ps j).1 ∧ 0 ≤ (planL ps j).2 ∧ (planL ps j).2 ≤ 18446744073709551615)
    (hok : DOK D0) (hs : ∀ f, f < 2 → SrcRow w 128 (sv f) (D0.s f).length (D0.s f).flatten) (hc : SrcRow w 130 cv D0.c.length (D0.c.map cwc).flatten)
    (bs : ∀ f, f < 2 → (D0.s f).length * 128 ≤ 140737488355328) (bc : D0.c.length * 132 ≤ 140737488355328) :
    Calls Yacd.prog 4 #[.agg #[sv 0, sv 1, cv, .int .u16 (D0.z 0), .int .u16 (D0.z 1), .int .i64 D0.at_, .int .i64 D0.calls], ov, pv] w fun e w' => e = .returned (.bool true) ∧ Below w.heap.size w w' := by
  have hkA : Keep Non w (w.alloc (.cells #[sv 0, sv 1, cv, .int .u16 (D0.z 0), .int .u16 (D0.z 1), .int .i64 D0.at_, .int .i64 D0.calls] 39)) := (Keep.refl Non w).alloc _
  have hz := hkA.size
  have up : ∀ {v : Value} {o : List (Nat × Nat × Nat × Nat)}, Script w w.heap.size v o → Script w (w.alloc (.cells #[sv 0, sv 1, cv, .int .u16 (D0.z 0), .int .u16 (D0.z 1), .int .i64 D0.at_, .int .i64 D0.calls] 39)).heap.size v o := fun h => by
    obtain ⟨ao, c, h1, h2, h2', h3⟩ := h
    refine ⟨ao, c, h1, h2, h2', fun j hj => ?_⟩
    obtain ⟨b, off, g1, g2, g3⟩ := h3 j hj
    exact ⟨b, off, g1, by omega, g3⟩
  have upP : ∀ {v : Value} {o : List (Int × Int)}, Plans w w.heap.size v o → Plans w (w.alloc (.cells #[sv 0, sv 1, cv, .int .u16 (D0.z 0), .int .u16 (D0.z 1), .int .i64 D0.at_, .int .i64 D0.calls] 39)).heap.size v o := fun h => by
    obtain ⟨ao, c, h1, h2, h3⟩ := h
    refine ⟨ao, c, h1, h2, fun j hj => ?_⟩
    obtain ⟨b, off, g1, g2, g3⟩ := h3 j hj
    exact ⟨b, off, g1, by omega, g3⟩
  have hI := ind_loop (w.alloc (.cells #[sv 0, sv 1, cv, .int .u16 (D0.z 0), .int .u16 (D0.z 1), .int .i64 D0.at_, .int .i64 D0.calls] 39)) #[] ov pv os ps sv cv D0 ((up hS).keep hkA (fun _ e => e.elim)) ((upP hP).keep hkA (fun _ e => e.elim)) hpl hok (fun f hf => (hs f hf).keep hkA) (hc.keep hkA) bs bc
  clear hpl hok hs hc bs bc up upP hS hP
  go_enter Yacd.func4, Yacd.ntmps4
  go_wp2_with (go_at_call 9; refine hI.mono ?_; rintro e w1 ⟨rfl, hk⟩)
  go_ret
  exact ⟨rfl, (hkA.trans_same hk).below (Nat.le_refl _) (fun _ e => e.elim)⟩

set_option maxRecDepth 100000 in
theorem lifted (os : Os) (started : os.Started) (H : Type) (enc : TypeId × Value → H) :
    ReturnsInHanded {} Yacd.checked os 4 .any (Rows.diskInductiveSpec.pre6 enc Yacd.prog Yacd.f4 Rows.diskInductiveRow.domain false) (Rows.diskInductiveSpec.post enc Yacd.prog Yacd.f4 false true false false) := by
  refine returnsInHanded_of_change_sized (C := Yacd.checked) own started (by kernel_rfl) Yacd.func4
    (ChangeSpec.witness6 (enc := enc) (C := Yacd.checked) false ⟨#[], #[.agg #[.slice none 0 0, .slice none 0 0, .slice none 0 0, .int .u16 0, .int .u16 0, .int .i64 0, .int .i64 0], .slice none 0 0, .slice none 0 0], []⟩ 8 (by kernel_rfl) (by kernel_rfl) (by kernel_rfl) (by kernel_rfl)) ?_
  intro W base args ds gs before hval0 hW hcnd hsz _
  have hval : ∀ (j : Nat) t v, Yacd.f4.params[j]? = some t → args[j]? = some v → Value.okWide Yacd.prog W .any base t v := hval0
  have hW' := hW
  obtain ⟨p, q, hA0, hV, rfl, hfz, hnd⟩ := hW
  have hA : DataW.TrodAll enc Yacd.prog W 0 (fun _ => true) true Yacd.f4.params.toList args.toList ds p := hA0
  rw [Yacd.params4] at hA hval hsz
  obtain ⟨v0, vs0, d0, ds0, p0, q0, hargs, rfl, rfl, h0, r0⟩ := trodAll_cons hA
  obtain ⟨v1, vs1, d1, ds1, p1, q1, rfl, rfl, rfl, h1, r1⟩ := trodAll_cons r0
  obtain ⟨v2, vs2, d2, ds2, p2, q2, rfl, rfl, rfl, h2, r2⟩ := trodAll_cons r1
  obtain ⟨rfl, rfl, rfl⟩ := trodAll_nil r2
  obtain rfl : args = #[v0, v1, v2] := by cases args; simp_all
  obtain ⟨rfl, rfl⟩ := trodVars_none hV
  obtain ⟨cs, rfl, -⟩ := okWide_struct Yacd.underlying39 (hval 0 39 v0 rfl rfl)
  have k0 := h0
  have lt0 : ∀ x ∈ p0, x.block < W.heap.size := by obtain ⟨m, hm⟩ := k0; exact DataW.trod_lt m _ _ _ hm
  obtain ⟨sv, cv, D0, hcs, hok, hs, hc, hw0⟩ : ∃ (sv : Nat → Value) (cv : Value) (D : DS), cs.toList = [sv 0, sv 1, cv, .int .u16 (D.z 0), .int .u16 (D.z 1), .int .i64 D.at_, .int .i64 D.calls] ∧ DOK D ∧ (∀ f, f < 2 → SrcRow W 128 (sv f) (D.s f).length (D.s f).flatten) ∧
      SrcRow W 130 cv D.c.length (D.c.map cwc).flatten ∧ ((d0.weights Yacd.prog 39).all (· ≤ reachBytes) = true → (∀ f, f < 2 → (D.s f).length * 128 ≤ 140737488355328) ∧ D.c.length * 132 ≤ 140737488355328) := by
    obtain ⟨fuel, hf⟩ := h0
    exact disk_of (x := (d0, p0)) hf
  obtain rfl : cs = #[sv 0, sv 1, cv, .int .u16 (D0.z 0), .int .u16 (D0.z 1), .int .i64 D0.at_, .int .i64 D0.calls] := Array.toList_inj.1 hcs
  have hsz0 : (d0.weights Yacd.prog 39).all (· ≤ reachBytes) = true := by
    simp only [List.cons_append, DataW.weightsEach, List.all_append, Bool.and_eq_true] at hsz
    exact hsz.1
  obtain ⟨bs, bc⟩ := hw0 hsz0
  obtain ⟨a1, len1, cap1, rfl⟩ := okWide_slice Yacd.underlying22 (hval 1 22 v1 rfl rfl)
  have k1 := h1
  have lt1 : ∀ x ∈ p1, x.block < W.heap.size := by obtain ⟨m, hm⟩ := k1; exact DataW.trod_lt m _ _ _ hm
  obtain ⟨ol, hS⟩ : ∃ ol, Script W W.heap.size (.slice a1 len1 cap1) ol := by
    obtain ⟨fuel, hf⟩ := h1
    exact script_of hf
  obtain ⟨a2, len2, cap2, rfl⟩ := okWide_slice Yacd.underlying23 (hval 2 23 v2 rfl rfl)
  have k2 := h2
  have lt2 : ∀ x ∈ p2, x.block < W.heap.size := by obtain ⟨m, hm⟩ := k2; exact DataW.trod_lt m _ _ _ hm
  obtain ⟨ps, hP, hpl⟩ : ∃ ps, Plans W W.heap.size (.slice a2 len2 cap2) ps ∧ ∀ j, (planL ps j).1 ≤ 9223372036854775807 ∧ -9223372036854775808 ≤ (planL ps j).1 ∧ 0 ≤ (planL ps j).2 ∧ (planL ps j).2 ≤ 18446744073709551615 := by
    obtain ⟨fuel, hf⟩ := h2
    exact plans_of hf
  clear hA0 hval0
  refine (walk W (.slice a1 len1 cap1) (.slice a2 len2 cap2) ol ps sv cv D0 hS hP hpl hok hs hc bs bc).mono fun e W' ⟨he, bel⟩ => ?_
  subst he
  exact ⟨_, rfl, _, _, _, [], _, [], hW', trodAll_mk1 (shut_bool Yacd.underlying4 _), (trodAll_cons_mk (Below.trod laidOut (by kernel_rfl) (of_decide_eq_true (by kernel_rfl)) k0 bel lt0) (trodAll_cons_mk (Below.trod laidOut (by kernel_rfl) (of_decide_eq_true (by kernel_rfl)) k1 bel lt1) (trodAll_cons_mk (Below.trod laidOut (by kernel_rfl) (of_decide_eq_true (by kernel_rfl)) k2 bel lt2) trodAll_mk0))), rfl, bel.frame _, fun h => by cases h⟩

theorem over : Rows.diskInductiveRow.holds Yacd.pinned (OpenSpec.ofChange Rows.diskInductiveSpec) :=
  OpenClaim.holds_of_wide 4 Yacd.f4 rfl rfl rfl rfl rfl rfl rfl ⟨rfl, rfl, rfl, rfl, rfl⟩ rfl rfl rfl rfl rfl (by kernel_rfl) Yacd.func4 (by kernel_rfl)
    (of_decide_eq_true (by kernel_rfl)) (by unfold Func.isWrapper; first | (rw [if_pos (by decide +kernel)]; kernel_rfl) | (rw [if_neg (by decide +kernel)]; exact ⟨rfl, rfl⟩))
    (fun os started H enc _ => lifted os started H enc)
end Go.Proofs.Ygdacg.diskInductive
namespace Go.Proofs.Ygdacg
/-- THE STATEMENT. -/
theorem diskInductive_proved : Rows.DiskInductiveSaid := diskInductive.over
end Go.Proofs.Ygdacg
