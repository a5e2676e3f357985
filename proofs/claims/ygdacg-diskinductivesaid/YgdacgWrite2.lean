/-
  (*Disk).Write, every way.
-/
import Derived.Test.YgdacgWrite
namespace Go.Proofs.Ygdacg
open Go.RowKit
set_option linter.unusedVariables false
set_option linter.unusedSimpArgs false

/-- The death is not behind. -/
def Lively (D : DS) : Prop := D.at_ ≤ 0 ∨ (0 ≤ D.calls ∧ D.calls ≤ D.at_)
theorem Lively.step {D : DS} (h : Lively D) (hd : dead D = false) : D.at_ ≤ 0 ∨ (0 ≤ D.calls ∧ D.calls < D.at_) := by
  rcases h with h | ⟨h0, h1⟩
  · exact .inl h
  · by_cases ha : 0 < D.at_
    · have : ¬ D.calls = D.at_ := by simpa [dead, ha] using hd
      exact .inr ⟨h0, by omega⟩
    · exact .inl (by omega)

def writeD (D : DS) (f pg : Nat) (p : List Value) : Bool × DS :=
  if dead D || decide (1 < f) || decide (D.z f < pg) || decide (1024 ≤ pg) || decide (2048 ≤ D.c.length) then (false, D)
  else if tickB D then (true, wrote D f pg p) else (false, ticked D)

section
variable {w w' : World} {F : Nat → Prop} {b : Nat} {D : DS}
theorem DiskAt.ext (h : DiskAt w' F b D) (hs : w.heap.size ≤ w'.heap.size) : DiskAt w' (Ext F w w') b D := by
  obtain ⟨v, vc, h⟩ := h
  refine ⟨v, vc, h.ok, fun k hF => ?_, .inl h.fb, h.blk, h.rs, h.rc, fun f k hf hk => ⟨.inl (h.fs f k hf hk).1, (h.fs f k hf hk).2⟩, fun k hk => ⟨.inl (h.fc k hk).1, (h.fc k hk).2⟩, h.a01, h.asc⟩
  rcases hF with hF | hF
  · exact h.fp k hF
  · exact hF.2

set_option maxRecDepth 100000 in
set_option maxHeartbeats 600000 in
theorem write_dies (h : DiskAt w F b D) (f pg pb po : Nat) (hok : ¬ wbad D f pg) (hlive : D.at_ ≤ 0 ∨ (0 ≤ D.calls ∧ D.calls < D.at_)) (ht : tickB D = false) :
    Calls Yacd.prog 10 #[.pointer (some ⟨b, 0, none⟩), .int .u8 f, .int .u16 pg, .pointer (some ⟨pb, po, none⟩)] w fun e w' => e = .returned (.bool false) ∧ DiskAt w' F b (ticked D) ∧ Keep F w w' := by
  have hd : dead D = false := by
    cases hd : dead D with
    | false => rfl
    | true => exact absurd (.inl hd) hok
  have hf : f < 2 := by
    have : ¬ 1 < f := fun h0 => hok (.inr (.inl h0))
    omega
  have hz : ¬ D.z f < pg := fun h0 => hok (.inr (.inr (.inl h0)))
  have hpg : ¬ 1024 ≤ pg := fun h0 => hok (.inr (.inr (.inr (.inl h0))))
  have hl : ¬ 2048 ≤ D.c.length := fun h0 => hok (.inr (.inr (.inr (.inr h0))))
  have hf' : (f : Int) ≤ 1 := by omega
  have hd1 : decide ((1 : Int) < (f : Int)) = false := decide_eq_false (by omega)
  have hd2 : decide ((D.z f : Int) < (pg : Int)) = false := decide_eq_false (by omega)
  have hd3 : decide ((1024 : Int) ≤ (pg : Int)) = false := decide_eq_false (by omega)
  have hd4 : decide ((2048 : Int) ≤ (D.c.length : Int)) = false := decide_eq_false (by omega)
  have hz' : ¬ (D.z f : Int) < (pg : Int) := by omega
  have hp' : (pg : Int) < 1024 := by omega
  have hl' : (D.c.length : Int) < 2048 := by omega
  have hA := h
  obtain ⟨v, vc, h⟩ := h
  have hc := h.cSize f (by omega)
  have hcc := h.cCache
  obtain ⟨ao, cap, hvc, hle, hmx⟩ := owns_slice h.rc
  generalize hvcx : vc = vx at *
  subst hvc
  go_enter Yacd.func10, Yacd.ntmps10
  go_wp2_with (first | (go_at_call 29; refine (dead_any hA).mono ?_; rw [hd]; rintro e w' ⟨rfl, n, rfl⟩) | (go_at_call 30; refine (tick_any (h.drewN _) hlive).mono ?_; rw [ht]; rintro e w1 ⟨rfl, hD1, hk1⟩))
  go_ret
  exact ⟨rfl, hD1.at_, (((Keep.refl _ _).drewN n).trans_same hk1).mono (fun k e => e ▸ h.fb)⟩

theorem write_any (h : DiskAt w F b D) (hlv : Lively D) (f pg pb po : Nat) (p : List Value) (hp : IsPg p) (hr : w.rangeAt pb po p) (hpb : ¬ F pb) :
    Calls Yacd.prog 10 #[.pointer (some ⟨b, 0, none⟩), .int .u8 f, .int .u16 pg, .pointer (some ⟨pb, po, none⟩)] w fun e w' => e = .returned (.bool (writeD D f pg p).1) ∧ DiskAt w' (Ext F w w') b (writeD D f pg p).2 ∧ Keep F w w' := by
  by_cases hbad : wbad D f pg
  · have e : writeD D f pg p = (false, D) := by
      unfold writeD
      rw [if_pos (by rcases hbad with h0 | h0 | h0 | h0 | h0 <;> simp [h0])]
    rw [e]
    refine (write_no h f pg pb po hbad).mono ?_
    rintro e w' ⟨rfl, n, rfl⟩
    exact ⟨rfl, (h.drewN n).ext (Nat.le_refl _), (Keep.refl _ _).drewN n⟩
  · have hd : dead D = false := by
      cases hd : dead D with
      | false => rfl
      | true => exact absurd (.inl hd) hbad
    have hlive := hlv.step hd
    have e1 : (dead D || decide (1 < f) || decide (D.z f < pg) || decide (1024 ≤ pg) || decide (2048 ≤ D.c.length)) = false := by
      have h1 : ¬ 1 < f := fun h0 => hbad (.inr (.inl h0))
      have h2 : ¬ D.z f < pg := fun h0 => hbad (.inr (.inr (.inl h0)))
      have h3 : ¬ 1024 ≤ pg := fun h0 => hbad (.inr (.inr (.inr (.inl h0))))
      have h4 : ¬ 2048 ≤ D.c.length := fun h0 => hbad (.inr (.inr (.inr (.inr h0))))
      simp [hd, h1, h2, h3, h4]
    cases ht : tickB D with
    | true =>
      have e : writeD D f pg p = (true, wrote D f pg p) := by simp [writeD, e1, ht]
      rw [e]
      exact write_go h f pg pb po p hbad hlive ht hp hr hpb
    | false =>
      have e : writeD D f pg p = (false, ticked D) := by simp [writeD, e1, ht]
      rw [e]
      refine (write_dies h f pg pb po hbad hlive ht).mono ?_
      rintro e w' ⟨rfl, h1, h2⟩
      exact ⟨rfl, h1.ext h2.size, h2⟩
end
end Go.Proofs.Ygdacg
