/-
  No cell of these rows narrows 'for every input' (looked for: loops, veiled, ifaces, maps, wideKeys, modest, calm, conditions, laid).
  DERIVED. THE GIVEN ROWS OF THIS SEAT. 3 by the template 'for every input the law returns true; each argument reads behind the call as it read before'; 0 by the template 'total and deterministic' (their statements: YgdacgTotals.lean).
  GIVEN WITH THE SEED: the statements are not yours to turn. If you find one false, say at which input.
  Laid BY PROGRAM, IN A SANDBOX (cutbox-rows.mjs): the forced cells as the released guide's own fill.sh prints them over the translation 3889911776726575… (all of the seat's roots in one cut). By AI agents, Wed Nov 11 2026. No macro, syntax, notation, axiom, sorry.
-/
import Derived.Test.YgdacgChecked
import GoSem.Claim
import GoSem.ClaimJoined
import GoSem.ClaimMapViews
import Derived.JoinedTies
import Derived.KernelRfl
namespace Go.Proofs.Ygdacg
/- THE CELL 'sum', in the pinned program and in every row, IS THE sha256 OF THE DUMP (.gsa) THAT YgdacgProg.lean LOADS. Nothing in Lean hashes anything: it is a label: what it is worth is what the hold of that sum in a sandbox is worth. -/
noncomputable def Yacd.pinned : Pinned := { name := "ygdacg", sum := "38899117767265759c0b59aa1020cfb62aa722688952a55dd1237c4b7e6b4b1b", checked := Yacd.checked }
namespace Rows
def none {H : Type} : Left H := { results := [], args := [] }

/-- 'law.DiskKeeps': WHATEVER THE INPUT: true; the input reads as it did. -/
def diskKeepsSpec : ChangeSpec := { name := "diskKeeps", fn := fun _ => fun
  | [d1, d2] => { results := [.lit (.bool true)], args := [d1, d2] }
  | _ => none }
def diskKeepsRow : OpenClaim := { program := "ygdacg", sum := "38899117767265759c0b59aa1020cfb62aa722688952a55dd1237c4b7e6b4b1b", func := "sqlmini/law.DiskKeeps", spec := "diskKeeps", unfollowed := true, recurses := true, apart := false }
def DiskKeepsSaid : Prop := diskKeepsRow.holds Yacd.pinned (OpenSpec.ofChange diskKeepsSpec)

/-- ITS FALSE NEIGHBOUR: 'it returns false'. Refute it at one input. -/
def diskKeepsWrong : ChangeSpec := { name := "diskKeeps", fn := fun _ => fun
  | [d1, d2] => { results := [.lit (.bool false)], args := [d1, d2] }
  | _ => none }
def DiskKeepsWrongFalsely : Prop := diskKeepsRow.holds Yacd.pinned (OpenSpec.ofChange diskKeepsWrong)

/-- 'law.DiskInductive': WHATEVER THE INPUT: true; the input reads as it did. -/
def diskInductiveSpec : ChangeSpec := { name := "diskInductive", fn := fun _ => fun
  | [d1, d2, d3] => { results := [.lit (.bool true)], args := [d1, d2, d3] }
  | _ => none }
def diskInductiveRow : OpenClaim := { program := "ygdacg", sum := "38899117767265759c0b59aa1020cfb62aa722688952a55dd1237c4b7e6b4b1b", func := "sqlmini/law.DiskInductive", spec := "diskInductive", unfollowed := true, recurses := true, apart := false }
def DiskInductiveSaid : Prop := diskInductiveRow.holds Yacd.pinned (OpenSpec.ofChange diskInductiveSpec)

/-- ITS FALSE NEIGHBOUR: 'it returns false'. Refute it at one input. -/
def diskInductiveWrong : ChangeSpec := { name := "diskInductive", fn := fun _ => fun
  | [d1, d2, d3] => { results := [.lit (.bool false)], args := [d1, d2, d3] }
  | _ => none }
def DiskInductiveWrongFalsely : Prop := diskInductiveRow.holds Yacd.pinned (OpenSpec.ofChange diskInductiveWrong)

/-- 'law.VarintBack': WHATEVER THE INPUT: true; the input reads as it did. -/
def varintBackSpec : ChangeSpec := { name := "varintBack", fn := fun _ => fun
  | [d1, d2] => { results := [.lit (.bool true)], args := [d1, d2] }
  | _ => none }
def varintBackRow : OpenClaim := { program := "ygdacg", sum := "38899117767265759c0b59aa1020cfb62aa722688952a55dd1237c4b7e6b4b1b", func := "sqlmini/law.VarintBack", spec := "varintBack", unfollowed := true, recurses := true, apart := false }
def VarintBackSaid : Prop := varintBackRow.holds Yacd.pinned (OpenSpec.ofChange varintBackSpec)

/-- ITS FALSE NEIGHBOUR: 'it returns false'. Refute it at one input. -/
def varintBackWrong : ChangeSpec := { name := "varintBack", fn := fun _ => fun
  | [d1, d2] => { results := [.lit (.bool false)], args := [d1, d2] }
  | _ => none }
def VarintBackWrongFalsely : Prop := varintBackRow.holds Yacd.pinned (OpenSpec.ofChange varintBackWrong)

end Rows
end Go.Proofs.Ygdacg
