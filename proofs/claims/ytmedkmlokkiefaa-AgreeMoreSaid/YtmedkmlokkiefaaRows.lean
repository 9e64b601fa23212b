/-
  No cell of these rows narrows 'for every input' (looked for: loops, veiled, ifaces, maps, wideKeys, modest, calm, conditions, laid).
  DERIVED. THE GIVEN ROWS OF THIS SEAT. 3 by the template 'for every input the law returns true; each argument reads behind the call as it read before'; 0 by the template 'total and deterministic' (their statements: YtmedkmlokkiefaaTotals.lean).
  GIVEN WITH THE SEED: the statements are not yours to turn. If you find one false, say at which input.
  Laid BY PROGRAM, IN A SANDBOX (cutbox-rows.mjs): the forced cells as the released guide's own fill.sh prints them over the translation c5811ad39529feb3… (all of the seat's roots in one cut). By AI agents, Wed Nov 11 2026. No macro, syntax, notation, axiom, sorry.
-/
import Derived.Test.YtmedkmlokkiefaaChecked
import GoSem.Claim
import GoSem.ClaimJoined
import GoSem.ClaimMapViews
import Derived.JoinedTies
import Derived.KernelRfl
namespace Go.Proofs.Ytmedkmlokkiefaa
/- THE CELL 'sum', in the pinned program and in every row, IS THE sha256 OF THE DUMP (.gsa) THAT YtmedkmlokkiefaaProg.lean LOADS. Nothing in Lean hashes anything: it is a label: what it is worth is what the hold of that sum in a sandbox is worth. -/
noncomputable def Try.pinned : Pinned := { name := "ytmedkmlokkiefaa", sum := "c5811ad39529feb345a592b8b0bbb85544d01bc6ed754a1124a3306c82b73913", checked := Try.checked }
namespace Rows
def none {H : Type} : Left H := { results := [], args := [] }

/-- 'catenalaw26.AgreePlays': WHATEVER THE INPUT: true; the input reads as it did. -/
def agreePlaysSpec : ChangeSpec := { name := "agreePlays", fn := fun _ => fun
  | [d1, d2, d3] => { results := [.lit (.bool true)], args := [d1, d2, d3] }
  | _ => none }
def agreePlaysRow : OpenClaim := { program := "ytmedkmlokkiefaa", sum := "c5811ad39529feb345a592b8b0bbb85544d01bc6ed754a1124a3306c82b73913", func := "catena/catenalaw26.AgreePlays", spec := "agreePlays", apart := false }
def AgreePlaysSaid : Prop := agreePlaysRow.holds Try.pinned (OpenSpec.ofChange agreePlaysSpec)

/-- ITS FALSE NEIGHBOUR: 'it returns false'. Refute it at one input. -/
def agreePlaysWrong : ChangeSpec := { name := "agreePlays", fn := fun _ => fun
  | [d1, d2, d3] => { results := [.lit (.bool false)], args := [d1, d2, d3] }
  | _ => none }
def AgreePlaysWrongFalsely : Prop := agreePlaysRow.holds Try.pinned (OpenSpec.ofChange agreePlaysWrong)

/-- 'catenalaw26.AgreeNever': WHATEVER THE INPUT: true; the input reads as it did. -/
def agreeNeverSpec : ChangeSpec := { name := "agreeNever", fn := fun _ => fun
  | [d1, d2, d3] => { results := [.lit (.bool true)], args := [d1, d2, d3] }
  | _ => none }
def agreeNeverRow : OpenClaim := { program := "ytmedkmlokkiefaa", sum := "c5811ad39529feb345a592b8b0bbb85544d01bc6ed754a1124a3306c82b73913", func := "catena/catenalaw26.AgreeNever", spec := "agreeNever", apart := false }
def AgreeNeverSaid : Prop := agreeNeverRow.holds Try.pinned (OpenSpec.ofChange agreeNeverSpec)

/-- ITS FALSE NEIGHBOUR: 'it returns false'. Refute it at one input. -/
def agreeNeverWrong : ChangeSpec := { name := "agreeNever", fn := fun _ => fun
  | [d1, d2, d3] => { results := [.lit (.bool false)], args := [d1, d2, d3] }
  | _ => none }
def AgreeNeverWrongFalsely : Prop := agreeNeverRow.holds Try.pinned (OpenSpec.ofChange agreeNeverWrong)

/-- 'catenalaw26.AgreeMore': WHATEVER THE INPUT: true; the input reads as it did. -/
def agreeMoreSpec : ChangeSpec := { name := "agreeMore", fn := fun _ => fun
  | [d1, d2, d3, d4] => { results := [.lit (.bool true)], args := [d1, d2, d3, d4] }
  | _ => none }
def agreeMoreRow : OpenClaim := { program := "ytmedkmlokkiefaa", sum := "c5811ad39529feb345a592b8b0bbb85544d01bc6ed754a1124a3306c82b73913", func := "catena/catenalaw26.AgreeMore", spec := "agreeMore", apart := false }
def AgreeMoreSaid : Prop := agreeMoreRow.holds Try.pinned (OpenSpec.ofChange agreeMoreSpec)

/-- ITS FALSE NEIGHBOUR: 'it returns false'. Refute it at one input. -/
def agreeMoreWrong : ChangeSpec := { name := "agreeMore", fn := fun _ => fun
  | [d1, d2, d3, d4] => { results := [.lit (.bool false)], args := [d1, d2, d3, d4] }
  | _ => none }
def AgreeMoreWrongFalsely : Prop := agreeMoreRow.holds Try.pinned (OpenSpec.ofChange agreeMoreWrong)

/- THE SECOND FORM. 'bulk': how many values and letters a reading holds, each counted each time it is reached (what is shared counts as often as it is met; a slice's spare places count too). A statement '..UptoSaid' is the law's where the arguments, and the package variables that the reading takes, are together of bulk at most 1048576: NARROWER than '..Said'. Prove '..Said' where nothing that the law and all that it calls make is longer than what came in: it says more and counts as full. Else prove '..UptoSaid'. A law counts once. -/
mutual
def uptoBulk {H : Type} : DataW H → Nat
  | .lit (.string bytes) => bytes.length + 1
  | .lit _ => 1
  | .nil => 1
  | .ptr d => uptoBulk d + 1
  | .slice elems spare => uptoBulkAll elems + uptoBulkAll spare + 1
  | .agg parts => uptoBulkAll parts + 1
  | .iface _ d => uptoBulk d + 1
  | .map entries => uptoBulkEntries entries + 1
  | .held _ => 1
def uptoBulkAll {H : Type} : List (DataW H) → Nat
  | [] => 0
  | d :: r => uptoBulk d + uptoBulkAll r
def uptoBulkEntries {H : Type} : List (Lit × DataW H) → Nat
  | [] => 0
  | x :: r => uptoBulkEntry x + uptoBulkEntries r
def uptoBulkEntry {H : Type} : Lit × DataW H → Nat
  | (.string bytes, d) => bytes.length + uptoBulk d + 1
  | (_, d) => uptoBulk d + 1
 end
def uptoSmall : (H : Type) → List (DataW H) → Bool := fun _ ds => decide (uptoBulkAll ds ≤ 1048576)
def OpenSpec.upto (s : _root_.Go.ChangeSpec) : _root_.Go.OpenSpec := { _root_.Go.OpenSpec.ofChange s with cond := some uptoSmall }

/-- 'catenalaw26.AgreePlays', WHERE WHAT IT READS IS OF BULK AT MOST 1048576: true; the input reads as it did. -/
def agreePlaysUptoRow : OpenClaim := { program := "ytmedkmlokkiefaa", sum := "c5811ad39529feb345a592b8b0bbb85544d01bc6ed754a1124a3306c82b73913", func := "catena/catenalaw26.AgreePlays", spec := "agreePlays", apart := false, narrowed := true }
def AgreePlaysUptoSaid : Prop := agreePlaysUptoRow.holds Try.pinned (OpenSpec.upto agreePlaysSpec)

/-- 'catenalaw26.AgreeNever', WHERE WHAT IT READS IS OF BULK AT MOST 1048576: true; the input reads as it did. -/
def agreeNeverUptoRow : OpenClaim := { program := "ytmedkmlokkiefaa", sum := "c5811ad39529feb345a592b8b0bbb85544d01bc6ed754a1124a3306c82b73913", func := "catena/catenalaw26.AgreeNever", spec := "agreeNever", apart := false, narrowed := true }
def AgreeNeverUptoSaid : Prop := agreeNeverUptoRow.holds Try.pinned (OpenSpec.upto agreeNeverSpec)

/-- 'catenalaw26.AgreeMore', WHERE WHAT IT READS IS OF BULK AT MOST 1048576: true; the input reads as it did. -/
def agreeMoreUptoRow : OpenClaim := { program := "ytmedkmlokkiefaa", sum := "c5811ad39529feb345a592b8b0bbb85544d01bc6ed754a1124a3306c82b73913", func := "catena/catenalaw26.AgreeMore", spec := "agreeMore", apart := false, narrowed := true }
def AgreeMoreUptoSaid : Prop := agreeMoreUptoRow.holds Try.pinned (OpenSpec.upto agreeMoreSpec)

end Rows
end Go.Proofs.Ytmedkmlokkiefaa
