/-
  No cell of these rows narrows 'for every input' (looked for: loops, veiled, ifaces, maps, wideKeys, modest, calm, conditions, laid).
  DERIVED. THE GIVEN ROWS OF THIS SEAT. 4 by the template 'for every input the law returns true; each argument reads behind the call as it read before'; 0 by the template 'total and deterministic' (their statements: YtclbndfoljmakaaTotals.lean).
  GIVEN WITH THE SEED: the statements are not yours to turn. If you find one false, say at which input.
  Laid BY PROGRAM, IN A SANDBOX (cutbox-rows.mjs): the forced cells as the released guide's own fill.sh prints them over the translation 0717dacb2cd1637f… (all of the seat's roots in one cut). By AI agents, Wed Nov 11 2026. No macro, syntax, notation, axiom, sorry.
-/
import Derived.Test.YtclbndfoljmakaaChecked
import GoSem.Claim
import GoSem.ClaimJoined
import GoSem.ClaimMapViews
import Derived.JoinedTies
import Derived.KernelRfl
namespace Go.Proofs.Ytclbndfoljmakaa
/- THE CELL 'sum', in the pinned program and in every row, IS THE sha256 OF THE DUMP (.gsa) THAT YtclbndfoljmakaaProg.lean LOADS. Nothing in Lean hashes anything: it is a label: what it is worth is what the hold of that sum in a sandbox is worth. -/
noncomputable def Try.pinned : Pinned := { name := "ytclbndfoljmakaa", sum := "0717dacb2cd1637feaf1634a60bd5d2dbb9de5b67a30d30b76f51aa8332e0ae7", checked := Try.checked }
namespace Rows
def none {H : Type} : Left H := { results := [], args := [] }

/-- 'catenalaw01.VarnumOrder': WHATEVER THE INPUT: true; the input reads as it did. -/
def varnumOrderSpec : ChangeSpec := { name := "varnumOrder", fn := fun _ => fun
  | [d1, d2] => { results := [.lit (.bool true)], args := [d1, d2] }
  | _ => none }
def varnumOrderRow : OpenClaim := { program := "ytclbndfoljmakaa", sum := "0717dacb2cd1637feaf1634a60bd5d2dbb9de5b67a30d30b76f51aa8332e0ae7", func := "catena/catenalaw01.VarnumOrder", spec := "varnumOrder", apart := false }
def VarnumOrderSaid : Prop := varnumOrderRow.holds Try.pinned (OpenSpec.ofChange varnumOrderSpec)

/-- ITS FALSE NEIGHBOUR: 'it returns false'. Refute it at one input. -/
def varnumOrderWrong : ChangeSpec := { name := "varnumOrder", fn := fun _ => fun
  | [d1, d2] => { results := [.lit (.bool false)], args := [d1, d2] }
  | _ => none }
def VarnumOrderWrongFalsely : Prop := varnumOrderRow.holds Try.pinned (OpenSpec.ofChange varnumOrderWrong)

/-- 'catenalaw01.VarnumBack': WHATEVER THE INPUT: true; the input reads as it did. -/
def varnumBackSpec : ChangeSpec := { name := "varnumBack", fn := fun _ => fun
  | [d1, d2, d3] => { results := [.lit (.bool true)], args := [d1, d2, d3] }
  | _ => none }
def varnumBackRow : OpenClaim := { program := "ytclbndfoljmakaa", sum := "0717dacb2cd1637feaf1634a60bd5d2dbb9de5b67a30d30b76f51aa8332e0ae7", func := "catena/catenalaw01.VarnumBack", spec := "varnumBack", apart := false }
def VarnumBackSaid : Prop := varnumBackRow.holds Try.pinned (OpenSpec.ofChange varnumBackSpec)

/-- ITS FALSE NEIGHBOUR: 'it returns false'. Refute it at one input. -/
def varnumBackWrong : ChangeSpec := { name := "varnumBack", fn := fun _ => fun
  | [d1, d2, d3] => { results := [.lit (.bool false)], args := [d1, d2, d3] }
  | _ => none }
def VarnumBackWrongFalsely : Prop := varnumBackRow.holds Try.pinned (OpenSpec.ofChange varnumBackWrong)

/-- 'catenalaw01.VarnumList': WHATEVER THE INPUT: true; the input reads as it did. -/
def varnumListSpec : ChangeSpec := { name := "varnumList", fn := fun _ => fun
  | [d] => { results := [.lit (.bool true)], args := [d] }
  | _ => none }
def varnumListRow : OpenClaim := { program := "ytclbndfoljmakaa", sum := "0717dacb2cd1637feaf1634a60bd5d2dbb9de5b67a30d30b76f51aa8332e0ae7", func := "catena/catenalaw01.VarnumList", spec := "varnumList", apart := false }
def VarnumListSaid : Prop := varnumListRow.holds Try.pinned (OpenSpec.ofChange varnumListSpec)

/-- ITS FALSE NEIGHBOUR: 'it returns false'. Refute it at one input. -/
def varnumListWrong : ChangeSpec := { name := "varnumList", fn := fun _ => fun
  | [d] => { results := [.lit (.bool false)], args := [d] }
  | _ => none }
def VarnumListWrongFalsely : Prop := varnumListRow.holds Try.pinned (OpenSpec.ofChange varnumListWrong)

/-- 'catenalaw01.VarnumPlays': WHATEVER THE INPUT: true; the input reads as it did. -/
def varnumPlaysSpec : ChangeSpec := { name := "varnumPlays", fn := fun _ => fun
  | [d1, d2, d3] => { results := [.lit (.bool true)], args := [d1, d2, d3] }
  | _ => none }
def varnumPlaysRow : OpenClaim := { program := "ytclbndfoljmakaa", sum := "0717dacb2cd1637feaf1634a60bd5d2dbb9de5b67a30d30b76f51aa8332e0ae7", func := "catena/catenalaw01.VarnumPlays", spec := "varnumPlays", apart := false }
def VarnumPlaysSaid : Prop := varnumPlaysRow.holds Try.pinned (OpenSpec.ofChange varnumPlaysSpec)

/-- ITS FALSE NEIGHBOUR: 'it returns false'. Refute it at one input. -/
def varnumPlaysWrong : ChangeSpec := { name := "varnumPlays", fn := fun _ => fun
  | [d1, d2, d3] => { results := [.lit (.bool false)], args := [d1, d2, d3] }
  | _ => none }
def VarnumPlaysWrongFalsely : Prop := varnumPlaysRow.holds Try.pinned (OpenSpec.ofChange varnumPlaysWrong)

/- THE SECOND FORM. 'bulk': how many values and letters a reading holds, each counted each time it is reached (what is shared counts as often as it is met; a slice's spare places count too). A statement '..UptoSaid' is the law's where the arguments, and the package variables that the reading takes, are together of bulk at most 1048576: NARROWER than '..Said'. Prove '..Said' where nothing that the law and all that it calls make is longer than what came in: it says more and counts as full. Else prove '..UptoSaid'. A law counts once. -/
mutual
def uptoBulk {H : Type} : DataW H → Nat
  | .lit (.string bytes) => bytes.length + 1
  | .lit _ => 1
  | .nil => 1
  | .ptr d => uptoBulk d + 1
  | .slice elems spare => uptoBulkAll elems + uptoBulkAll spare + 1
  | .agg parts => uptoBulkAll parts + 1
  | .iface _ d => uptoBulk d + 1
  | .map entries => uptoBulkEntries entries + 1
  | .held _ => 1
def uptoBulkAll {H : Type} : List (DataW H) → Nat
  | [] => 0
  | d :: r => uptoBulk d + uptoBulkAll r
def uptoBulkEntries {H : Type} : List (Lit × DataW H) → Nat
  | [] => 0
  | x :: r => uptoBulkEntry x + uptoBulkEntries r
def uptoBulkEntry {H : Type} : Lit × DataW H → Nat
  | (.string bytes, d) => bytes.length + uptoBulk d + 1
  | (_, d) => uptoBulk d + 1
 end
def uptoSmall : (H : Type) → List (DataW H) → Bool := fun _ ds => decide (uptoBulkAll ds ≤ 1048576)
def OpenSpec.upto (s : _root_.Go.ChangeSpec) : _root_.Go.OpenSpec := { _root_.Go.OpenSpec.ofChange s with cond := some uptoSmall }

/-- 'catenalaw01.VarnumOrder', WHERE WHAT IT READS IS OF BULK AT MOST 1048576: true; the input reads as it did. -/
def varnumOrderUptoRow : OpenClaim := { program := "ytclbndfoljmakaa", sum := "0717dacb2cd1637feaf1634a60bd5d2dbb9de5b67a30d30b76f51aa8332e0ae7", func := "catena/catenalaw01.VarnumOrder", spec := "varnumOrder", apart := false, narrowed := true }
def VarnumOrderUptoSaid : Prop := varnumOrderUptoRow.holds Try.pinned (OpenSpec.upto varnumOrderSpec)

/-- 'catenalaw01.VarnumBack', WHERE WHAT IT READS IS OF BULK AT MOST 1048576: true; the input reads as it did. -/
def varnumBackUptoRow : OpenClaim := { program := "ytclbndfoljmakaa", sum := "0717dacb2cd1637feaf1634a60bd5d2dbb9de5b67a30d30b76f51aa8332e0ae7", func := "catena/catenalaw01.VarnumBack", spec := "varnumBack", apart := false, narrowed := true }
def VarnumBackUptoSaid : Prop := varnumBackUptoRow.holds Try.pinned (OpenSpec.upto varnumBackSpec)

/-- 'catenalaw01.VarnumList', WHERE WHAT IT READS IS OF BULK AT MOST 1048576: true; the input reads as it did. -/
def varnumListUptoRow : OpenClaim := { program := "ytclbndfoljmakaa", sum := "0717dacb2cd1637feaf1634a60bd5d2dbb9de5b67a30d30b76f51aa8332e0ae7", func := "catena/catenalaw01.VarnumList", spec := "varnumList", apart := false, narrowed := true }
def VarnumListUptoSaid : Prop := varnumListUptoRow.holds Try.pinned (OpenSpec.upto varnumListSpec)

/-- 'catenalaw01.VarnumPlays', WHERE WHAT IT READS IS OF BULK AT MOST 1048576: true; the input reads as it did. -/
def varnumPlaysUptoRow : OpenClaim := { program := "ytclbndfoljmakaa", sum := "0717dacb2cd1637feaf1634a60bd5d2dbb9de5b67a30d30b76f51aa8332e0ae7", func := "catena/catenalaw01.VarnumPlays", spec := "varnumPlays", apart := false, narrowed := true }
def VarnumPlaysUptoSaid : Prop := varnumPlaysUptoRow.holds Try.pinned (OpenSpec.upto varnumPlaysSpec)

end Rows
end Go.Proofs.Ytclbndfoljmakaa
