/-
  No cell of these rows narrows 'for every input' (looked for: loops, veiled, ifaces, maps, wideKeys, modest, calm, conditions, laid).
  DERIVED. THE GIVEN ROWS OF THIS SEAT. 2 by the template 'for every input the law returns true; each argument reads behind the call as it read before'; 0 by the template 'total and deterministic' (their statements: YtcjeipeeacnmmaaTotals.lean).
  GIVEN WITH THE SEED: the statements are not yours to turn. If you find one false, say at which input.
  Laid BY PROGRAM, IN A SANDBOX (cutbox-rows.mjs): the forced cells as the released guide's own fill.sh prints them over the translation d30a141ae49c2e84… (all of the seat's roots in one cut). By AI agents, Wed Nov 11 2026. No macro, syntax, notation, axiom, sorry.
-/
import Derived.Test.YtcjeipeeacnmmaaChecked
import GoSem.Claim
import GoSem.ClaimJoined
import GoSem.ClaimMapViews
import Derived.JoinedTies
import Derived.KernelRfl
namespace Go.Proofs.Ytcjeipeeacnmmaa
/- THE CELL 'sum', in the pinned program and in every row, IS THE sha256 OF THE DUMP (.gsa) THAT YtcjeipeeacnmmaaProg.lean LOADS. Nothing in Lean hashes anything: it is a label: what it is worth is what the hold of that sum in a sandbox is worth. -/
noncomputable def Try.pinned : Pinned := { name := "ytcjeipeeacnmmaa", sum := "d30a141ae49c2e848747f4b6c05b606cd65193df1a46a3c59a1f760c708ef421", checked := Try.checked }
namespace Rows
def none {H : Type} : Left H := { results := [], args := [] }

/-- 'culvertlaw18.ReasmHalves': WHATEVER THE INPUT: true; the input reads as it did. -/
def reasmHalvesSpec : ChangeSpec := { name := "reasmHalves", fn := fun _ => fun
  | [d1, d2, d3, d4] => { results := [.lit (.bool true)], args := [d1, d2, d3, d4] }
  | _ => none }
def reasmHalvesRow : OpenClaim := { program := "ytcjeipeeacnmmaa", sum := "d30a141ae49c2e848747f4b6c05b606cd65193df1a46a3c59a1f760c708ef421", func := "culvert/culvertlaw18.ReasmHalves", spec := "reasmHalves", inPlace := ["maps.clone"], unfollowed := true, recurses := true, apart := false }
def ReasmHalvesSaid : Prop := reasmHalvesRow.holds Try.pinned (OpenSpec.ofChange reasmHalvesSpec)

/-- ITS FALSE NEIGHBOUR: 'it returns false'. Refute it at one input. -/
def reasmHalvesWrong : ChangeSpec := { name := "reasmHalves", fn := fun _ => fun
  | [d1, d2, d3, d4] => { results := [.lit (.bool false)], args := [d1, d2, d3, d4] }
  | _ => none }
def ReasmHalvesWrongFalsely : Prop := reasmHalvesRow.holds Try.pinned (OpenSpec.ofChange reasmHalvesWrong)

/-- 'culvertlaw20.EndpTakes': WHATEVER THE INPUT: true; the input reads as it did. -/
def endpTakesSpec : ChangeSpec := { name := "endpTakes", fn := fun _ => fun
  | [d1, d2, d3, d4, d5] => { results := [.lit (.bool true)], args := [d1, d2, d3, d4, d5] }
  | _ => none }
def endpTakesRow : OpenClaim := { program := "ytcjeipeeacnmmaa", sum := "d30a141ae49c2e848747f4b6c05b606cd65193df1a46a3c59a1f760c708ef421", func := "culvert/culvertlaw20.EndpTakes", spec := "endpTakes", inPlace := ["maps.clone"], unfollowed := true, recurses := true, apart := false }
def EndpTakesSaid : Prop := endpTakesRow.holds Try.pinned (OpenSpec.ofChange endpTakesSpec)

/-- ITS FALSE NEIGHBOUR: 'it returns false'. Refute it at one input. -/
def endpTakesWrong : ChangeSpec := { name := "endpTakes", fn := fun _ => fun
  | [d1, d2, d3, d4, d5] => { results := [.lit (.bool false)], args := [d1, d2, d3, d4, d5] }
  | _ => none }
def EndpTakesWrongFalsely : Prop := endpTakesRow.holds Try.pinned (OpenSpec.ofChange endpTakesWrong)

/- THE SECOND FORM. 'bulk': how many values and letters a reading holds, each counted each time it is reached (what is shared counts as often as it is met; a slice's spare places count too). A statement '..UptoSaid' is the law's where the arguments, and the package variables that the reading takes, are together of bulk at most 1048576: NARROWER than '..Said'. Prove '..Said' where nothing that the law and all that it calls make is longer than what came in: it says more and counts as full. Else prove '..UptoSaid'. A law counts once. -/
mutual
def uptoBulk {H : Type} : DataW H → Nat
  | .lit (.string bytes) => bytes.length + 1
  | .lit _ => 1
  | .nil => 1
  | .ptr d => uptoBulk d + 1
  | .slice elems spare => uptoBulkAll elems + uptoBulkAll spare + 1
  | .agg parts => uptoBulkAll parts + 1
  | .iface _ d => uptoBulk d + 1
  | .map entries => uptoBulkEntries entries + 1
  | .held _ => 1
def uptoBulkAll {H : Type} : List (DataW H) → Nat
  | [] => 0
  | d :: r => uptoBulk d + uptoBulkAll r
def uptoBulkEntries {H : Type} : List (Lit × DataW H) → Nat
  | [] => 0
  | x :: r => uptoBulkEntry x + uptoBulkEntries r
def uptoBulkEntry {H : Type} : Lit × DataW H → Nat
  | (.string bytes, d) => bytes.length + uptoBulk d + 1
  | (_, d) => uptoBulk d + 1
 end
def uptoSmall : (H : Type) → List (DataW H) → Bool := fun _ ds => decide (uptoBulkAll ds ≤ 1048576)
def OpenSpec.upto (s : _root_.Go.ChangeSpec) : _root_.Go.OpenSpec := { _root_.Go.OpenSpec.ofChange s with cond := some uptoSmall }

/-- 'culvertlaw18.ReasmHalves', WHERE WHAT IT READS IS OF BULK AT MOST 1048576: true; the input reads as it did. -/
def reasmHalvesUptoRow : OpenClaim := { program := "ytcjeipeeacnmmaa", sum := "d30a141ae49c2e848747f4b6c05b606cd65193df1a46a3c59a1f760c708ef421", func := "culvert/culvertlaw18.ReasmHalves", spec := "reasmHalves", inPlace := ["maps.clone"], unfollowed := true, recurses := true, apart := false, narrowed := true }
def ReasmHalvesUptoSaid : Prop := reasmHalvesUptoRow.holds Try.pinned (OpenSpec.upto reasmHalvesSpec)

/-- 'culvertlaw20.EndpTakes', WHERE WHAT IT READS IS OF BULK AT MOST 1048576: true; the input reads as it did. -/
def endpTakesUptoRow : OpenClaim := { program := "ytcjeipeeacnmmaa", sum := "d30a141ae49c2e848747f4b6c05b606cd65193df1a46a3c59a1f760c708ef421", func := "culvert/culvertlaw20.EndpTakes", spec := "endpTakes", inPlace := ["maps.clone"], unfollowed := true, recurses := true, apart := false, narrowed := true }
def EndpTakesUptoSaid : Prop := endpTakesUptoRow.holds Try.pinned (OpenSpec.upto endpTakesSpec)

end Rows
end Go.Proofs.Ytcjeipeeacnmmaa
