/-
  No cell of these rows narrows 'for every input' (looked for: loops, veiled, ifaces, maps, wideKeys, modest, calm, conditions, laid).
  DERIVED. THE GIVEN ROWS OF THIS SEAT. 4 by the template 'for every input the law returns true; each argument reads behind the call as it read before'; 0 by the template 'total and deterministic' (their statements: YtkenbckagmjheaaTotals.lean).
  GIVEN WITH THE SEED: the statements are not yours to turn. If you find one false, say at which input.
  Laid BY PROGRAM, IN A SANDBOX (cutbox-rows.mjs): the forced cells as the released guide's own fill.sh prints them over the translation a6586a9770031034… (all of the seat's roots in one cut). By AI agents, Wed Nov 11 2026. No macro, syntax, notation, axiom, sorry.
-/
import Derived.Test.YtkenbckagmjheaaChecked
import GoSem.Claim
import GoSem.ClaimJoined
import GoSem.ClaimMapViews
import Derived.JoinedTies
import Derived.KernelRfl
namespace Go.Proofs.Ytkenbckagmjheaa
/- THE CELL 'sum', in the pinned program and in every row, IS THE sha256 OF THE DUMP (.gsa) THAT YtkenbckagmjheaaProg.lean LOADS. Nothing in Lean hashes anything: it is a label: what it is worth is what the hold of that sum in a sandbox is worth. -/
noncomputable def Try.pinned : Pinned := { name := "ytkenbckagmjheaa", sum := "a6586a97700310349c4771770224d317e90b6465ebffb52dcf2920edb9e64d8d", checked := Try.checked }
namespace Rows
def none {H : Type} : Left H := { results := [], args := [] }

/-- 'hindcastlaw25.KeepMost': WHATEVER THE INPUT: true; the input reads as it did. -/
def keepMostSpec : ChangeSpec := { name := "keepMost", fn := fun _ => fun
  | [d1, d2, d3, d4] => { results := [.lit (.bool true)], args := [d1, d2, d3, d4] }
  | _ => none }
def keepMostRow : OpenClaim := { program := "ytkenbckagmjheaa", sum := "a6586a97700310349c4771770224d317e90b6465ebffb52dcf2920edb9e64d8d", func := "hindcast/hindcastlaw25.KeepMost", spec := "keepMost", inPlace := ["slices.overlaps[int]"], apart := false }
def KeepMostSaid : Prop := keepMostRow.holds Try.pinned (OpenSpec.ofChange keepMostSpec)

/-- ITS FALSE NEIGHBOUR: 'it returns false'. Refute it at one input. -/
def keepMostWrong : ChangeSpec := { name := "keepMost", fn := fun _ => fun
  | [d1, d2, d3, d4] => { results := [.lit (.bool false)], args := [d1, d2, d3, d4] }
  | _ => none }
def KeepMostWrongFalsely : Prop := keepMostRow.holds Try.pinned (OpenSpec.ofChange keepMostWrong)

/-- 'hindcastlaw25.KeepNear': WHATEVER THE INPUT: true; the input reads as it did. -/
def keepNearSpec : ChangeSpec := { name := "keepNear", fn := fun _ => fun
  | [d1, d2, d3, d4] => { results := [.lit (.bool true)], args := [d1, d2, d3, d4] }
  | _ => none }
def keepNearRow : OpenClaim := { program := "ytkenbckagmjheaa", sum := "a6586a97700310349c4771770224d317e90b6465ebffb52dcf2920edb9e64d8d", func := "hindcast/hindcastlaw25.KeepNear", spec := "keepNear", inPlace := ["slices.overlaps[int]"], apart := false }
def KeepNearSaid : Prop := keepNearRow.holds Try.pinned (OpenSpec.ofChange keepNearSpec)

/-- ITS FALSE NEIGHBOUR: 'it returns false'. Refute it at one input. -/
def keepNearWrong : ChangeSpec := { name := "keepNear", fn := fun _ => fun
  | [d1, d2, d3, d4] => { results := [.lit (.bool false)], args := [d1, d2, d3, d4] }
  | _ => none }
def KeepNearWrongFalsely : Prop := keepNearRow.holds Try.pinned (OpenSpec.ofChange keepNearWrong)

/-- 'hindcastlaw25.KeepPlays': WHATEVER THE INPUT: true; the input reads as it did. -/
def keepPlaysSpec : ChangeSpec := { name := "keepPlays", fn := fun _ => fun
  | [d1, d2, d3, d4] => { results := [.lit (.bool true)], args := [d1, d2, d3, d4] }
  | _ => none }
def keepPlaysRow : OpenClaim := { program := "ytkenbckagmjheaa", sum := "a6586a97700310349c4771770224d317e90b6465ebffb52dcf2920edb9e64d8d", func := "hindcast/hindcastlaw25.KeepPlays", spec := "keepPlays", inPlace := ["slices.overlaps[int]"], apart := false }
def KeepPlaysSaid : Prop := keepPlaysRow.holds Try.pinned (OpenSpec.ofChange keepPlaysSpec)

/-- ITS FALSE NEIGHBOUR: 'it returns false'. Refute it at one input. -/
def keepPlaysWrong : ChangeSpec := { name := "keepPlays", fn := fun _ => fun
  | [d1, d2, d3, d4] => { results := [.lit (.bool false)], args := [d1, d2, d3, d4] }
  | _ => none }
def KeepPlaysWrongFalsely : Prop := keepPlaysRow.holds Try.pinned (OpenSpec.ofChange keepPlaysWrong)

/-- 'hindcastlaw25.KeepNil': WHATEVER THE INPUT: true; the input reads as it did. -/
def keepNilSpec : ChangeSpec := { name := "keepNil", fn := fun _ => fun
  | [d1, d2] => { results := [.lit (.bool true)], args := [d1, d2] }
  | _ => none }
def keepNilRow : OpenClaim := { program := "ytkenbckagmjheaa", sum := "a6586a97700310349c4771770224d317e90b6465ebffb52dcf2920edb9e64d8d", func := "hindcast/hindcastlaw25.KeepNil", spec := "keepNil", inPlace := ["slices.overlaps[int]"], apart := false }
def KeepNilSaid : Prop := keepNilRow.holds Try.pinned (OpenSpec.ofChange keepNilSpec)

/-- ITS FALSE NEIGHBOUR: 'it returns false'. Refute it at one input. -/
def keepNilWrong : ChangeSpec := { name := "keepNil", fn := fun _ => fun
  | [d1, d2] => { results := [.lit (.bool false)], args := [d1, d2] }
  | _ => none }
def KeepNilWrongFalsely : Prop := keepNilRow.holds Try.pinned (OpenSpec.ofChange keepNilWrong)

/- THE SECOND FORM. 'bulk': how many values and letters a reading holds, each counted each time it is reached (what is shared counts as often as it is met; a slice's spare places count too). A statement '..UptoSaid' is the law's where the arguments, and the package variables that the reading takes, are together of bulk at most 1048576: NARROWER than '..Said'. Prove '..Said' where nothing that the law and all that it calls make is longer than what came in: it says more and counts as full. Else prove '..UptoSaid'. A law counts once. -/
mutual
def uptoBulk {H : Type} : DataW H → Nat
  | .lit (.string bytes) => bytes.length + 1
  | .lit _ => 1
  | .nil => 1
  | .ptr d => uptoBulk d + 1
  | .slice elems spare => uptoBulkAll elems + uptoBulkAll spare + 1
  | .agg parts => uptoBulkAll parts + 1
  | .iface _ d => uptoBulk d + 1
  | .map entries => uptoBulkEntries entries + 1
  | .held _ => 1
def uptoBulkAll {H : Type} : List (DataW H) → Nat
  | [] => 0
  | d :: r => uptoBulk d + uptoBulkAll r
def uptoBulkEntries {H : Type} : List (Lit × DataW H) → Nat
  | [] => 0
  | x :: r => uptoBulkEntry x + uptoBulkEntries r
def uptoBulkEntry {H : Type} : Lit × DataW H → Nat
  | (.string bytes, d) => bytes.length + uptoBulk d + 1
  | (_, d) => uptoBulk d + 1
 end
def uptoSmall : (H : Type) → List (DataW H) → Bool := fun _ ds => decide (uptoBulkAll ds ≤ 1048576)
def OpenSpec.upto (s : _root_.Go.ChangeSpec) : _root_.Go.OpenSpec := { _root_.Go.OpenSpec.ofChange s with cond := some uptoSmall }

/-- 'hindcastlaw25.KeepMost', WHERE WHAT IT READS IS OF BULK AT MOST 1048576: true; the input reads as it did. -/
def keepMostUptoRow : OpenClaim := { program := "ytkenbckagmjheaa", sum := "a6586a97700310349c4771770224d317e90b6465ebffb52dcf2920edb9e64d8d", func := "hindcast/hindcastlaw25.KeepMost", spec := "keepMost", inPlace := ["slices.overlaps[int]"], apart := false, narrowed := true }
def KeepMostUptoSaid : Prop := keepMostUptoRow.holds Try.pinned (OpenSpec.upto keepMostSpec)

/-- 'hindcastlaw25.KeepNear', WHERE WHAT IT READS IS OF BULK AT MOST 1048576: true; the input reads as it did. -/
def keepNearUptoRow : OpenClaim := { program := "ytkenbckagmjheaa", sum := "a6586a97700310349c4771770224d317e90b6465ebffb52dcf2920edb9e64d8d", func := "hindcast/hindcastlaw25.KeepNear", spec := "keepNear", inPlace := ["slices.overlaps[int]"], apart := false, narrowed := true }
def KeepNearUptoSaid : Prop := keepNearUptoRow.holds Try.pinned (OpenSpec.upto keepNearSpec)

/-- 'hindcastlaw25.KeepPlays', WHERE WHAT IT READS IS OF BULK AT MOST 1048576: true; the input reads as it did. -/
def keepPlaysUptoRow : OpenClaim := { program := "ytkenbckagmjheaa", sum := "a6586a97700310349c4771770224d317e90b6465ebffb52dcf2920edb9e64d8d", func := "hindcast/hindcastlaw25.KeepPlays", spec := "keepPlays", inPlace := ["slices.overlaps[int]"], apart := false, narrowed := true }
def KeepPlaysUptoSaid : Prop := keepPlaysUptoRow.holds Try.pinned (OpenSpec.upto keepPlaysSpec)

/-- 'hindcastlaw25.KeepNil', WHERE WHAT IT READS IS OF BULK AT MOST 1048576: true; the input reads as it did. -/
def keepNilUptoRow : OpenClaim := { program := "ytkenbckagmjheaa", sum := "a6586a97700310349c4771770224d317e90b6465ebffb52dcf2920edb9e64d8d", func := "hindcast/hindcastlaw25.KeepNil", spec := "keepNil", inPlace := ["slices.overlaps[int]"], apart := false, narrowed := true }
def KeepNilUptoSaid : Prop := keepNilUptoRow.holds Try.pinned (OpenSpec.upto keepNilSpec)

end Rows
end Go.Proofs.Ytkenbckagmjheaa
