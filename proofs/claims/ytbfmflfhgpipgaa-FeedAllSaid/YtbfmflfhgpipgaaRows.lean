/-
  No cell of these rows narrows 'for every input' (looked for: loops, veiled, ifaces, maps, wideKeys, modest, calm, conditions, laid).
  DERIVED. THE GIVEN ROWS OF THIS SEAT. 4 by the template 'for every input the law returns true; each argument reads behind the call as it read before'; 0 by the template 'total and deterministic' (their statements: YtbfmflfhgpipgaaTotals.lean).
  GIVEN WITH THE SEED: the statements are not yours to turn. If you find one false, say at which input.
  Laid BY PROGRAM, IN A SANDBOX (cutbox-rows.mjs): the forced cells as the released guide's own fill.sh prints them over the translation 814d56d77f9fedf9… (all of the seat's roots in one cut). By AI agents, Wed Nov 11 2026. No macro, syntax, notation, axiom, sorry.
-/
import Derived.Test.YtbfmflfhgpipgaaChecked
import GoSem.Claim
import GoSem.ClaimJoined
import GoSem.ClaimMapViews
import Derived.JoinedTies
import Derived.KernelRfl
namespace Go.Proofs.Ytbfmflfhgpipgaa
/- THE CELL 'sum', in the pinned program and in every row, IS THE sha256 OF THE DUMP (.gsa) THAT YtbfmflfhgpipgaaProg.lean LOADS. Nothing in Lean hashes anything: it is a label: what it is worth is what the hold of that sum in a sandbox is worth. -/
noncomputable def Try.pinned : Pinned := { name := "ytbfmflfhgpipgaa", sum := "814d56d77f9fedf9d3bd16536545886ef491ded62d3725cea752271e055fc125", checked := Try.checked }
namespace Rows
def none {H : Type} : Left H := { results := [], args := [] }

/-- 'hindcastlaw20.FeedHints': WHATEVER THE INPUT: true; the input reads as it did. -/
def feedHintsSpec : ChangeSpec := { name := "feedHints", fn := fun _ => fun
  | [d] => { results := [.lit (.bool true)], args := [d] }
  | _ => none }
def feedHintsRow : OpenClaim := { program := "ytbfmflfhgpipgaa", sum := "814d56d77f9fedf9d3bd16536545886ef491ded62d3725cea752271e055fc125", func := "hindcast/hindcastlaw20.FeedHints", spec := "feedHints", apart := false }
def FeedHintsSaid : Prop := feedHintsRow.holds Try.pinned (OpenSpec.ofChange feedHintsSpec)

/-- ITS FALSE NEIGHBOUR: 'it returns false'. Refute it at one input. -/
def feedHintsWrong : ChangeSpec := { name := "feedHints", fn := fun _ => fun
  | [d] => { results := [.lit (.bool false)], args := [d] }
  | _ => none }
def FeedHintsWrongFalsely : Prop := feedHintsRow.holds Try.pinned (OpenSpec.ofChange feedHintsWrong)

/-- 'hindcastlaw20.FeedJoins': WHATEVER THE INPUT: true; the input reads as it did. -/
def feedJoinsSpec : ChangeSpec := { name := "feedJoins", fn := fun _ => fun
  | [d1, d2, d3] => { results := [.lit (.bool true)], args := [d1, d2, d3] }
  | _ => none }
def feedJoinsRow : OpenClaim := { program := "ytbfmflfhgpipgaa", sum := "814d56d77f9fedf9d3bd16536545886ef491ded62d3725cea752271e055fc125", func := "hindcast/hindcastlaw20.FeedJoins", spec := "feedJoins", apart := false }
def FeedJoinsSaid : Prop := feedJoinsRow.holds Try.pinned (OpenSpec.ofChange feedJoinsSpec)

/-- ITS FALSE NEIGHBOUR: 'it returns false'. Refute it at one input. -/
def feedJoinsWrong : ChangeSpec := { name := "feedJoins", fn := fun _ => fun
  | [d1, d2, d3] => { results := [.lit (.bool false)], args := [d1, d2, d3] }
  | _ => none }
def FeedJoinsWrongFalsely : Prop := feedJoinsRow.holds Try.pinned (OpenSpec.ofChange feedJoinsWrong)

/-- 'hindcastlaw20.FeedHot': WHATEVER THE INPUT: true; the input reads as it did. -/
def feedHotSpec : ChangeSpec := { name := "feedHot", fn := fun _ => fun
  | [d1, d2, d3] => { results := [.lit (.bool true)], args := [d1, d2, d3] }
  | _ => none }
def feedHotRow : OpenClaim := { program := "ytbfmflfhgpipgaa", sum := "814d56d77f9fedf9d3bd16536545886ef491ded62d3725cea752271e055fc125", func := "hindcast/hindcastlaw20.FeedHot", spec := "feedHot", apart := false }
def FeedHotSaid : Prop := feedHotRow.holds Try.pinned (OpenSpec.ofChange feedHotSpec)

/-- ITS FALSE NEIGHBOUR: 'it returns false'. Refute it at one input. -/
def feedHotWrong : ChangeSpec := { name := "feedHot", fn := fun _ => fun
  | [d1, d2, d3] => { results := [.lit (.bool false)], args := [d1, d2, d3] }
  | _ => none }
def FeedHotWrongFalsely : Prop := feedHotRow.holds Try.pinned (OpenSpec.ofChange feedHotWrong)

/-- 'hindcastlaw20.FeedAll': WHATEVER THE INPUT: true; the input reads as it did. -/
def feedAllSpec : ChangeSpec := { name := "feedAll", fn := fun _ => fun
  | [d1, d2, d3] => { results := [.lit (.bool true)], args := [d1, d2, d3] }
  | _ => none }
def feedAllRow : OpenClaim := { program := "ytbfmflfhgpipgaa", sum := "814d56d77f9fedf9d3bd16536545886ef491ded62d3725cea752271e055fc125", func := "hindcast/hindcastlaw20.FeedAll", spec := "feedAll", apart := false }
def FeedAllSaid : Prop := feedAllRow.holds Try.pinned (OpenSpec.ofChange feedAllSpec)

/-- ITS FALSE NEIGHBOUR: 'it returns false'. Refute it at one input. -/
def feedAllWrong : ChangeSpec := { name := "feedAll", fn := fun _ => fun
  | [d1, d2, d3] => { results := [.lit (.bool false)], args := [d1, d2, d3] }
  | _ => none }
def FeedAllWrongFalsely : Prop := feedAllRow.holds Try.pinned (OpenSpec.ofChange feedAllWrong)

/- THE SECOND FORM. 'bulk': how many values and letters a reading holds, each counted each time it is reached (what is shared counts as often as it is met; a slice's spare places count too). A statement '..UptoSaid' is the law's where the arguments, and the package variables that the reading takes, are together of bulk at most 1048576: NARROWER than '..Said'. Prove '..Said' where nothing that the law and all that it calls make is longer than what came in: it says more and counts as full. Else prove '..UptoSaid'. A law counts once. -/
mutual
def uptoBulk {H : Type} : DataW H → Nat
  | .lit (.string bytes) => bytes.length + 1
  | .lit _ => 1
  | .nil => 1
  | .ptr d => uptoBulk d + 1
  | .slice elems spare => uptoBulkAll elems + uptoBulkAll spare + 1
  | .agg parts => uptoBulkAll parts + 1
  | .iface _ d => uptoBulk d + 1
  | .map entries => uptoBulkEntries entries + 1
  | .held _ => 1
def uptoBulkAll {H : Type} : List (DataW H) → Nat
  | [] => 0
  | d :: r => uptoBulk d + uptoBulkAll r
def uptoBulkEntries {H : Type} : List (Lit × DataW H) → Nat
  | [] => 0
  | x :: r => uptoBulkEntry x + uptoBulkEntries r
def uptoBulkEntry {H : Type} : Lit × DataW H → Nat
  | (.string bytes, d) => bytes.length + uptoBulk d + 1
  | (_, d) => uptoBulk d + 1
 end
def uptoSmall : (H : Type) → List (DataW H) → Bool := fun _ ds => decide (uptoBulkAll ds ≤ 1048576)
def OpenSpec.upto (s : _root_.Go.ChangeSpec) : _root_.Go.OpenSpec := { _root_.Go.OpenSpec.ofChange s with cond := some uptoSmall }

/-- 'hindcastlaw20.FeedHints', WHERE WHAT IT READS IS OF BULK AT MOST 1048576: true; the input reads as it did. -/
def feedHintsUptoRow : OpenClaim := { program := "ytbfmflfhgpipgaa", sum := "814d56d77f9fedf9d3bd16536545886ef491ded62d3725cea752271e055fc125", func := "hindcast/hindcastlaw20.FeedHints", spec := "feedHints", apart := false, narrowed := true }
def FeedHintsUptoSaid : Prop := feedHintsUptoRow.holds Try.pinned (OpenSpec.upto feedHintsSpec)

/-- 'hindcastlaw20.FeedJoins', WHERE WHAT IT READS IS OF BULK AT MOST 1048576: true; the input reads as it did. -/
def feedJoinsUptoRow : OpenClaim := { program := "ytbfmflfhgpipgaa", sum := "814d56d77f9fedf9d3bd16536545886ef491ded62d3725cea752271e055fc125", func := "hindcast/hindcastlaw20.FeedJoins", spec := "feedJoins", apart := false, narrowed := true }
def FeedJoinsUptoSaid : Prop := feedJoinsUptoRow.holds Try.pinned (OpenSpec.upto feedJoinsSpec)

/-- 'hindcastlaw20.FeedHot', WHERE WHAT IT READS IS OF BULK AT MOST 1048576: true; the input reads as it did. -/
def feedHotUptoRow : OpenClaim := { program := "ytbfmflfhgpipgaa", sum := "814d56d77f9fedf9d3bd16536545886ef491ded62d3725cea752271e055fc125", func := "hindcast/hindcastlaw20.FeedHot", spec := "feedHot", apart := false, narrowed := true }
def FeedHotUptoSaid : Prop := feedHotUptoRow.holds Try.pinned (OpenSpec.upto feedHotSpec)

/-- 'hindcastlaw20.FeedAll', WHERE WHAT IT READS IS OF BULK AT MOST 1048576: true; the input reads as it did. -/
def feedAllUptoRow : OpenClaim := { program := "ytbfmflfhgpipgaa", sum := "814d56d77f9fedf9d3bd16536545886ef491ded62d3725cea752271e055fc125", func := "hindcast/hindcastlaw20.FeedAll", spec := "feedAll", apart := false, narrowed := true }
def FeedAllUptoSaid : Prop := feedAllUptoRow.holds Try.pinned (OpenSpec.upto feedAllSpec)

end Rows
end Go.Proofs.Ytbfmflfhgpipgaa
