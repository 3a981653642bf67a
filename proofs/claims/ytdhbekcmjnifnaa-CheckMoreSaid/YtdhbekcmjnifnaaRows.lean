/-
  NARROWER THAN 'FOR EVERY INPUT', by the rows' own cells (each row's printed sentence says how): MeanShift: loops · MeanMore: loops · CheckUses: loops · CheckMore: loops.
  DERIVED. THE GIVEN ROWS OF THIS SEAT. 4 by the template 'for every input the law returns true; each argument reads behind the call as it read before'; 0 by the template 'total and deterministic' (their statements: YtdhbekcmjnifnaaTotals.lean).
  GIVEN WITH THE SEED: the statements are not yours to turn. If you find one false, say at which input.
  Laid BY PROGRAM, IN A SANDBOX (cutbox-rows.mjs): the forced cells as the released guide's own fill.sh prints them over the translation b0d7d7a36a80571a… (all of the seat's roots in one cut). By AI agents, Wed Nov 11 2026. No macro, syntax, notation, axiom, sorry.
-/
import Derived.Test.YtdhbekcmjnifnaaChecked
import GoSem.Claim
import GoSem.ClaimJoined
import GoSem.ClaimMapViews
import Derived.JoinedTies
import Derived.KernelRfl
namespace Go.Proofs.Ytdhbekcmjnifnaa
/- THE CELL 'sum', in the pinned program and in every row, IS THE sha256 OF THE DUMP (.gsa) THAT YtdhbekcmjnifnaaProg.lean LOADS. Nothing in Lean hashes anything: it is a label: what it is worth is what the hold of that sum in a sandbox is worth. -/
noncomputable def Try.pinned : Pinned := { name := "ytdhbekcmjnifnaa", sum := "b0d7d7a36a80571a8cfc6c54b13292d391a62d99488ff42b9929a6453a260e16", checked := Try.checked }
namespace Rows
def none {H : Type} : Left H := { results := [], args := [] }

/-- 'slotlaw6.MeanShift': WHATEVER THE INPUT: true; the input reads as it did. -/
def meanShiftSpec : ChangeSpec := { name := "meanShift", fn := fun _ => fun
  | [d1, d2, d3, d4, d5, d6] => { results := [.lit (.bool true)], args := [d1, d2, d3, d4, d5, d6] }
  | _ => none }
def meanShiftRow : OpenClaim := { program := "ytdhbekcmjnifnaa", sum := "b0d7d7a36a80571a8cfc6c54b13292d391a62d99488ff42b9929a6453a260e16", func := "slotrules/slotlaw6.MeanShift", spec := "meanShift", inPlace := ["internal/bytealg.IndexByteString"], unfollowed := true, recurses := true, loops := true, apart := false }
def MeanShiftSaid : Prop := meanShiftRow.holds Try.pinned (OpenSpec.ofChange meanShiftSpec)

/-- ITS FALSE NEIGHBOUR: 'it returns false'. Refute it at one input. -/
def meanShiftWrong : ChangeSpec := { name := "meanShift", fn := fun _ => fun
  | [d1, d2, d3, d4, d5, d6] => { results := [.lit (.bool false)], args := [d1, d2, d3, d4, d5, d6] }
  | _ => none }
def MeanShiftWrongFalsely : Prop := meanShiftRow.holds Try.pinned (OpenSpec.ofChange meanShiftWrong)

/-- 'slotlaw6.MeanMore': WHATEVER THE INPUT: true; the input reads as it did. -/
def meanMoreSpec : ChangeSpec := { name := "meanMore", fn := fun _ => fun
  | [d1, d2, d3, d4] => { results := [.lit (.bool true)], args := [d1, d2, d3, d4] }
  | _ => none }
def meanMoreRow : OpenClaim := { program := "ytdhbekcmjnifnaa", sum := "b0d7d7a36a80571a8cfc6c54b13292d391a62d99488ff42b9929a6453a260e16", func := "slotrules/slotlaw6.MeanMore", spec := "meanMore", inPlace := ["internal/bytealg.IndexByteString"], unfollowed := true, recurses := true, loops := true, apart := false }
def MeanMoreSaid : Prop := meanMoreRow.holds Try.pinned (OpenSpec.ofChange meanMoreSpec)

/-- ITS FALSE NEIGHBOUR: 'it returns false'. Refute it at one input. -/
def meanMoreWrong : ChangeSpec := { name := "meanMore", fn := fun _ => fun
  | [d1, d2, d3, d4] => { results := [.lit (.bool false)], args := [d1, d2, d3, d4] }
  | _ => none }
def MeanMoreWrongFalsely : Prop := meanMoreRow.holds Try.pinned (OpenSpec.ofChange meanMoreWrong)

/-- 'slotlaw5.CheckUses': WHATEVER THE INPUT: true; the input reads as it did. -/
def checkUsesSpec : ChangeSpec := { name := "checkUses", fn := fun _ => fun
  | [d] => { results := [.lit (.bool true)], args := [d] }
  | _ => none }
def checkUsesRow : OpenClaim := { program := "ytdhbekcmjnifnaa", sum := "b0d7d7a36a80571a8cfc6c54b13292d391a62d99488ff42b9929a6453a260e16", func := "slotrules/slotlaw5.CheckUses", spec := "checkUses", inPlace := ["internal/bytealg.IndexByteString"], unfollowed := true, recurses := true, loops := true, apart := false }
def CheckUsesSaid : Prop := checkUsesRow.holds Try.pinned (OpenSpec.ofChange checkUsesSpec)

/-- ITS FALSE NEIGHBOUR: 'it returns false'. Refute it at one input. -/
def checkUsesWrong : ChangeSpec := { name := "checkUses", fn := fun _ => fun
  | [d] => { results := [.lit (.bool false)], args := [d] }
  | _ => none }
def CheckUsesWrongFalsely : Prop := checkUsesRow.holds Try.pinned (OpenSpec.ofChange checkUsesWrong)

/-- 'slotlaw5.CheckMore': WHATEVER THE INPUT: true; the input reads as it did. -/
def checkMoreSpec : ChangeSpec := { name := "checkMore", fn := fun _ => fun
  | [d1, d2] => { results := [.lit (.bool true)], args := [d1, d2] }
  | _ => none }
def checkMoreRow : OpenClaim := { program := "ytdhbekcmjnifnaa", sum := "b0d7d7a36a80571a8cfc6c54b13292d391a62d99488ff42b9929a6453a260e16", func := "slotrules/slotlaw5.CheckMore", spec := "checkMore", inPlace := ["internal/bytealg.IndexByteString"], unfollowed := true, recurses := true, loops := true, apart := false }
def CheckMoreSaid : Prop := checkMoreRow.holds Try.pinned (OpenSpec.ofChange checkMoreSpec)

/-- ITS FALSE NEIGHBOUR: 'it returns false'. Refute it at one input. -/
def checkMoreWrong : ChangeSpec := { name := "checkMore", fn := fun _ => fun
  | [d1, d2] => { results := [.lit (.bool false)], args := [d1, d2] }
  | _ => none }
def CheckMoreWrongFalsely : Prop := checkMoreRow.holds Try.pinned (OpenSpec.ofChange checkMoreWrong)

/- THE SECOND FORM. 'bulk': how many values and letters a reading holds, each counted each time it is reached (what is shared counts as often as it is met; a slice's spare places count too). A statement '..UptoSaid' is the law's where the arguments, and the package variables that the reading takes, are together of bulk at most 1048576: NARROWER than '..Said'. Prove '..Said' where nothing that the law and all that it calls make is longer than what came in: it says more and counts as full. Else prove '..UptoSaid'. A law counts once. -/
mutual
def uptoBulk {H : Type} : DataW H → Nat
  | .lit (.string bytes) => bytes.length + 1
  | .lit _ => 1
  | .nil => 1
  | .ptr d => uptoBulk d + 1
  | .slice elems spare => uptoBulkAll elems + uptoBulkAll spare + 1
  | .agg parts => uptoBulkAll parts + 1
  | .iface _ d => uptoBulk d + 1
  | .map entries => uptoBulkEntries entries + 1
  | .held _ => 1
def uptoBulkAll {H : Type} : List (DataW H) → Nat
  | [] => 0
  | d :: r => uptoBulk d + uptoBulkAll r
def uptoBulkEntries {H : Type} : List (Lit × DataW H) → Nat
  | [] => 0
  | x :: r => uptoBulkEntry x + uptoBulkEntries r
def uptoBulkEntry {H : Type} : Lit × DataW H → Nat
  | (.string bytes, d) => bytes.length + uptoBulk d + 1
  | (_, d) => uptoBulk d + 1
 end
def uptoSmall : (H : Type) → List (DataW H) → Bool := fun _ ds => decide (uptoBulkAll ds ≤ 1048576)
def OpenSpec.upto (s : _root_.Go.ChangeSpec) : _root_.Go.OpenSpec := { _root_.Go.OpenSpec.ofChange s with cond := some uptoSmall }

/-- 'slotlaw6.MeanShift', WHERE WHAT IT READS IS OF BULK AT MOST 1048576: true; the input reads as it did. -/
def meanShiftUptoRow : OpenClaim := { program := "ytdhbekcmjnifnaa", sum := "b0d7d7a36a80571a8cfc6c54b13292d391a62d99488ff42b9929a6453a260e16", func := "slotrules/slotlaw6.MeanShift", spec := "meanShift", inPlace := ["internal/bytealg.IndexByteString"], unfollowed := true, recurses := true, loops := true, apart := false, narrowed := true }
def MeanShiftUptoSaid : Prop := meanShiftUptoRow.holds Try.pinned (OpenSpec.upto meanShiftSpec)

/-- 'slotlaw6.MeanMore', WHERE WHAT IT READS IS OF BULK AT MOST 1048576: true; the input reads as it did. -/
def meanMoreUptoRow : OpenClaim := { program := "ytdhbekcmjnifnaa", sum := "b0d7d7a36a80571a8cfc6c54b13292d391a62d99488ff42b9929a6453a260e16", func := "slotrules/slotlaw6.MeanMore", spec := "meanMore", inPlace := ["internal/bytealg.IndexByteString"], unfollowed := true, recurses := true, loops := true, apart := false, narrowed := true }
def MeanMoreUptoSaid : Prop := meanMoreUptoRow.holds Try.pinned (OpenSpec.upto meanMoreSpec)

/-- 'slotlaw5.CheckUses', WHERE WHAT IT READS IS OF BULK AT MOST 1048576: true; the input reads as it did. -/
def checkUsesUptoRow : OpenClaim := { program := "ytdhbekcmjnifnaa", sum := "b0d7d7a36a80571a8cfc6c54b13292d391a62d99488ff42b9929a6453a260e16", func := "slotrules/slotlaw5.CheckUses", spec := "checkUses", inPlace := ["internal/bytealg.IndexByteString"], unfollowed := true, recurses := true, loops := true, apart := false, narrowed := true }
def CheckUsesUptoSaid : Prop := checkUsesUptoRow.holds Try.pinned (OpenSpec.upto checkUsesSpec)

/-- 'slotlaw5.CheckMore', WHERE WHAT IT READS IS OF BULK AT MOST 1048576: true; the input reads as it did. -/
def checkMoreUptoRow : OpenClaim := { program := "ytdhbekcmjnifnaa", sum := "b0d7d7a36a80571a8cfc6c54b13292d391a62d99488ff42b9929a6453a260e16", func := "slotrules/slotlaw5.CheckMore", spec := "checkMore", inPlace := ["internal/bytealg.IndexByteString"], unfollowed := true, recurses := true, loops := true, apart := false, narrowed := true }
def CheckMoreUptoSaid : Prop := checkMoreUptoRow.holds Try.pinned (OpenSpec.upto checkMoreSpec)

end Rows
end Go.Proofs.Ytdhbekcmjnifnaa
