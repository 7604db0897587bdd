/-
  No cell of these rows narrows 'for every input' (looked for: loops, veiled, ifaces, maps, wideKeys, modest, calm, conditions, laid).
  DERIVED. THE GIVEN ROWS OF THIS SEAT. 12 by the template 'for every input the law returns true; each argument reads behind the call as it read before'; 0 by the template 'total and deterministic' (their statements: YtpijbdddegbjbaaTotals.lean).
  GIVEN WITH THE SEED: the statements are not yours to turn. If you find one false, say at which input.
  Laid BY PROGRAM, IN A SANDBOX (cutbox-rows.mjs): the forced cells as the released guide's own fill.sh prints them over the translation 1ec470b51fb91418… (all of the seat's roots in one cut). By AI agents, Wed Nov 11 2026. No macro, syntax, notation, axiom, sorry.
-/
import Derived.Test.YtpijbdddegbjbaaChecked
import GoSem.Claim
import GoSem.ClaimJoined
import GoSem.ClaimMapViews
import Derived.JoinedTies
import Derived.KernelRfl
namespace Go.Proofs.Ytpijbdddegbjbaa
/- THE CELL 'sum', in the pinned program and in every row, IS THE sha256 OF THE DUMP (.gsa) THAT YtpijbdddegbjbaaProg.lean LOADS. Nothing in Lean hashes anything: it is a label: what it is worth is what the hold of that sum in a sandbox is worth. -/
noncomputable def Try.pinned : Pinned := { name := "ytpijbdddegbjbaa", sum := "1ec470b51fb914189c965478fd7144acb1410ae0e8aa236324602a400b1f1f15", checked := Try.checked }
namespace Rows
def none {H : Type} : Left H := { results := [], args := [] }

/-- 'ostiarylaw10.TrimFits': WHATEVER THE INPUT: true; the input reads as it did. -/
def trimFitsSpec : ChangeSpec := { name := "trimFits", fn := fun _ => fun
  | [d1, d2] => { results := [.lit (.bool true)], args := [d1, d2] }
  | _ => none }
def trimFitsRow : OpenClaim := { program := "ytpijbdddegbjbaa", sum := "1ec470b51fb914189c965478fd7144acb1410ae0e8aa236324602a400b1f1f15", func := "ostiary/ostiarylaw10.TrimFits", spec := "trimFits", unfollowed := true, recurses := true, plainKeys := false, apart := false }
def TrimFitsSaid : Prop := trimFitsRow.holds Try.pinned (OpenSpec.ofChange trimFitsSpec)

/-- ITS FALSE NEIGHBOUR: 'it returns false'. Refute it at one input. -/
def trimFitsWrong : ChangeSpec := { name := "trimFits", fn := fun _ => fun
  | [d1, d2] => { results := [.lit (.bool false)], args := [d1, d2] }
  | _ => none }
def TrimFitsWrongFalsely : Prop := trimFitsRow.holds Try.pinned (OpenSpec.ofChange trimFitsWrong)

/-- 'ostiarylaw22.SetsTurned': WHATEVER THE INPUT: true; the input reads as it did. -/
def setsTurnedSpec : ChangeSpec := { name := "setsTurned", fn := fun _ => fun
  | [d1, d2] => { results := [.lit (.bool true)], args := [d1, d2] }
  | _ => none }
def setsTurnedRow : OpenClaim := { program := "ytpijbdddegbjbaa", sum := "1ec470b51fb914189c965478fd7144acb1410ae0e8aa236324602a400b1f1f15", func := "ostiary/ostiarylaw22.SetsTurned", spec := "setsTurned", unfollowed := true, recurses := true, plainKeys := false, apart := false }
def SetsTurnedSaid : Prop := setsTurnedRow.holds Try.pinned (OpenSpec.ofChange setsTurnedSpec)

/-- ITS FALSE NEIGHBOUR: 'it returns false'. Refute it at one input. -/
def setsTurnedWrong : ChangeSpec := { name := "setsTurned", fn := fun _ => fun
  | [d1, d2] => { results := [.lit (.bool false)], args := [d1, d2] }
  | _ => none }
def SetsTurnedWrongFalsely : Prop := setsTurnedRow.holds Try.pinned (OpenSpec.ofChange setsTurnedWrong)

/-- 'ostiarylaw22.SetsParts': WHATEVER THE INPUT: true; the input reads as it did. -/
def setsPartsSpec : ChangeSpec := { name := "setsParts", fn := fun _ => fun
  | [d] => { results := [.lit (.bool true)], args := [d] }
  | _ => none }
def setsPartsRow : OpenClaim := { program := "ytpijbdddegbjbaa", sum := "1ec470b51fb914189c965478fd7144acb1410ae0e8aa236324602a400b1f1f15", func := "ostiary/ostiarylaw22.SetsParts", spec := "setsParts", unfollowed := true, recurses := true, plainKeys := false, apart := false }
def SetsPartsSaid : Prop := setsPartsRow.holds Try.pinned (OpenSpec.ofChange setsPartsSpec)

/-- ITS FALSE NEIGHBOUR: 'it returns false'. Refute it at one input. -/
def setsPartsWrong : ChangeSpec := { name := "setsParts", fn := fun _ => fun
  | [d] => { results := [.lit (.bool false)], args := [d] }
  | _ => none }
def SetsPartsWrongFalsely : Prop := setsPartsRow.holds Try.pinned (OpenSpec.ofChange setsPartsWrong)

/-- 'ostiarylaw20.TableTurns': WHATEVER THE INPUT: true; the input reads as it did. -/
def tableTurnsSpec : ChangeSpec := { name := "tableTurns", fn := fun _ => fun
  | [d1, d2] => { results := [.lit (.bool true)], args := [d1, d2] }
  | _ => none }
def tableTurnsRow : OpenClaim := { program := "ytpijbdddegbjbaa", sum := "1ec470b51fb914189c965478fd7144acb1410ae0e8aa236324602a400b1f1f15", func := "ostiary/ostiarylaw20.TableTurns", spec := "tableTurns", unfollowed := true, recurses := true, plainKeys := false, apart := false }
def TableTurnsSaid : Prop := tableTurnsRow.holds Try.pinned (OpenSpec.ofChange tableTurnsSpec)

/-- ITS FALSE NEIGHBOUR: 'it returns false'. Refute it at one input. -/
def tableTurnsWrong : ChangeSpec := { name := "tableTurns", fn := fun _ => fun
  | [d1, d2] => { results := [.lit (.bool false)], args := [d1, d2] }
  | _ => none }
def TableTurnsWrongFalsely : Prop := tableTurnsRow.holds Try.pinned (OpenSpec.ofChange tableTurnsWrong)

/-- 'ostiarylaw20.TableScript': WHATEVER THE INPUT: true; the input reads as it did. -/
def tableScriptSpec : ChangeSpec := { name := "tableScript", fn := fun _ => fun
  | [d1, d2, d3] => { results := [.lit (.bool true)], args := [d1, d2, d3] }
  | _ => none }
def tableScriptRow : OpenClaim := { program := "ytpijbdddegbjbaa", sum := "1ec470b51fb914189c965478fd7144acb1410ae0e8aa236324602a400b1f1f15", func := "ostiary/ostiarylaw20.TableScript", spec := "tableScript", unfollowed := true, recurses := true, plainKeys := false, apart := false }
def TableScriptSaid : Prop := tableScriptRow.holds Try.pinned (OpenSpec.ofChange tableScriptSpec)

/-- ITS FALSE NEIGHBOUR: 'it returns false'. Refute it at one input. -/
def tableScriptWrong : ChangeSpec := { name := "tableScript", fn := fun _ => fun
  | [d1, d2, d3] => { results := [.lit (.bool false)], args := [d1, d2, d3] }
  | _ => none }
def TableScriptWrongFalsely : Prop := tableScriptRow.holds Try.pinned (OpenSpec.ofChange tableScriptWrong)

/-- 'ostiarylaw20.TableGoes': WHATEVER THE INPUT: true; the input reads as it did. -/
def tableGoesSpec : ChangeSpec := { name := "tableGoes", fn := fun _ => fun
  | [d1, d2] => { results := [.lit (.bool true)], args := [d1, d2] }
  | _ => none }
def tableGoesRow : OpenClaim := { program := "ytpijbdddegbjbaa", sum := "1ec470b51fb914189c965478fd7144acb1410ae0e8aa236324602a400b1f1f15", func := "ostiary/ostiarylaw20.TableGoes", spec := "tableGoes", unfollowed := true, recurses := true, plainKeys := false, apart := false }
def TableGoesSaid : Prop := tableGoesRow.holds Try.pinned (OpenSpec.ofChange tableGoesSpec)

/-- ITS FALSE NEIGHBOUR: 'it returns false'. Refute it at one input. -/
def tableGoesWrong : ChangeSpec := { name := "tableGoes", fn := fun _ => fun
  | [d1, d2] => { results := [.lit (.bool false)], args := [d1, d2] }
  | _ => none }
def TableGoesWrongFalsely : Prop := tableGoesRow.holds Try.pinned (OpenSpec.ofChange tableGoesWrong)

/-- 'ostiarylaw08.MsgWrites': WHATEVER THE INPUT: true; the input reads as it did. -/
def msgWritesSpec : ChangeSpec := { name := "msgWrites", fn := fun _ => fun
  | [d] => { results := [.lit (.bool true)], args := [d] }
  | _ => none }
def msgWritesRow : OpenClaim := { program := "ytpijbdddegbjbaa", sum := "1ec470b51fb914189c965478fd7144acb1410ae0e8aa236324602a400b1f1f15", func := "ostiary/ostiarylaw08.MsgWrites", spec := "msgWrites", unfollowed := true, recurses := true, plainKeys := false, apart := false }
def MsgWritesSaid : Prop := msgWritesRow.holds Try.pinned (OpenSpec.ofChange msgWritesSpec)

/-- ITS FALSE NEIGHBOUR: 'it returns false'. Refute it at one input. -/
def msgWritesWrong : ChangeSpec := { name := "msgWrites", fn := fun _ => fun
  | [d] => { results := [.lit (.bool false)], args := [d] }
  | _ => none }
def MsgWritesWrongFalsely : Prop := msgWritesRow.holds Try.pinned (OpenSpec.ofChange msgWritesWrong)

/-- 'ostiarylaw08.MsgReads': WHATEVER THE INPUT: true; the input reads as it did. -/
def msgReadsSpec : ChangeSpec := { name := "msgReads", fn := fun _ => fun
  | [d] => { results := [.lit (.bool true)], args := [d] }
  | _ => none }
def msgReadsRow : OpenClaim := { program := "ytpijbdddegbjbaa", sum := "1ec470b51fb914189c965478fd7144acb1410ae0e8aa236324602a400b1f1f15", func := "ostiary/ostiarylaw08.MsgReads", spec := "msgReads", unfollowed := true, recurses := true, plainKeys := false, apart := false }
def MsgReadsSaid : Prop := msgReadsRow.holds Try.pinned (OpenSpec.ofChange msgReadsSpec)

/-- ITS FALSE NEIGHBOUR: 'it returns false'. Refute it at one input. -/
def msgReadsWrong : ChangeSpec := { name := "msgReads", fn := fun _ => fun
  | [d] => { results := [.lit (.bool false)], args := [d] }
  | _ => none }
def MsgReadsWrongFalsely : Prop := msgReadsRow.holds Try.pinned (OpenSpec.ofChange msgReadsWrong)

/-- 'ostiarylaw08.MsgBack': WHATEVER THE INPUT: true; the input reads as it did. -/
def msgBackSpec : ChangeSpec := { name := "msgBack", fn := fun _ => fun
  | [d1, d2, d3, d4] => { results := [.lit (.bool true)], args := [d1, d2, d3, d4] }
  | _ => none }
def msgBackRow : OpenClaim := { program := "ytpijbdddegbjbaa", sum := "1ec470b51fb914189c965478fd7144acb1410ae0e8aa236324602a400b1f1f15", func := "ostiary/ostiarylaw08.MsgBack", spec := "msgBack", unfollowed := true, recurses := true, plainKeys := false, apart := false }
def MsgBackSaid : Prop := msgBackRow.holds Try.pinned (OpenSpec.ofChange msgBackSpec)

/-- ITS FALSE NEIGHBOUR: 'it returns false'. Refute it at one input. -/
def msgBackWrong : ChangeSpec := { name := "msgBack", fn := fun _ => fun
  | [d1, d2, d3, d4] => { results := [.lit (.bool false)], args := [d1, d2, d3, d4] }
  | _ => none }
def MsgBackWrongFalsely : Prop := msgBackRow.holds Try.pinned (OpenSpec.ofChange msgBackWrong)

/-- 'ostiarylaw10.TrimKeeps': WHATEVER THE INPUT: true; the input reads as it did. -/
def trimKeepsSpec : ChangeSpec := { name := "trimKeeps", fn := fun _ => fun
  | [d1, d2] => { results := [.lit (.bool true)], args := [d1, d2] }
  | _ => none }
def trimKeepsRow : OpenClaim := { program := "ytpijbdddegbjbaa", sum := "1ec470b51fb914189c965478fd7144acb1410ae0e8aa236324602a400b1f1f15", func := "ostiary/ostiarylaw10.TrimKeeps", spec := "trimKeeps", unfollowed := true, recurses := true, plainKeys := false, apart := false }
def TrimKeepsSaid : Prop := trimKeepsRow.holds Try.pinned (OpenSpec.ofChange trimKeepsSpec)

/-- ITS FALSE NEIGHBOUR: 'it returns false'. Refute it at one input. -/
def trimKeepsWrong : ChangeSpec := { name := "trimKeeps", fn := fun _ => fun
  | [d1, d2] => { results := [.lit (.bool false)], args := [d1, d2] }
  | _ => none }
def TrimKeepsWrongFalsely : Prop := trimKeepsRow.holds Try.pinned (OpenSpec.ofChange trimKeepsWrong)

/-- 'ostiarylaw10.TrimMore': WHATEVER THE INPUT: true; the input reads as it did. -/
def trimMoreSpec : ChangeSpec := { name := "trimMore", fn := fun _ => fun
  | [d1, d2, d3] => { results := [.lit (.bool true)], args := [d1, d2, d3] }
  | _ => none }
def trimMoreRow : OpenClaim := { program := "ytpijbdddegbjbaa", sum := "1ec470b51fb914189c965478fd7144acb1410ae0e8aa236324602a400b1f1f15", func := "ostiary/ostiarylaw10.TrimMore", spec := "trimMore", unfollowed := true, recurses := true, plainKeys := false, apart := false }
def TrimMoreSaid : Prop := trimMoreRow.holds Try.pinned (OpenSpec.ofChange trimMoreSpec)

/-- ITS FALSE NEIGHBOUR: 'it returns false'. Refute it at one input. -/
def trimMoreWrong : ChangeSpec := { name := "trimMore", fn := fun _ => fun
  | [d1, d2, d3] => { results := [.lit (.bool false)], args := [d1, d2, d3] }
  | _ => none }
def TrimMoreWrongFalsely : Prop := trimMoreRow.holds Try.pinned (OpenSpec.ofChange trimMoreWrong)

/-- 'ostiarylaw09.EdnsBack': WHATEVER THE INPUT: true; the input reads as it did. -/
def ednsBackSpec : ChangeSpec := { name := "ednsBack", fn := fun _ => fun
  | [d1, d2] => { results := [.lit (.bool true)], args := [d1, d2] }
  | _ => none }
def ednsBackRow : OpenClaim := { program := "ytpijbdddegbjbaa", sum := "1ec470b51fb914189c965478fd7144acb1410ae0e8aa236324602a400b1f1f15", func := "ostiary/ostiarylaw09.EdnsBack", spec := "ednsBack", unfollowed := true, recurses := true, plainKeys := false, apart := false }
def EdnsBackSaid : Prop := ednsBackRow.holds Try.pinned (OpenSpec.ofChange ednsBackSpec)

/-- ITS FALSE NEIGHBOUR: 'it returns false'. Refute it at one input. -/
def ednsBackWrong : ChangeSpec := { name := "ednsBack", fn := fun _ => fun
  | [d1, d2] => { results := [.lit (.bool false)], args := [d1, d2] }
  | _ => none }
def EdnsBackWrongFalsely : Prop := ednsBackRow.holds Try.pinned (OpenSpec.ofChange ednsBackWrong)

/- THE SECOND FORM. 'bulk': how many values and letters a reading holds, each counted each time it is reached (what is shared counts as often as it is met; a slice's spare places count too). A statement '..UptoSaid' is the law's where the arguments, and the package variables that the reading takes, are together of bulk at most 1048576: NARROWER than '..Said'. Prove '..Said' where nothing that the law and all that it calls make is longer than what came in: it says more and counts as full. Else prove '..UptoSaid'. A law counts once. -/
mutual
def uptoBulk {H : Type} : DataW H → Nat
  | .lit (.string bytes) => bytes.length + 1
  | .lit _ => 1
  | .nil => 1
  | .ptr d => uptoBulk d + 1
  | .slice elems spare => uptoBulkAll elems + uptoBulkAll spare + 1
  | .agg parts => uptoBulkAll parts + 1
  | .iface _ d => uptoBulk d + 1
  | .map entries => uptoBulkEntries entries + 1
  | .held _ => 1
def uptoBulkAll {H : Type} : List (DataW H) → Nat
  | [] => 0
  | d :: r => uptoBulk d + uptoBulkAll r
def uptoBulkEntries {H : Type} : List (Lit × DataW H) → Nat
  | [] => 0
  | x :: r => uptoBulkEntry x + uptoBulkEntries r
def uptoBulkEntry {H : Type} : Lit × DataW H → Nat
  | (.string bytes, d) => bytes.length + uptoBulk d + 1
  | (_, d) => uptoBulk d + 1
 end
def uptoSmall : (H : Type) → List (DataW H) → Bool := fun _ ds => decide (uptoBulkAll ds ≤ 1048576)
def OpenSpec.upto (s : _root_.Go.ChangeSpec) : _root_.Go.OpenSpec := { _root_.Go.OpenSpec.ofChange s with cond := some uptoSmall }

/-- 'ostiarylaw10.TrimFits', WHERE WHAT IT READS IS OF BULK AT MOST 1048576: true; the input reads as it did. -/
def trimFitsUptoRow : OpenClaim := { program := "ytpijbdddegbjbaa", sum := "1ec470b51fb914189c965478fd7144acb1410ae0e8aa236324602a400b1f1f15", func := "ostiary/ostiarylaw10.TrimFits", spec := "trimFits", unfollowed := true, recurses := true, plainKeys := false, apart := false, narrowed := true }
def TrimFitsUptoSaid : Prop := trimFitsUptoRow.holds Try.pinned (OpenSpec.upto trimFitsSpec)

/-- 'ostiarylaw22.SetsTurned', WHERE WHAT IT READS IS OF BULK AT MOST 1048576: true; the input reads as it did. -/
def setsTurnedUptoRow : OpenClaim := { program := "ytpijbdddegbjbaa", sum := "1ec470b51fb914189c965478fd7144acb1410ae0e8aa236324602a400b1f1f15", func := "ostiary/ostiarylaw22.SetsTurned", spec := "setsTurned", unfollowed := true, recurses := true, plainKeys := false, apart := false, narrowed := true }
def SetsTurnedUptoSaid : Prop := setsTurnedUptoRow.holds Try.pinned (OpenSpec.upto setsTurnedSpec)

/-- 'ostiarylaw22.SetsParts', WHERE WHAT IT READS IS OF BULK AT MOST 1048576: true; the input reads as it did. -/
def setsPartsUptoRow : OpenClaim := { program := "ytpijbdddegbjbaa", sum := "1ec470b51fb914189c965478fd7144acb1410ae0e8aa236324602a400b1f1f15", func := "ostiary/ostiarylaw22.SetsParts", spec := "setsParts", unfollowed := true, recurses := true, plainKeys := false, apart := false, narrowed := true }
def SetsPartsUptoSaid : Prop := setsPartsUptoRow.holds Try.pinned (OpenSpec.upto setsPartsSpec)

/-- 'ostiarylaw20.TableTurns', WHERE WHAT IT READS IS OF BULK AT MOST 1048576: true; the input reads as it did. -/
def tableTurnsUptoRow : OpenClaim := { program := "ytpijbdddegbjbaa", sum := "1ec470b51fb914189c965478fd7144acb1410ae0e8aa236324602a400b1f1f15", func := "ostiary/ostiarylaw20.TableTurns", spec := "tableTurns", unfollowed := true, recurses := true, plainKeys := false, apart := false, narrowed := true }
def TableTurnsUptoSaid : Prop := tableTurnsUptoRow.holds Try.pinned (OpenSpec.upto tableTurnsSpec)

/-- 'ostiarylaw20.TableScript', WHERE WHAT IT READS IS OF BULK AT MOST 1048576: true; the input reads as it did. -/
def tableScriptUptoRow : OpenClaim := { program := "ytpijbdddegbjbaa", sum := "1ec470b51fb914189c965478fd7144acb1410ae0e8aa236324602a400b1f1f15", func := "ostiary/ostiarylaw20.TableScript", spec := "tableScript", unfollowed := true, recurses := true, plainKeys := false, apart := false, narrowed := true }
def TableScriptUptoSaid : Prop := tableScriptUptoRow.holds Try.pinned (OpenSpec.upto tableScriptSpec)

/-- 'ostiarylaw20.TableGoes', WHERE WHAT IT READS IS OF BULK AT MOST 1048576: true; the input reads as it did. -/
def tableGoesUptoRow : OpenClaim := { program := "ytpijbdddegbjbaa", sum := "1ec470b51fb914189c965478fd7144acb1410ae0e8aa236324602a400b1f1f15", func := "ostiary/ostiarylaw20.TableGoes", spec := "tableGoes", unfollowed := true, recurses := true, plainKeys := false, apart := false, narrowed := true }
def TableGoesUptoSaid : Prop := tableGoesUptoRow.holds Try.pinned (OpenSpec.upto tableGoesSpec)

/-- 'ostiarylaw08.MsgWrites', WHERE WHAT IT READS IS OF BULK AT MOST 1048576: true; the input reads as it did. -/
def msgWritesUptoRow : OpenClaim := { program := "ytpijbdddegbjbaa", sum := "1ec470b51fb914189c965478fd7144acb1410ae0e8aa236324602a400b1f1f15", func := "ostiary/ostiarylaw08.MsgWrites", spec := "msgWrites", unfollowed := true, recurses := true, plainKeys := false, apart := false, narrowed := true }
def MsgWritesUptoSaid : Prop := msgWritesUptoRow.holds Try.pinned (OpenSpec.upto msgWritesSpec)

/-- 'ostiarylaw08.MsgReads', WHERE WHAT IT READS IS OF BULK AT MOST 1048576: true; the input reads as it did. -/
def msgReadsUptoRow : OpenClaim := { program := "ytpijbdddegbjbaa", sum := "1ec470b51fb914189c965478fd7144acb1410ae0e8aa236324602a400b1f1f15", func := "ostiary/ostiarylaw08.MsgReads", spec := "msgReads", unfollowed := true, recurses := true, plainKeys := false, apart := false, narrowed := true }
def MsgReadsUptoSaid : Prop := msgReadsUptoRow.holds Try.pinned (OpenSpec.upto msgReadsSpec)

/-- 'ostiarylaw08.MsgBack', WHERE WHAT IT READS IS OF BULK AT MOST 1048576: true; the input reads as it did. -/
def msgBackUptoRow : OpenClaim := { program := "ytpijbdddegbjbaa", sum := "1ec470b51fb914189c965478fd7144acb1410ae0e8aa236324602a400b1f1f15", func := "ostiary/ostiarylaw08.MsgBack", spec := "msgBack", unfollowed := true, recurses := true, plainKeys := false, apart := false, narrowed := true }
def MsgBackUptoSaid : Prop := msgBackUptoRow.holds Try.pinned (OpenSpec.upto msgBackSpec)

/-- 'ostiarylaw10.TrimKeeps', WHERE WHAT IT READS IS OF BULK AT MOST 1048576: true; the input reads as it did. -/
def trimKeepsUptoRow : OpenClaim := { program := "ytpijbdddegbjbaa", sum := "1ec470b51fb914189c965478fd7144acb1410ae0e8aa236324602a400b1f1f15", func := "ostiary/ostiarylaw10.TrimKeeps", spec := "trimKeeps", unfollowed := true, recurses := true, plainKeys := false, apart := false, narrowed := true }
def TrimKeepsUptoSaid : Prop := trimKeepsUptoRow.holds Try.pinned (OpenSpec.upto trimKeepsSpec)

/-- 'ostiarylaw10.TrimMore', WHERE WHAT IT READS IS OF BULK AT MOST 1048576: true; the input reads as it did. -/
def trimMoreUptoRow : OpenClaim := { program := "ytpijbdddegbjbaa", sum := "1ec470b51fb914189c965478fd7144acb1410ae0e8aa236324602a400b1f1f15", func := "ostiary/ostiarylaw10.TrimMore", spec := "trimMore", unfollowed := true, recurses := true, plainKeys := false, apart := false, narrowed := true }
def TrimMoreUptoSaid : Prop := trimMoreUptoRow.holds Try.pinned (OpenSpec.upto trimMoreSpec)

/-- 'ostiarylaw09.EdnsBack', WHERE WHAT IT READS IS OF BULK AT MOST 1048576: true; the input reads as it did. -/
def ednsBackUptoRow : OpenClaim := { program := "ytpijbdddegbjbaa", sum := "1ec470b51fb914189c965478fd7144acb1410ae0e8aa236324602a400b1f1f15", func := "ostiary/ostiarylaw09.EdnsBack", spec := "ednsBack", unfollowed := true, recurses := true, plainKeys := false, apart := false, narrowed := true }
def EdnsBackUptoSaid : Prop := ednsBackUptoRow.holds Try.pinned (OpenSpec.upto ednsBackSpec)

end Rows
end Go.Proofs.Ytpijbdddegbjbaa
