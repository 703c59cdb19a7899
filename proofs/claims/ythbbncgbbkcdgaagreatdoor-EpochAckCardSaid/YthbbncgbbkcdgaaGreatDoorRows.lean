/-
  NARROWER THAN 'FOR EVERY INPUT', by the rows' own cells (each row's printed sentence says how): PlainApart: laid · EpochAck: laid · UserStale: laid · UserMore: laid · UserKinds: laid · PlainRemap: laid · EpochMany: laid · CapsAll: laid · CapsChain: laid · CapsFan: laid · PlainAlloc: laid · PlainProtect: laid · PlainPages: laid · PredAll: laid · PlainFresh: laid · UserAll: laid · PlainShare: laid · PlainDrop: laid · KernelNone: laid · PlainAll: laid · PlainErr: laid · PlainCopy: laid.
  DERIVED. THE GIVEN ROWS OF THIS SEAT. 22 by the template 'for every input the law returns true; each argument reads behind the call as it read before'; 0 by the template 'total and deterministic' (their statements: YthbbncgbbkcdgaaGreatDoorTotals.lean).
  GIVEN WITH THE SEED: the statements are not yours to turn. If you find one false, say at which input.
  Laid BY PROGRAM, IN A SANDBOX (cutbox-rows.mjs): the forced cells as the released guide's own fill.sh prints them over the translation 5c8de5b832cc8e63… (all of the seat's roots in one cut). By AI agents, Wed Nov 11 2026. No macro, syntax, notation, axiom, sorry.
-/
import Derived.Test.YthbbncgbbkcdgaaGreatDoorChecked
import GoSem.Claim
import GoSem.ClaimJoined
import GoSem.ClaimMapViews
import Derived.JoinedTies
import Derived.KernelRfl
namespace Go.Proofs.YthbbncgbbkcdgaaGreatDoor
/- THE CELL 'sum', in the pinned program and in every row, IS THE sha256 OF THE DUMP (.gsa) THAT YthbbncgbbkcdgaaGreatDoorProg.lean LOADS. Nothing in Lean hashes anything: it is a label: what it is worth is what the hold of that sum in a sandbox is worth. -/
noncomputable def Tryz.pinned : Pinned := { name := "ythbbncgbbkcdgaagreatdoor", sum := "5c8de5b832cc8e63caa0b96ddf031b86527e13f9f401bb13da3373437dd7830f", checked := Tryz.checked }
namespace Rows
def none {H : Type} : Left H := { results := [], args := [] }

/- WHAT THE LISTED PACKAGE-LEVEL VARIABLES READ AS WHEN THE CALL BEGINS. Each datum BY PROGRAM (the guide's laid-datum.mjs) off the statement by which the dump's own 'gosem.cut.vars' lays the variable. In a bare row this is a premise. The card (YthbbncgbbkcdgaaGreatDoorCards.lean) ties it to the program's text. -/
def laid_errors_errorType {H : Type} : DataW H := .iface "internal/reflectlite.rtype" (.agg [.ptr (.lit (.string [101, 114, 114, 111, 114]))])

/-- 'messuagelaw11.PlainApart': WHATEVER THE INPUT: true; the input reads as it did. -/
def plainApartSpec : ChangeSpec := { name := "plainApart", fn := fun _ => fun
  | [d1, d2, d3] => { results := [.lit (.bool true)], args := [d1, d2, d3] }
  | _ => none }
def plainApartRow : OpenClaim := { program := "ythbbncgbbkcdgaagreatdoor", sum := "5c8de5b832cc8e63caa0b96ddf031b86527e13f9f401bb13da3373437dd7830f", func := "messuage/messuagelaw11.PlainApart", spec := "plainApart", inPlace := ["internal/reflectlite.ValueOf", "(internal/reflectlite.Value).Type", "(internal/reflectlite.Value).IsNil", "internal/reflectlite.TypeOf", "(internal/reflectlite.Value).Elem", "(internal/reflectlite.Value).Set", "slices.overlaps[uint64]"], unfollowed := true, recurses := true, named := ["errors.errorType"], apart := false, laid := [("errors.errorType", laid_errors_errorType)] }
def PlainApartSaid : Prop := plainApartRow.holds Tryz.pinned (OpenSpec.ofChange plainApartSpec)

/-- ITS FALSE NEIGHBOUR: 'it returns false'. Refute it at one input. -/
def plainApartWrong : ChangeSpec := { name := "plainApart", fn := fun _ => fun
  | [d1, d2, d3] => { results := [.lit (.bool false)], args := [d1, d2, d3] }
  | _ => none }
def PlainApartWrongFalsely : Prop := plainApartRow.holds Tryz.pinned (OpenSpec.ofChange plainApartWrong)

/-- 'messuagelaw11.EpochAck': WHATEVER THE INPUT: true; the input reads as it did. -/
def epochAckSpec : ChangeSpec := { name := "epochAck", fn := fun _ => fun
  | [d1, d2, d3] => { results := [.lit (.bool true)], args := [d1, d2, d3] }
  | _ => none }
def epochAckRow : OpenClaim := { program := "ythbbncgbbkcdgaagreatdoor", sum := "5c8de5b832cc8e63caa0b96ddf031b86527e13f9f401bb13da3373437dd7830f", func := "messuage/messuagelaw11.EpochAck", spec := "epochAck", inPlace := ["internal/reflectlite.ValueOf", "(internal/reflectlite.Value).Type", "(internal/reflectlite.Value).IsNil", "internal/reflectlite.TypeOf", "(internal/reflectlite.Value).Elem", "(internal/reflectlite.Value).Set", "slices.overlaps[uint64]"], unfollowed := true, recurses := true, named := ["errors.errorType"], apart := false, laid := [("errors.errorType", laid_errors_errorType)] }
def EpochAckSaid : Prop := epochAckRow.holds Tryz.pinned (OpenSpec.ofChange epochAckSpec)

/-- ITS FALSE NEIGHBOUR: 'it returns false'. Refute it at one input. -/
def epochAckWrong : ChangeSpec := { name := "epochAck", fn := fun _ => fun
  | [d1, d2, d3] => { results := [.lit (.bool false)], args := [d1, d2, d3] }
  | _ => none }
def EpochAckWrongFalsely : Prop := epochAckRow.holds Tryz.pinned (OpenSpec.ofChange epochAckWrong)

/-- 'messuagelaw11.UserStale': WHATEVER THE INPUT: true; the input reads as it did. -/
def userStaleSpec : ChangeSpec := { name := "userStale", fn := fun _ => fun
  | [d1, d2, d3, d4] => { results := [.lit (.bool true)], args := [d1, d2, d3, d4] }
  | _ => none }
def userStaleRow : OpenClaim := { program := "ythbbncgbbkcdgaagreatdoor", sum := "5c8de5b832cc8e63caa0b96ddf031b86527e13f9f401bb13da3373437dd7830f", func := "messuage/messuagelaw11.UserStale", spec := "userStale", inPlace := ["internal/reflectlite.ValueOf", "(internal/reflectlite.Value).Type", "(internal/reflectlite.Value).IsNil", "internal/reflectlite.TypeOf", "(internal/reflectlite.Value).Elem", "(internal/reflectlite.Value).Set", "slices.overlaps[uint64]"], unfollowed := true, recurses := true, named := ["errors.errorType"], apart := false, laid := [("errors.errorType", laid_errors_errorType)] }
def UserStaleSaid : Prop := userStaleRow.holds Tryz.pinned (OpenSpec.ofChange userStaleSpec)

/-- ITS FALSE NEIGHBOUR: 'it returns false'. Refute it at one input. -/
def userStaleWrong : ChangeSpec := { name := "userStale", fn := fun _ => fun
  | [d1, d2, d3, d4] => { results := [.lit (.bool false)], args := [d1, d2, d3, d4] }
  | _ => none }
def UserStaleWrongFalsely : Prop := userStaleRow.holds Tryz.pinned (OpenSpec.ofChange userStaleWrong)

/-- 'messuagelaw11.UserMore': WHATEVER THE INPUT: true; the input reads as it did. -/
def userMoreSpec : ChangeSpec := { name := "userMore", fn := fun _ => fun
  | [d1, d2, d3, d4] => { results := [.lit (.bool true)], args := [d1, d2, d3, d4] }
  | _ => none }
def userMoreRow : OpenClaim := { program := "ythbbncgbbkcdgaagreatdoor", sum := "5c8de5b832cc8e63caa0b96ddf031b86527e13f9f401bb13da3373437dd7830f", func := "messuage/messuagelaw11.UserMore", spec := "userMore", inPlace := ["internal/reflectlite.ValueOf", "(internal/reflectlite.Value).Type", "(internal/reflectlite.Value).IsNil", "internal/reflectlite.TypeOf", "(internal/reflectlite.Value).Elem", "(internal/reflectlite.Value).Set", "slices.overlaps[uint64]"], unfollowed := true, recurses := true, named := ["errors.errorType"], apart := false, laid := [("errors.errorType", laid_errors_errorType)] }
def UserMoreSaid : Prop := userMoreRow.holds Tryz.pinned (OpenSpec.ofChange userMoreSpec)

/-- ITS FALSE NEIGHBOUR: 'it returns false'. Refute it at one input. -/
def userMoreWrong : ChangeSpec := { name := "userMore", fn := fun _ => fun
  | [d1, d2, d3, d4] => { results := [.lit (.bool false)], args := [d1, d2, d3, d4] }
  | _ => none }
def UserMoreWrongFalsely : Prop := userMoreRow.holds Tryz.pinned (OpenSpec.ofChange userMoreWrong)

/-- 'messuagelaw11.UserKinds': WHATEVER THE INPUT: true; the input reads as it did. -/
def userKindsSpec : ChangeSpec := { name := "userKinds", fn := fun _ => fun
  | [d1, d2, d3] => { results := [.lit (.bool true)], args := [d1, d2, d3] }
  | _ => none }
def userKindsRow : OpenClaim := { program := "ythbbncgbbkcdgaagreatdoor", sum := "5c8de5b832cc8e63caa0b96ddf031b86527e13f9f401bb13da3373437dd7830f", func := "messuage/messuagelaw11.UserKinds", spec := "userKinds", inPlace := ["internal/reflectlite.ValueOf", "(internal/reflectlite.Value).Type", "(internal/reflectlite.Value).IsNil", "internal/reflectlite.TypeOf", "(internal/reflectlite.Value).Elem", "(internal/reflectlite.Value).Set", "slices.overlaps[uint64]"], unfollowed := true, recurses := true, named := ["errors.errorType"], apart := false, laid := [("errors.errorType", laid_errors_errorType)] }
def UserKindsSaid : Prop := userKindsRow.holds Tryz.pinned (OpenSpec.ofChange userKindsSpec)

/-- ITS FALSE NEIGHBOUR: 'it returns false'. Refute it at one input. -/
def userKindsWrong : ChangeSpec := { name := "userKinds", fn := fun _ => fun
  | [d1, d2, d3] => { results := [.lit (.bool false)], args := [d1, d2, d3] }
  | _ => none }
def UserKindsWrongFalsely : Prop := userKindsRow.holds Tryz.pinned (OpenSpec.ofChange userKindsWrong)

/-- 'messuagelaw11.PlainRemap': WHATEVER THE INPUT: true; the input reads as it did. -/
def plainRemapSpec : ChangeSpec := { name := "plainRemap", fn := fun _ => fun
  | [d1, d2, d3] => { results := [.lit (.bool true)], args := [d1, d2, d3] }
  | _ => none }
def plainRemapRow : OpenClaim := { program := "ythbbncgbbkcdgaagreatdoor", sum := "5c8de5b832cc8e63caa0b96ddf031b86527e13f9f401bb13da3373437dd7830f", func := "messuage/messuagelaw11.PlainRemap", spec := "plainRemap", inPlace := ["internal/reflectlite.ValueOf", "(internal/reflectlite.Value).Type", "(internal/reflectlite.Value).IsNil", "internal/reflectlite.TypeOf", "(internal/reflectlite.Value).Elem", "(internal/reflectlite.Value).Set", "slices.overlaps[uint64]"], unfollowed := true, recurses := true, named := ["errors.errorType"], apart := false, laid := [("errors.errorType", laid_errors_errorType)] }
def PlainRemapSaid : Prop := plainRemapRow.holds Tryz.pinned (OpenSpec.ofChange plainRemapSpec)

/-- ITS FALSE NEIGHBOUR: 'it returns false'. Refute it at one input. -/
def plainRemapWrong : ChangeSpec := { name := "plainRemap", fn := fun _ => fun
  | [d1, d2, d3] => { results := [.lit (.bool false)], args := [d1, d2, d3] }
  | _ => none }
def PlainRemapWrongFalsely : Prop := plainRemapRow.holds Tryz.pinned (OpenSpec.ofChange plainRemapWrong)

/-- 'messuagelaw11.EpochMany': WHATEVER THE INPUT: true; the input reads as it did. -/
def epochManySpec : ChangeSpec := { name := "epochMany", fn := fun _ => fun
  | [d1, d2] => { results := [.lit (.bool true)], args := [d1, d2] }
  | _ => none }
def epochManyRow : OpenClaim := { program := "ythbbncgbbkcdgaagreatdoor", sum := "5c8de5b832cc8e63caa0b96ddf031b86527e13f9f401bb13da3373437dd7830f", func := "messuage/messuagelaw11.EpochMany", spec := "epochMany", inPlace := ["internal/reflectlite.ValueOf", "(internal/reflectlite.Value).Type", "(internal/reflectlite.Value).IsNil", "internal/reflectlite.TypeOf", "(internal/reflectlite.Value).Elem", "(internal/reflectlite.Value).Set", "slices.overlaps[uint64]"], unfollowed := true, recurses := true, named := ["errors.errorType"], apart := false, laid := [("errors.errorType", laid_errors_errorType)] }
def EpochManySaid : Prop := epochManyRow.holds Tryz.pinned (OpenSpec.ofChange epochManySpec)

/-- ITS FALSE NEIGHBOUR: 'it returns false'. Refute it at one input. -/
def epochManyWrong : ChangeSpec := { name := "epochMany", fn := fun _ => fun
  | [d1, d2] => { results := [.lit (.bool false)], args := [d1, d2] }
  | _ => none }
def EpochManyWrongFalsely : Prop := epochManyRow.holds Tryz.pinned (OpenSpec.ofChange epochManyWrong)

/-- 'messuagelaw11.CapsAll': WHATEVER THE INPUT: true; the input reads as it did. -/
def capsAllSpec : ChangeSpec := { name := "capsAll", fn := fun _ => fun
  | [d1, d2] => { results := [.lit (.bool true)], args := [d1, d2] }
  | _ => none }
def capsAllRow : OpenClaim := { program := "ythbbncgbbkcdgaagreatdoor", sum := "5c8de5b832cc8e63caa0b96ddf031b86527e13f9f401bb13da3373437dd7830f", func := "messuage/messuagelaw11.CapsAll", spec := "capsAll", inPlace := ["internal/reflectlite.ValueOf", "(internal/reflectlite.Value).Type", "(internal/reflectlite.Value).IsNil", "internal/reflectlite.TypeOf", "(internal/reflectlite.Value).Elem", "(internal/reflectlite.Value).Set", "slices.overlaps[uint64]"], unfollowed := true, recurses := true, named := ["errors.errorType"], apart := false, laid := [("errors.errorType", laid_errors_errorType)] }
def CapsAllSaid : Prop := capsAllRow.holds Tryz.pinned (OpenSpec.ofChange capsAllSpec)

/-- ITS FALSE NEIGHBOUR: 'it returns false'. Refute it at one input. -/
def capsAllWrong : ChangeSpec := { name := "capsAll", fn := fun _ => fun
  | [d1, d2] => { results := [.lit (.bool false)], args := [d1, d2] }
  | _ => none }
def CapsAllWrongFalsely : Prop := capsAllRow.holds Tryz.pinned (OpenSpec.ofChange capsAllWrong)

/-- 'messuagelaw11.CapsChain': WHATEVER THE INPUT: true; the input reads as it did. -/
def capsChainSpec : ChangeSpec := { name := "capsChain", fn := fun _ => fun
  | [d1, d2, d3] => { results := [.lit (.bool true)], args := [d1, d2, d3] }
  | _ => none }
def capsChainRow : OpenClaim := { program := "ythbbncgbbkcdgaagreatdoor", sum := "5c8de5b832cc8e63caa0b96ddf031b86527e13f9f401bb13da3373437dd7830f", func := "messuage/messuagelaw11.CapsChain", spec := "capsChain", inPlace := ["internal/reflectlite.ValueOf", "(internal/reflectlite.Value).Type", "(internal/reflectlite.Value).IsNil", "internal/reflectlite.TypeOf", "(internal/reflectlite.Value).Elem", "(internal/reflectlite.Value).Set", "slices.overlaps[uint64]"], unfollowed := true, recurses := true, named := ["errors.errorType"], apart := false, laid := [("errors.errorType", laid_errors_errorType)] }
def CapsChainSaid : Prop := capsChainRow.holds Tryz.pinned (OpenSpec.ofChange capsChainSpec)

/-- ITS FALSE NEIGHBOUR: 'it returns false'. Refute it at one input. -/
def capsChainWrong : ChangeSpec := { name := "capsChain", fn := fun _ => fun
  | [d1, d2, d3] => { results := [.lit (.bool false)], args := [d1, d2, d3] }
  | _ => none }
def CapsChainWrongFalsely : Prop := capsChainRow.holds Tryz.pinned (OpenSpec.ofChange capsChainWrong)

/-- 'messuagelaw11.CapsFan': WHATEVER THE INPUT: true; the input reads as it did. -/
def capsFanSpec : ChangeSpec := { name := "capsFan", fn := fun _ => fun
  | [d1, d2] => { results := [.lit (.bool true)], args := [d1, d2] }
  | _ => none }
def capsFanRow : OpenClaim := { program := "ythbbncgbbkcdgaagreatdoor", sum := "5c8de5b832cc8e63caa0b96ddf031b86527e13f9f401bb13da3373437dd7830f", func := "messuage/messuagelaw11.CapsFan", spec := "capsFan", inPlace := ["internal/reflectlite.ValueOf", "(internal/reflectlite.Value).Type", "(internal/reflectlite.Value).IsNil", "internal/reflectlite.TypeOf", "(internal/reflectlite.Value).Elem", "(internal/reflectlite.Value).Set", "slices.overlaps[uint64]"], unfollowed := true, recurses := true, named := ["errors.errorType"], apart := false, laid := [("errors.errorType", laid_errors_errorType)] }
def CapsFanSaid : Prop := capsFanRow.holds Tryz.pinned (OpenSpec.ofChange capsFanSpec)

/-- ITS FALSE NEIGHBOUR: 'it returns false'. Refute it at one input. -/
def capsFanWrong : ChangeSpec := { name := "capsFan", fn := fun _ => fun
  | [d1, d2] => { results := [.lit (.bool false)], args := [d1, d2] }
  | _ => none }
def CapsFanWrongFalsely : Prop := capsFanRow.holds Tryz.pinned (OpenSpec.ofChange capsFanWrong)

/-- 'messuagelaw11.PlainAlloc': WHATEVER THE INPUT: true; the input reads as it did. -/
def plainAllocSpec : ChangeSpec := { name := "plainAlloc", fn := fun _ => fun
  | [d1, d2] => { results := [.lit (.bool true)], args := [d1, d2] }
  | _ => none }
def plainAllocRow : OpenClaim := { program := "ythbbncgbbkcdgaagreatdoor", sum := "5c8de5b832cc8e63caa0b96ddf031b86527e13f9f401bb13da3373437dd7830f", func := "messuage/messuagelaw11.PlainAlloc", spec := "plainAlloc", inPlace := ["internal/reflectlite.ValueOf", "(internal/reflectlite.Value).Type", "(internal/reflectlite.Value).IsNil", "internal/reflectlite.TypeOf", "(internal/reflectlite.Value).Elem", "(internal/reflectlite.Value).Set", "slices.overlaps[uint64]"], unfollowed := true, recurses := true, named := ["errors.errorType"], apart := false, laid := [("errors.errorType", laid_errors_errorType)] }
def PlainAllocSaid : Prop := plainAllocRow.holds Tryz.pinned (OpenSpec.ofChange plainAllocSpec)

/-- ITS FALSE NEIGHBOUR: 'it returns false'. Refute it at one input. -/
def plainAllocWrong : ChangeSpec := { name := "plainAlloc", fn := fun _ => fun
  | [d1, d2] => { results := [.lit (.bool false)], args := [d1, d2] }
  | _ => none }
def PlainAllocWrongFalsely : Prop := plainAllocRow.holds Tryz.pinned (OpenSpec.ofChange plainAllocWrong)

/-- 'messuagelaw11.PlainProtect': WHATEVER THE INPUT: true; the input reads as it did. -/
def plainProtectSpec : ChangeSpec := { name := "plainProtect", fn := fun _ => fun
  | [d1, d2] => { results := [.lit (.bool true)], args := [d1, d2] }
  | _ => none }
def plainProtectRow : OpenClaim := { program := "ythbbncgbbkcdgaagreatdoor", sum := "5c8de5b832cc8e63caa0b96ddf031b86527e13f9f401bb13da3373437dd7830f", func := "messuage/messuagelaw11.PlainProtect", spec := "plainProtect", inPlace := ["internal/reflectlite.ValueOf", "(internal/reflectlite.Value).Type", "(internal/reflectlite.Value).IsNil", "internal/reflectlite.TypeOf", "(internal/reflectlite.Value).Elem", "(internal/reflectlite.Value).Set", "slices.overlaps[uint64]"], unfollowed := true, recurses := true, named := ["errors.errorType"], apart := false, laid := [("errors.errorType", laid_errors_errorType)] }
def PlainProtectSaid : Prop := plainProtectRow.holds Tryz.pinned (OpenSpec.ofChange plainProtectSpec)

/-- ITS FALSE NEIGHBOUR: 'it returns false'. Refute it at one input. -/
def plainProtectWrong : ChangeSpec := { name := "plainProtect", fn := fun _ => fun
  | [d1, d2] => { results := [.lit (.bool false)], args := [d1, d2] }
  | _ => none }
def PlainProtectWrongFalsely : Prop := plainProtectRow.holds Tryz.pinned (OpenSpec.ofChange plainProtectWrong)

/-- 'messuagelaw11.PlainPages': WHATEVER THE INPUT: true; the input reads as it did. -/
def plainPagesSpec : ChangeSpec := { name := "plainPages", fn := fun _ => fun
  | [d1, d2] => { results := [.lit (.bool true)], args := [d1, d2] }
  | _ => none }
def plainPagesRow : OpenClaim := { program := "ythbbncgbbkcdgaagreatdoor", sum := "5c8de5b832cc8e63caa0b96ddf031b86527e13f9f401bb13da3373437dd7830f", func := "messuage/messuagelaw11.PlainPages", spec := "plainPages", inPlace := ["internal/reflectlite.ValueOf", "(internal/reflectlite.Value).Type", "(internal/reflectlite.Value).IsNil", "internal/reflectlite.TypeOf", "(internal/reflectlite.Value).Elem", "(internal/reflectlite.Value).Set", "slices.overlaps[uint64]"], unfollowed := true, recurses := true, named := ["errors.errorType"], apart := false, laid := [("errors.errorType", laid_errors_errorType)] }
def PlainPagesSaid : Prop := plainPagesRow.holds Tryz.pinned (OpenSpec.ofChange plainPagesSpec)

/-- ITS FALSE NEIGHBOUR: 'it returns false'. Refute it at one input. -/
def plainPagesWrong : ChangeSpec := { name := "plainPages", fn := fun _ => fun
  | [d1, d2] => { results := [.lit (.bool false)], args := [d1, d2] }
  | _ => none }
def PlainPagesWrongFalsely : Prop := plainPagesRow.holds Tryz.pinned (OpenSpec.ofChange plainPagesWrong)

/-- 'messuagelaw11.PredAll': WHATEVER THE INPUT: true; the input reads as it did. -/
def predAllSpec : ChangeSpec := { name := "predAll", fn := fun _ => fun
  | [d1, d2, d3] => { results := [.lit (.bool true)], args := [d1, d2, d3] }
  | _ => none }
def predAllRow : OpenClaim := { program := "ythbbncgbbkcdgaagreatdoor", sum := "5c8de5b832cc8e63caa0b96ddf031b86527e13f9f401bb13da3373437dd7830f", func := "messuage/messuagelaw11.PredAll", spec := "predAll", inPlace := ["internal/reflectlite.ValueOf", "(internal/reflectlite.Value).Type", "(internal/reflectlite.Value).IsNil", "internal/reflectlite.TypeOf", "(internal/reflectlite.Value).Elem", "(internal/reflectlite.Value).Set", "slices.overlaps[uint64]"], unfollowed := true, recurses := true, named := ["errors.errorType"], apart := false, laid := [("errors.errorType", laid_errors_errorType)] }
def PredAllSaid : Prop := predAllRow.holds Tryz.pinned (OpenSpec.ofChange predAllSpec)

/-- ITS FALSE NEIGHBOUR: 'it returns false'. Refute it at one input. -/
def predAllWrong : ChangeSpec := { name := "predAll", fn := fun _ => fun
  | [d1, d2, d3] => { results := [.lit (.bool false)], args := [d1, d2, d3] }
  | _ => none }
def PredAllWrongFalsely : Prop := predAllRow.holds Tryz.pinned (OpenSpec.ofChange predAllWrong)

/-- 'messuagelaw11.PlainFresh': WHATEVER THE INPUT: true; the input reads as it did. -/
def plainFreshSpec : ChangeSpec := { name := "plainFresh", fn := fun _ => fun
  | [d1, d2, d3, d4, d5] => { results := [.lit (.bool true)], args := [d1, d2, d3, d4, d5] }
  | _ => none }
def plainFreshRow : OpenClaim := { program := "ythbbncgbbkcdgaagreatdoor", sum := "5c8de5b832cc8e63caa0b96ddf031b86527e13f9f401bb13da3373437dd7830f", func := "messuage/messuagelaw11.PlainFresh", spec := "plainFresh", inPlace := ["internal/reflectlite.ValueOf", "(internal/reflectlite.Value).Type", "(internal/reflectlite.Value).IsNil", "internal/reflectlite.TypeOf", "(internal/reflectlite.Value).Elem", "(internal/reflectlite.Value).Set", "slices.overlaps[uint64]"], unfollowed := true, recurses := true, named := ["errors.errorType"], apart := false, laid := [("errors.errorType", laid_errors_errorType)] }
def PlainFreshSaid : Prop := plainFreshRow.holds Tryz.pinned (OpenSpec.ofChange plainFreshSpec)

/-- ITS FALSE NEIGHBOUR: 'it returns false'. Refute it at one input. -/
def plainFreshWrong : ChangeSpec := { name := "plainFresh", fn := fun _ => fun
  | [d1, d2, d3, d4, d5] => { results := [.lit (.bool false)], args := [d1, d2, d3, d4, d5] }
  | _ => none }
def PlainFreshWrongFalsely : Prop := plainFreshRow.holds Tryz.pinned (OpenSpec.ofChange plainFreshWrong)

/-- 'messuagelaw11.UserAll': WHATEVER THE INPUT: true; the input reads as it did. -/
def userAllSpec : ChangeSpec := { name := "userAll", fn := fun _ => fun
  | [d1, d2, d3] => { results := [.lit (.bool true)], args := [d1, d2, d3] }
  | _ => none }
def userAllRow : OpenClaim := { program := "ythbbncgbbkcdgaagreatdoor", sum := "5c8de5b832cc8e63caa0b96ddf031b86527e13f9f401bb13da3373437dd7830f", func := "messuage/messuagelaw11.UserAll", spec := "userAll", inPlace := ["internal/reflectlite.ValueOf", "(internal/reflectlite.Value).Type", "(internal/reflectlite.Value).IsNil", "internal/reflectlite.TypeOf", "(internal/reflectlite.Value).Elem", "(internal/reflectlite.Value).Set", "slices.overlaps[uint64]"], unfollowed := true, recurses := true, named := ["errors.errorType"], apart := false, laid := [("errors.errorType", laid_errors_errorType)] }
def UserAllSaid : Prop := userAllRow.holds Tryz.pinned (OpenSpec.ofChange userAllSpec)

/-- ITS FALSE NEIGHBOUR: 'it returns false'. Refute it at one input. -/
def userAllWrong : ChangeSpec := { name := "userAll", fn := fun _ => fun
  | [d1, d2, d3] => { results := [.lit (.bool false)], args := [d1, d2, d3] }
  | _ => none }
def UserAllWrongFalsely : Prop := userAllRow.holds Tryz.pinned (OpenSpec.ofChange userAllWrong)

/-- 'messuagelaw11.PlainShare': WHATEVER THE INPUT: true; the input reads as it did. -/
def plainShareSpec : ChangeSpec := { name := "plainShare", fn := fun _ => fun
  | [d1, d2, d3, d4] => { results := [.lit (.bool true)], args := [d1, d2, d3, d4] }
  | _ => none }
def plainShareRow : OpenClaim := { program := "ythbbncgbbkcdgaagreatdoor", sum := "5c8de5b832cc8e63caa0b96ddf031b86527e13f9f401bb13da3373437dd7830f", func := "messuage/messuagelaw11.PlainShare", spec := "plainShare", inPlace := ["internal/reflectlite.ValueOf", "(internal/reflectlite.Value).Type", "(internal/reflectlite.Value).IsNil", "internal/reflectlite.TypeOf", "(internal/reflectlite.Value).Elem", "(internal/reflectlite.Value).Set", "slices.overlaps[uint64]"], unfollowed := true, recurses := true, named := ["errors.errorType"], apart := false, laid := [("errors.errorType", laid_errors_errorType)] }
def PlainShareSaid : Prop := plainShareRow.holds Tryz.pinned (OpenSpec.ofChange plainShareSpec)

/-- ITS FALSE NEIGHBOUR: 'it returns false'. Refute it at one input. -/
def plainShareWrong : ChangeSpec := { name := "plainShare", fn := fun _ => fun
  | [d1, d2, d3, d4] => { results := [.lit (.bool false)], args := [d1, d2, d3, d4] }
  | _ => none }
def PlainShareWrongFalsely : Prop := plainShareRow.holds Tryz.pinned (OpenSpec.ofChange plainShareWrong)

/-- 'messuagelaw11.PlainDrop': WHATEVER THE INPUT: true; the input reads as it did. -/
def plainDropSpec : ChangeSpec := { name := "plainDrop", fn := fun _ => fun
  | [d] => { results := [.lit (.bool true)], args := [d] }
  | _ => none }
def plainDropRow : OpenClaim := { program := "ythbbncgbbkcdgaagreatdoor", sum := "5c8de5b832cc8e63caa0b96ddf031b86527e13f9f401bb13da3373437dd7830f", func := "messuage/messuagelaw11.PlainDrop", spec := "plainDrop", inPlace := ["internal/reflectlite.ValueOf", "(internal/reflectlite.Value).Type", "(internal/reflectlite.Value).IsNil", "internal/reflectlite.TypeOf", "(internal/reflectlite.Value).Elem", "(internal/reflectlite.Value).Set", "slices.overlaps[uint64]"], unfollowed := true, recurses := true, named := ["errors.errorType"], apart := false, laid := [("errors.errorType", laid_errors_errorType)] }
def PlainDropSaid : Prop := plainDropRow.holds Tryz.pinned (OpenSpec.ofChange plainDropSpec)

/-- ITS FALSE NEIGHBOUR: 'it returns false'. Refute it at one input. -/
def plainDropWrong : ChangeSpec := { name := "plainDrop", fn := fun _ => fun
  | [d] => { results := [.lit (.bool false)], args := [d] }
  | _ => none }
def PlainDropWrongFalsely : Prop := plainDropRow.holds Tryz.pinned (OpenSpec.ofChange plainDropWrong)

/-- 'messuagelaw11.KernelNone': WHATEVER THE INPUT: true; the input reads as it did. -/
def kernelNoneSpec : ChangeSpec := { name := "kernelNone", fn := fun _ => fun
  | [] => { results := [.lit (.bool true)], args := [] }
  | _ => none }
def kernelNoneRow : OpenClaim := { program := "ythbbncgbbkcdgaagreatdoor", sum := "5c8de5b832cc8e63caa0b96ddf031b86527e13f9f401bb13da3373437dd7830f", func := "messuage/messuagelaw11.KernelNone", spec := "kernelNone", inPlace := ["internal/reflectlite.ValueOf", "(internal/reflectlite.Value).Type", "(internal/reflectlite.Value).IsNil", "internal/reflectlite.TypeOf", "(internal/reflectlite.Value).Elem", "(internal/reflectlite.Value).Set", "slices.overlaps[uint64]"], unfollowed := true, recurses := true, named := ["errors.errorType"], apart := false, laid := [("errors.errorType", laid_errors_errorType)] }
def KernelNoneSaid : Prop := kernelNoneRow.holds Tryz.pinned (OpenSpec.ofChange kernelNoneSpec)

/-- ITS FALSE NEIGHBOUR: 'it returns false'. Refute it at one input. -/
def kernelNoneWrong : ChangeSpec := { name := "kernelNone", fn := fun _ => fun
  | [] => { results := [.lit (.bool false)], args := [] }
  | _ => none }
def KernelNoneWrongFalsely : Prop := kernelNoneRow.holds Tryz.pinned (OpenSpec.ofChange kernelNoneWrong)

/-- 'messuagelaw11.PlainAll': WHATEVER THE INPUT: true; the input reads as it did. -/
def plainAllSpec : ChangeSpec := { name := "plainAll", fn := fun _ => fun
  | [d1, d2] => { results := [.lit (.bool true)], args := [d1, d2] }
  | _ => none }
def plainAllRow : OpenClaim := { program := "ythbbncgbbkcdgaagreatdoor", sum := "5c8de5b832cc8e63caa0b96ddf031b86527e13f9f401bb13da3373437dd7830f", func := "messuage/messuagelaw11.PlainAll", spec := "plainAll", inPlace := ["internal/reflectlite.ValueOf", "(internal/reflectlite.Value).Type", "(internal/reflectlite.Value).IsNil", "internal/reflectlite.TypeOf", "(internal/reflectlite.Value).Elem", "(internal/reflectlite.Value).Set", "slices.overlaps[uint64]"], unfollowed := true, recurses := true, named := ["errors.errorType"], apart := false, laid := [("errors.errorType", laid_errors_errorType)] }
def PlainAllSaid : Prop := plainAllRow.holds Tryz.pinned (OpenSpec.ofChange plainAllSpec)

/-- ITS FALSE NEIGHBOUR: 'it returns false'. Refute it at one input. -/
def plainAllWrong : ChangeSpec := { name := "plainAll", fn := fun _ => fun
  | [d1, d2] => { results := [.lit (.bool false)], args := [d1, d2] }
  | _ => none }
def PlainAllWrongFalsely : Prop := plainAllRow.holds Tryz.pinned (OpenSpec.ofChange plainAllWrong)

/-- 'messuagelaw11.PlainErr': WHATEVER THE INPUT: true; the input reads as it did. -/
def plainErrSpec : ChangeSpec := { name := "plainErr", fn := fun _ => fun
  | [d1, d2, d3] => { results := [.lit (.bool true)], args := [d1, d2, d3] }
  | _ => none }
def plainErrRow : OpenClaim := { program := "ythbbncgbbkcdgaagreatdoor", sum := "5c8de5b832cc8e63caa0b96ddf031b86527e13f9f401bb13da3373437dd7830f", func := "messuage/messuagelaw11.PlainErr", spec := "plainErr", inPlace := ["internal/reflectlite.ValueOf", "(internal/reflectlite.Value).Type", "(internal/reflectlite.Value).IsNil", "internal/reflectlite.TypeOf", "(internal/reflectlite.Value).Elem", "(internal/reflectlite.Value).Set", "slices.overlaps[uint64]"], unfollowed := true, recurses := true, named := ["errors.errorType"], apart := false, laid := [("errors.errorType", laid_errors_errorType)] }
def PlainErrSaid : Prop := plainErrRow.holds Tryz.pinned (OpenSpec.ofChange plainErrSpec)

/-- ITS FALSE NEIGHBOUR: 'it returns false'. Refute it at one input. -/
def plainErrWrong : ChangeSpec := { name := "plainErr", fn := fun _ => fun
  | [d1, d2, d3] => { results := [.lit (.bool false)], args := [d1, d2, d3] }
  | _ => none }
def PlainErrWrongFalsely : Prop := plainErrRow.holds Tryz.pinned (OpenSpec.ofChange plainErrWrong)

/-- 'messuagelaw11.PlainCopy': WHATEVER THE INPUT: true; the input reads as it did. -/
def plainCopySpec : ChangeSpec := { name := "plainCopy", fn := fun _ => fun
  | [d1, d2, d3] => { results := [.lit (.bool true)], args := [d1, d2, d3] }
  | _ => none }
def plainCopyRow : OpenClaim := { program := "ythbbncgbbkcdgaagreatdoor", sum := "5c8de5b832cc8e63caa0b96ddf031b86527e13f9f401bb13da3373437dd7830f", func := "messuage/messuagelaw11.PlainCopy", spec := "plainCopy", inPlace := ["internal/reflectlite.ValueOf", "(internal/reflectlite.Value).Type", "(internal/reflectlite.Value).IsNil", "internal/reflectlite.TypeOf", "(internal/reflectlite.Value).Elem", "(internal/reflectlite.Value).Set", "slices.overlaps[uint64]"], unfollowed := true, recurses := true, named := ["errors.errorType"], apart := false, laid := [("errors.errorType", laid_errors_errorType)] }
def PlainCopySaid : Prop := plainCopyRow.holds Tryz.pinned (OpenSpec.ofChange plainCopySpec)

/-- ITS FALSE NEIGHBOUR: 'it returns false'. Refute it at one input. -/
def plainCopyWrong : ChangeSpec := { name := "plainCopy", fn := fun _ => fun
  | [d1, d2, d3] => { results := [.lit (.bool false)], args := [d1, d2, d3] }
  | _ => none }
def PlainCopyWrongFalsely : Prop := plainCopyRow.holds Tryz.pinned (OpenSpec.ofChange plainCopyWrong)

/- THE SECOND FORM. 'bulk': how many values and letters a reading holds, each counted each time it is reached (what is shared counts as often as it is met; a slice's spare places count too). A statement '..UptoSaid' is the law's where the arguments, and the package variables that the reading takes, are together of bulk at most 1048576: NARROWER than '..Said'. Prove '..Said' where nothing that the law and all that it calls make is longer than what came in: it says more and counts as full. Else prove '..UptoSaid'. A law counts once. -/
mutual
def uptoBulk {H : Type} : DataW H → Nat
  | .lit (.string bytes) => bytes.length + 1
  | .lit _ => 1
  | .nil => 1
  | .ptr d => uptoBulk d + 1
  | .slice elems spare => uptoBulkAll elems + uptoBulkAll spare + 1
  | .agg parts => uptoBulkAll parts + 1
  | .iface _ d => uptoBulk d + 1
  | .map entries => uptoBulkEntries entries + 1
  | .held _ => 1
def uptoBulkAll {H : Type} : List (DataW H) → Nat
  | [] => 0
  | d :: r => uptoBulk d + uptoBulkAll r
def uptoBulkEntries {H : Type} : List (Lit × DataW H) → Nat
  | [] => 0
  | x :: r => uptoBulkEntry x + uptoBulkEntries r
def uptoBulkEntry {H : Type} : Lit × DataW H → Nat
  | (.string bytes, d) => bytes.length + uptoBulk d + 1
  | (_, d) => uptoBulk d + 1
 end
def uptoSmall : (H : Type) → List (DataW H) → Bool := fun _ ds => decide (uptoBulkAll ds ≤ 1048576)
def OpenSpec.upto (s : _root_.Go.ChangeSpec) : _root_.Go.OpenSpec := { _root_.Go.OpenSpec.ofChange s with cond := some uptoSmall }

/-- 'messuagelaw11.PlainApart', WHERE WHAT IT READS IS OF BULK AT MOST 1048576: true; the input reads as it did. -/
def plainApartUptoRow : OpenClaim := { program := "ythbbncgbbkcdgaagreatdoor", sum := "5c8de5b832cc8e63caa0b96ddf031b86527e13f9f401bb13da3373437dd7830f", func := "messuage/messuagelaw11.PlainApart", spec := "plainApart", inPlace := ["internal/reflectlite.ValueOf", "(internal/reflectlite.Value).Type", "(internal/reflectlite.Value).IsNil", "internal/reflectlite.TypeOf", "(internal/reflectlite.Value).Elem", "(internal/reflectlite.Value).Set", "slices.overlaps[uint64]"], unfollowed := true, recurses := true, named := ["errors.errorType"], apart := false, laid := [("errors.errorType", laid_errors_errorType)], narrowed := true }
def PlainApartUptoSaid : Prop := plainApartUptoRow.holds Tryz.pinned (OpenSpec.upto plainApartSpec)

/-- 'messuagelaw11.EpochAck', WHERE WHAT IT READS IS OF BULK AT MOST 1048576: true; the input reads as it did. -/
def epochAckUptoRow : OpenClaim := { program := "ythbbncgbbkcdgaagreatdoor", sum := "5c8de5b832cc8e63caa0b96ddf031b86527e13f9f401bb13da3373437dd7830f", func := "messuage/messuagelaw11.EpochAck", spec := "epochAck", inPlace := ["internal/reflectlite.ValueOf", "(internal/reflectlite.Value).Type", "(internal/reflectlite.Value).IsNil", "internal/reflectlite.TypeOf", "(internal/reflectlite.Value).Elem", "(internal/reflectlite.Value).Set", "slices.overlaps[uint64]"], unfollowed := true, recurses := true, named := ["errors.errorType"], apart := false, laid := [("errors.errorType", laid_errors_errorType)], narrowed := true }
def EpochAckUptoSaid : Prop := epochAckUptoRow.holds Tryz.pinned (OpenSpec.upto epochAckSpec)

/-- 'messuagelaw11.UserStale', WHERE WHAT IT READS IS OF BULK AT MOST 1048576: true; the input reads as it did. -/
def userStaleUptoRow : OpenClaim := { program := "ythbbncgbbkcdgaagreatdoor", sum := "5c8de5b832cc8e63caa0b96ddf031b86527e13f9f401bb13da3373437dd7830f", func := "messuage/messuagelaw11.UserStale", spec := "userStale", inPlace := ["internal/reflectlite.ValueOf", "(internal/reflectlite.Value).Type", "(internal/reflectlite.Value).IsNil", "internal/reflectlite.TypeOf", "(internal/reflectlite.Value).Elem", "(internal/reflectlite.Value).Set", "slices.overlaps[uint64]"], unfollowed := true, recurses := true, named := ["errors.errorType"], apart := false, laid := [("errors.errorType", laid_errors_errorType)], narrowed := true }
def UserStaleUptoSaid : Prop := userStaleUptoRow.holds Tryz.pinned (OpenSpec.upto userStaleSpec)

/-- 'messuagelaw11.UserMore', WHERE WHAT IT READS IS OF BULK AT MOST 1048576: true; the input reads as it did. -/
def userMoreUptoRow : OpenClaim := { program := "ythbbncgbbkcdgaagreatdoor", sum := "5c8de5b832cc8e63caa0b96ddf031b86527e13f9f401bb13da3373437dd7830f", func := "messuage/messuagelaw11.UserMore", spec := "userMore", inPlace := ["internal/reflectlite.ValueOf", "(internal/reflectlite.Value).Type", "(internal/reflectlite.Value).IsNil", "internal/reflectlite.TypeOf", "(internal/reflectlite.Value).Elem", "(internal/reflectlite.Value).Set", "slices.overlaps[uint64]"], unfollowed := true, recurses := true, named := ["errors.errorType"], apart := false, laid := [("errors.errorType", laid_errors_errorType)], narrowed := true }
def UserMoreUptoSaid : Prop := userMoreUptoRow.holds Tryz.pinned (OpenSpec.upto userMoreSpec)

/-- 'messuagelaw11.UserKinds', WHERE WHAT IT READS IS OF BULK AT MOST 1048576: true; the input reads as it did. -/
def userKindsUptoRow : OpenClaim := { program := "ythbbncgbbkcdgaagreatdoor", sum := "5c8de5b832cc8e63caa0b96ddf031b86527e13f9f401bb13da3373437dd7830f", func := "messuage/messuagelaw11.UserKinds", spec := "userKinds", inPlace := ["internal/reflectlite.ValueOf", "(internal/reflectlite.Value).Type", "(internal/reflectlite.Value).IsNil", "internal/reflectlite.TypeOf", "(internal/reflectlite.Value).Elem", "(internal/reflectlite.Value).Set", "slices.overlaps[uint64]"], unfollowed := true, recurses := true, named := ["errors.errorType"], apart := false, laid := [("errors.errorType", laid_errors_errorType)], narrowed := true }
def UserKindsUptoSaid : Prop := userKindsUptoRow.holds Tryz.pinned (OpenSpec.upto userKindsSpec)

/-- 'messuagelaw11.PlainRemap', WHERE WHAT IT READS IS OF BULK AT MOST 1048576: true; the input reads as it did. -/
def plainRemapUptoRow : OpenClaim := { program := "ythbbncgbbkcdgaagreatdoor", sum := "5c8de5b832cc8e63caa0b96ddf031b86527e13f9f401bb13da3373437dd7830f", func := "messuage/messuagelaw11.PlainRemap", spec := "plainRemap", inPlace := ["internal/reflectlite.ValueOf", "(internal/reflectlite.Value).Type", "(internal/reflectlite.Value).IsNil", "internal/reflectlite.TypeOf", "(internal/reflectlite.Value).Elem", "(internal/reflectlite.Value).Set", "slices.overlaps[uint64]"], unfollowed := true, recurses := true, named := ["errors.errorType"], apart := false, laid := [("errors.errorType", laid_errors_errorType)], narrowed := true }
def PlainRemapUptoSaid : Prop := plainRemapUptoRow.holds Tryz.pinned (OpenSpec.upto plainRemapSpec)

/-- 'messuagelaw11.EpochMany', WHERE WHAT IT READS IS OF BULK AT MOST 1048576: true; the input reads as it did. -/
def epochManyUptoRow : OpenClaim := { program := "ythbbncgbbkcdgaagreatdoor", sum := "5c8de5b832cc8e63caa0b96ddf031b86527e13f9f401bb13da3373437dd7830f", func := "messuage/messuagelaw11.EpochMany", spec := "epochMany", inPlace := ["internal/reflectlite.ValueOf", "(internal/reflectlite.Value).Type", "(internal/reflectlite.Value).IsNil", "internal/reflectlite.TypeOf", "(internal/reflectlite.Value).Elem", "(internal/reflectlite.Value).Set", "slices.overlaps[uint64]"], unfollowed := true, recurses := true, named := ["errors.errorType"], apart := false, laid := [("errors.errorType", laid_errors_errorType)], narrowed := true }
def EpochManyUptoSaid : Prop := epochManyUptoRow.holds Tryz.pinned (OpenSpec.upto epochManySpec)

/-- 'messuagelaw11.CapsAll', WHERE WHAT IT READS IS OF BULK AT MOST 1048576: true; the input reads as it did. -/
def capsAllUptoRow : OpenClaim := { program := "ythbbncgbbkcdgaagreatdoor", sum := "5c8de5b832cc8e63caa0b96ddf031b86527e13f9f401bb13da3373437dd7830f", func := "messuage/messuagelaw11.CapsAll", spec := "capsAll", inPlace := ["internal/reflectlite.ValueOf", "(internal/reflectlite.Value).Type", "(internal/reflectlite.Value).IsNil", "internal/reflectlite.TypeOf", "(internal/reflectlite.Value).Elem", "(internal/reflectlite.Value).Set", "slices.overlaps[uint64]"], unfollowed := true, recurses := true, named := ["errors.errorType"], apart := false, laid := [("errors.errorType", laid_errors_errorType)], narrowed := true }
def CapsAllUptoSaid : Prop := capsAllUptoRow.holds Tryz.pinned (OpenSpec.upto capsAllSpec)

/-- 'messuagelaw11.CapsChain', WHERE WHAT IT READS IS OF BULK AT MOST 1048576: true; the input reads as it did. -/
def capsChainUptoRow : OpenClaim := { program := "ythbbncgbbkcdgaagreatdoor", sum := "5c8de5b832cc8e63caa0b96ddf031b86527e13f9f401bb13da3373437dd7830f", func := "messuage/messuagelaw11.CapsChain", spec := "capsChain", inPlace := ["internal/reflectlite.ValueOf", "(internal/reflectlite.Value).Type", "(internal/reflectlite.Value).IsNil", "internal/reflectlite.TypeOf", "(internal/reflectlite.Value).Elem", "(internal/reflectlite.Value).Set", "slices.overlaps[uint64]"], unfollowed := true, recurses := true, named := ["errors.errorType"], apart := false, laid := [("errors.errorType", laid_errors_errorType)], narrowed := true }
def CapsChainUptoSaid : Prop := capsChainUptoRow.holds Tryz.pinned (OpenSpec.upto capsChainSpec)

/-- 'messuagelaw11.CapsFan', WHERE WHAT IT READS IS OF BULK AT MOST 1048576: true; the input reads as it did. -/
def capsFanUptoRow : OpenClaim := { program := "ythbbncgbbkcdgaagreatdoor", sum := "5c8de5b832cc8e63caa0b96ddf031b86527e13f9f401bb13da3373437dd7830f", func := "messuage/messuagelaw11.CapsFan", spec := "capsFan", inPlace := ["internal/reflectlite.ValueOf", "(internal/reflectlite.Value).Type", "(internal/reflectlite.Value).IsNil", "internal/reflectlite.TypeOf", "(internal/reflectlite.Value).Elem", "(internal/reflectlite.Value).Set", "slices.overlaps[uint64]"], unfollowed := true, recurses := true, named := ["errors.errorType"], apart := false, laid := [("errors.errorType", laid_errors_errorType)], narrowed := true }
def CapsFanUptoSaid : Prop := capsFanUptoRow.holds Tryz.pinned (OpenSpec.upto capsFanSpec)

/-- 'messuagelaw11.PlainAlloc', WHERE WHAT IT READS IS OF BULK AT MOST 1048576: true; the input reads as it did. -/
def plainAllocUptoRow : OpenClaim := { program := "ythbbncgbbkcdgaagreatdoor", sum := "5c8de5b832cc8e63caa0b96ddf031b86527e13f9f401bb13da3373437dd7830f", func := "messuage/messuagelaw11.PlainAlloc", spec := "plainAlloc", inPlace := ["internal/reflectlite.ValueOf", "(internal/reflectlite.Value).Type", "(internal/reflectlite.Value).IsNil", "internal/reflectlite.TypeOf", "(internal/reflectlite.Value).Elem", "(internal/reflectlite.Value).Set", "slices.overlaps[uint64]"], unfollowed := true, recurses := true, named := ["errors.errorType"], apart := false, laid := [("errors.errorType", laid_errors_errorType)], narrowed := true }
def PlainAllocUptoSaid : Prop := plainAllocUptoRow.holds Tryz.pinned (OpenSpec.upto plainAllocSpec)

/-- 'messuagelaw11.PlainProtect', WHERE WHAT IT READS IS OF BULK AT MOST 1048576: true; the input reads as it did. -/
def plainProtectUptoRow : OpenClaim := { program := "ythbbncgbbkcdgaagreatdoor", sum := "5c8de5b832cc8e63caa0b96ddf031b86527e13f9f401bb13da3373437dd7830f", func := "messuage/messuagelaw11.PlainProtect", spec := "plainProtect", inPlace := ["internal/reflectlite.ValueOf", "(internal/reflectlite.Value).Type", "(internal/reflectlite.Value).IsNil", "internal/reflectlite.TypeOf", "(internal/reflectlite.Value).Elem", "(internal/reflectlite.Value).Set", "slices.overlaps[uint64]"], unfollowed := true, recurses := true, named := ["errors.errorType"], apart := false, laid := [("errors.errorType", laid_errors_errorType)], narrowed := true }
def PlainProtectUptoSaid : Prop := plainProtectUptoRow.holds Tryz.pinned (OpenSpec.upto plainProtectSpec)

/-- 'messuagelaw11.PlainPages', WHERE WHAT IT READS IS OF BULK AT MOST 1048576: true; the input reads as it did. -/
def plainPagesUptoRow : OpenClaim := { program := "ythbbncgbbkcdgaagreatdoor", sum := "5c8de5b832cc8e63caa0b96ddf031b86527e13f9f401bb13da3373437dd7830f", func := "messuage/messuagelaw11.PlainPages", spec := "plainPages", inPlace := ["internal/reflectlite.ValueOf", "(internal/reflectlite.Value).Type", "(internal/reflectlite.Value).IsNil", "internal/reflectlite.TypeOf", "(internal/reflectlite.Value).Elem", "(internal/reflectlite.Value).Set", "slices.overlaps[uint64]"], unfollowed := true, recurses := true, named := ["errors.errorType"], apart := false, laid := [("errors.errorType", laid_errors_errorType)], narrowed := true }
def PlainPagesUptoSaid : Prop := plainPagesUptoRow.holds Tryz.pinned (OpenSpec.upto plainPagesSpec)

/-- 'messuagelaw11.PredAll', WHERE WHAT IT READS IS OF BULK AT MOST 1048576: true; the input reads as it did. -/
def predAllUptoRow : OpenClaim := { program := "ythbbncgbbkcdgaagreatdoor", sum := "5c8de5b832cc8e63caa0b96ddf031b86527e13f9f401bb13da3373437dd7830f", func := "messuage/messuagelaw11.PredAll", spec := "predAll", inPlace := ["internal/reflectlite.ValueOf", "(internal/reflectlite.Value).Type", "(internal/reflectlite.Value).IsNil", "internal/reflectlite.TypeOf", "(internal/reflectlite.Value).Elem", "(internal/reflectlite.Value).Set", "slices.overlaps[uint64]"], unfollowed := true, recurses := true, named := ["errors.errorType"], apart := false, laid := [("errors.errorType", laid_errors_errorType)], narrowed := true }
def PredAllUptoSaid : Prop := predAllUptoRow.holds Tryz.pinned (OpenSpec.upto predAllSpec)

/-- 'messuagelaw11.PlainFresh', WHERE WHAT IT READS IS OF BULK AT MOST 1048576: true; the input reads as it did. -/
def plainFreshUptoRow : OpenClaim := { program := "ythbbncgbbkcdgaagreatdoor", sum := "5c8de5b832cc8e63caa0b96ddf031b86527e13f9f401bb13da3373437dd7830f", func := "messuage/messuagelaw11.PlainFresh", spec := "plainFresh", inPlace := ["internal/reflectlite.ValueOf", "(internal/reflectlite.Value).Type", "(internal/reflectlite.Value).IsNil", "internal/reflectlite.TypeOf", "(internal/reflectlite.Value).Elem", "(internal/reflectlite.Value).Set", "slices.overlaps[uint64]"], unfollowed := true, recurses := true, named := ["errors.errorType"], apart := false, laid := [("errors.errorType", laid_errors_errorType)], narrowed := true }
def PlainFreshUptoSaid : Prop := plainFreshUptoRow.holds Tryz.pinned (OpenSpec.upto plainFreshSpec)

/-- 'messuagelaw11.UserAll', WHERE WHAT IT READS IS OF BULK AT MOST 1048576: true; the input reads as it did. -/
def userAllUptoRow : OpenClaim := { program := "ythbbncgbbkcdgaagreatdoor", sum := "5c8de5b832cc8e63caa0b96ddf031b86527e13f9f401bb13da3373437dd7830f", func := "messuage/messuagelaw11.UserAll", spec := "userAll", inPlace := ["internal/reflectlite.ValueOf", "(internal/reflectlite.Value).Type", "(internal/reflectlite.Value).IsNil", "internal/reflectlite.TypeOf", "(internal/reflectlite.Value).Elem", "(internal/reflectlite.Value).Set", "slices.overlaps[uint64]"], unfollowed := true, recurses := true, named := ["errors.errorType"], apart := false, laid := [("errors.errorType", laid_errors_errorType)], narrowed := true }
def UserAllUptoSaid : Prop := userAllUptoRow.holds Tryz.pinned (OpenSpec.upto userAllSpec)

/-- 'messuagelaw11.PlainShare', WHERE WHAT IT READS IS OF BULK AT MOST 1048576: true; the input reads as it did. -/
def plainShareUptoRow : OpenClaim := { program := "ythbbncgbbkcdgaagreatdoor", sum := "5c8de5b832cc8e63caa0b96ddf031b86527e13f9f401bb13da3373437dd7830f", func := "messuage/messuagelaw11.PlainShare", spec := "plainShare", inPlace := ["internal/reflectlite.ValueOf", "(internal/reflectlite.Value).Type", "(internal/reflectlite.Value).IsNil", "internal/reflectlite.TypeOf", "(internal/reflectlite.Value).Elem", "(internal/reflectlite.Value).Set", "slices.overlaps[uint64]"], unfollowed := true, recurses := true, named := ["errors.errorType"], apart := false, laid := [("errors.errorType", laid_errors_errorType)], narrowed := true }
def PlainShareUptoSaid : Prop := plainShareUptoRow.holds Tryz.pinned (OpenSpec.upto plainShareSpec)

/-- 'messuagelaw11.PlainDrop', WHERE WHAT IT READS IS OF BULK AT MOST 1048576: true; the input reads as it did. -/
def plainDropUptoRow : OpenClaim := { program := "ythbbncgbbkcdgaagreatdoor", sum := "5c8de5b832cc8e63caa0b96ddf031b86527e13f9f401bb13da3373437dd7830f", func := "messuage/messuagelaw11.PlainDrop", spec := "plainDrop", inPlace := ["internal/reflectlite.ValueOf", "(internal/reflectlite.Value).Type", "(internal/reflectlite.Value).IsNil", "internal/reflectlite.TypeOf", "(internal/reflectlite.Value).Elem", "(internal/reflectlite.Value).Set", "slices.overlaps[uint64]"], unfollowed := true, recurses := true, named := ["errors.errorType"], apart := false, laid := [("errors.errorType", laid_errors_errorType)], narrowed := true }
def PlainDropUptoSaid : Prop := plainDropUptoRow.holds Tryz.pinned (OpenSpec.upto plainDropSpec)

/-- 'messuagelaw11.KernelNone', WHERE WHAT IT READS IS OF BULK AT MOST 1048576: true; the input reads as it did. -/
def kernelNoneUptoRow : OpenClaim := { program := "ythbbncgbbkcdgaagreatdoor", sum := "5c8de5b832cc8e63caa0b96ddf031b86527e13f9f401bb13da3373437dd7830f", func := "messuage/messuagelaw11.KernelNone", spec := "kernelNone", inPlace := ["internal/reflectlite.ValueOf", "(internal/reflectlite.Value).Type", "(internal/reflectlite.Value).IsNil", "internal/reflectlite.TypeOf", "(internal/reflectlite.Value).Elem", "(internal/reflectlite.Value).Set", "slices.overlaps[uint64]"], unfollowed := true, recurses := true, named := ["errors.errorType"], apart := false, laid := [("errors.errorType", laid_errors_errorType)], narrowed := true }
def KernelNoneUptoSaid : Prop := kernelNoneUptoRow.holds Tryz.pinned (OpenSpec.upto kernelNoneSpec)

/-- 'messuagelaw11.PlainAll', WHERE WHAT IT READS IS OF BULK AT MOST 1048576: true; the input reads as it did. -/
def plainAllUptoRow : OpenClaim := { program := "ythbbncgbbkcdgaagreatdoor", sum := "5c8de5b832cc8e63caa0b96ddf031b86527e13f9f401bb13da3373437dd7830f", func := "messuage/messuagelaw11.PlainAll", spec := "plainAll", inPlace := ["internal/reflectlite.ValueOf", "(internal/reflectlite.Value).Type", "(internal/reflectlite.Value).IsNil", "internal/reflectlite.TypeOf", "(internal/reflectlite.Value).Elem", "(internal/reflectlite.Value).Set", "slices.overlaps[uint64]"], unfollowed := true, recurses := true, named := ["errors.errorType"], apart := false, laid := [("errors.errorType", laid_errors_errorType)], narrowed := true }
def PlainAllUptoSaid : Prop := plainAllUptoRow.holds Tryz.pinned (OpenSpec.upto plainAllSpec)

/-- 'messuagelaw11.PlainErr', WHERE WHAT IT READS IS OF BULK AT MOST 1048576: true; the input reads as it did. -/
def plainErrUptoRow : OpenClaim := { program := "ythbbncgbbkcdgaagreatdoor", sum := "5c8de5b832cc8e63caa0b96ddf031b86527e13f9f401bb13da3373437dd7830f", func := "messuage/messuagelaw11.PlainErr", spec := "plainErr", inPlace := ["internal/reflectlite.ValueOf", "(internal/reflectlite.Value).Type", "(internal/reflectlite.Value).IsNil", "internal/reflectlite.TypeOf", "(internal/reflectlite.Value).Elem", "(internal/reflectlite.Value).Set", "slices.overlaps[uint64]"], unfollowed := true, recurses := true, named := ["errors.errorType"], apart := false, laid := [("errors.errorType", laid_errors_errorType)], narrowed := true }
def PlainErrUptoSaid : Prop := plainErrUptoRow.holds Tryz.pinned (OpenSpec.upto plainErrSpec)

/-- 'messuagelaw11.PlainCopy', WHERE WHAT IT READS IS OF BULK AT MOST 1048576: true; the input reads as it did. -/
def plainCopyUptoRow : OpenClaim := { program := "ythbbncgbbkcdgaagreatdoor", sum := "5c8de5b832cc8e63caa0b96ddf031b86527e13f9f401bb13da3373437dd7830f", func := "messuage/messuagelaw11.PlainCopy", spec := "plainCopy", inPlace := ["internal/reflectlite.ValueOf", "(internal/reflectlite.Value).Type", "(internal/reflectlite.Value).IsNil", "internal/reflectlite.TypeOf", "(internal/reflectlite.Value).Elem", "(internal/reflectlite.Value).Set", "slices.overlaps[uint64]"], unfollowed := true, recurses := true, named := ["errors.errorType"], apart := false, laid := [("errors.errorType", laid_errors_errorType)], narrowed := true }
def PlainCopyUptoSaid : Prop := plainCopyUptoRow.holds Tryz.pinned (OpenSpec.upto plainCopySpec)

end Rows
end Go.Proofs.YthbbncgbbkcdgaaGreatDoor
