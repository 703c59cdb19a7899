/-
  DERIVED. GIVEN WITH THE SEED: THE CARDS: each row of YthbbncgbbkcdgaaGreatDoorRows.lean that lists a variable, with what it lists TIED to the program's text (the seventh form; the later family's looks); each row that meets fmt, with fmt's text TOLD by the authors' own Lean function (tested against real Go, not proved from fmt's source: count such statements apart). THE CARD IS WHAT COUNTS. Prove the row's statement (the work); the ties are given (YthbbncgbbkcdgaaGreatDoorTie.lean); close each card by the builder's one call (the guide's Derived/Test/ToyasCard.lean, 'card_holds'). Laid BY PROGRAM, IN A SANDBOX (cutbox-door.mjs). By AI agents, Wed Nov 11 2026. No macro, syntax, notation, axiom, sorry.
-/
import Derived.Test.YthbbncgbbkcdgaaGreatDoorRows
import GoSem.ClaimSeven
namespace Go.Proofs.YthbbncgbbkcdgaaGreatDoor
namespace Rows

/-- THE TIED CARD OF 'messuagelaw11.PlainApart'. -/
def plainApartCard : Claim7 := { stood := { row := plainApartRow, standIns := [], harness := (true, "d626847d8740dd9d26aa333608545da59ced25234dc50d46fbda0722bfac695a"), looks := true }, kinds := [], alts := [], laidByText := true, laidKinds := [.handle], laidTests := true, laidLooks := .later }
def PlainApartCardSaid : Prop := Claim7.holds Tryz.pinned (.plain (OpenSpec.ofChange plainApartSpec)) plainApartCard

/-- THE TIED CARD OF 'messuagelaw11.EpochAck'. -/
def epochAckCard : Claim7 := { stood := { row := epochAckRow, standIns := [], harness := (true, "d626847d8740dd9d26aa333608545da59ced25234dc50d46fbda0722bfac695a"), looks := true }, kinds := [], alts := [], laidByText := true, laidKinds := [.handle], laidTests := true, laidLooks := .later }
def EpochAckCardSaid : Prop := Claim7.holds Tryz.pinned (.plain (OpenSpec.ofChange epochAckSpec)) epochAckCard

/-- THE TIED CARD OF 'messuagelaw11.UserStale'. -/
def userStaleCard : Claim7 := { stood := { row := userStaleRow, standIns := [], harness := (true, "d626847d8740dd9d26aa333608545da59ced25234dc50d46fbda0722bfac695a"), looks := true }, kinds := [], alts := [], laidByText := true, laidKinds := [.handle], laidTests := true, laidLooks := .later }
def UserStaleCardSaid : Prop := Claim7.holds Tryz.pinned (.plain (OpenSpec.ofChange userStaleSpec)) userStaleCard

/-- THE TIED CARD OF 'messuagelaw11.UserMore'. -/
def userMoreCard : Claim7 := { stood := { row := userMoreRow, standIns := [], harness := (true, "d626847d8740dd9d26aa333608545da59ced25234dc50d46fbda0722bfac695a"), looks := true }, kinds := [], alts := [], laidByText := true, laidKinds := [.handle], laidTests := true, laidLooks := .later }
def UserMoreCardSaid : Prop := Claim7.holds Tryz.pinned (.plain (OpenSpec.ofChange userMoreSpec)) userMoreCard

/-- THE TIED CARD OF 'messuagelaw11.UserKinds'. -/
def userKindsCard : Claim7 := { stood := { row := userKindsRow, standIns := [], harness := (true, "d626847d8740dd9d26aa333608545da59ced25234dc50d46fbda0722bfac695a"), looks := true }, kinds := [], alts := [], laidByText := true, laidKinds := [.handle], laidTests := true, laidLooks := .later }
def UserKindsCardSaid : Prop := Claim7.holds Tryz.pinned (.plain (OpenSpec.ofChange userKindsSpec)) userKindsCard

/-- THE TIED CARD OF 'messuagelaw11.PlainRemap'. -/
def plainRemapCard : Claim7 := { stood := { row := plainRemapRow, standIns := [], harness := (true, "d626847d8740dd9d26aa333608545da59ced25234dc50d46fbda0722bfac695a"), looks := true }, kinds := [], alts := [], laidByText := true, laidKinds := [.handle], laidTests := true, laidLooks := .later }
def PlainRemapCardSaid : Prop := Claim7.holds Tryz.pinned (.plain (OpenSpec.ofChange plainRemapSpec)) plainRemapCard

/-- THE TIED CARD OF 'messuagelaw11.EpochMany'. -/
def epochManyCard : Claim7 := { stood := { row := epochManyRow, standIns := [], harness := (true, "d626847d8740dd9d26aa333608545da59ced25234dc50d46fbda0722bfac695a"), looks := true }, kinds := [], alts := [], laidByText := true, laidKinds := [.handle], laidTests := true, laidLooks := .later }
def EpochManyCardSaid : Prop := Claim7.holds Tryz.pinned (.plain (OpenSpec.ofChange epochManySpec)) epochManyCard

/-- THE TIED CARD OF 'messuagelaw11.CapsAll'. -/
def capsAllCard : Claim7 := { stood := { row := capsAllRow, standIns := [], harness := (true, "d626847d8740dd9d26aa333608545da59ced25234dc50d46fbda0722bfac695a"), looks := true }, kinds := [], alts := [], laidByText := true, laidKinds := [.handle], laidTests := true, laidLooks := .later }
def CapsAllCardSaid : Prop := Claim7.holds Tryz.pinned (.plain (OpenSpec.ofChange capsAllSpec)) capsAllCard

/-- THE TIED CARD OF 'messuagelaw11.CapsChain'. -/
def capsChainCard : Claim7 := { stood := { row := capsChainRow, standIns := [], harness := (true, "d626847d8740dd9d26aa333608545da59ced25234dc50d46fbda0722bfac695a"), looks := true }, kinds := [], alts := [], laidByText := true, laidKinds := [.handle], laidTests := true, laidLooks := .later }
def CapsChainCardSaid : Prop := Claim7.holds Tryz.pinned (.plain (OpenSpec.ofChange capsChainSpec)) capsChainCard

/-- THE TIED CARD OF 'messuagelaw11.CapsFan'. -/
def capsFanCard : Claim7 := { stood := { row := capsFanRow, standIns := [], harness := (true, "d626847d8740dd9d26aa333608545da59ced25234dc50d46fbda0722bfac695a"), looks := true }, kinds := [], alts := [], laidByText := true, laidKinds := [.handle], laidTests := true, laidLooks := .later }
def CapsFanCardSaid : Prop := Claim7.holds Tryz.pinned (.plain (OpenSpec.ofChange capsFanSpec)) capsFanCard

/-- THE TIED CARD OF 'messuagelaw11.PlainAlloc'. -/
def plainAllocCard : Claim7 := { stood := { row := plainAllocRow, standIns := [], harness := (true, "d626847d8740dd9d26aa333608545da59ced25234dc50d46fbda0722bfac695a"), looks := true }, kinds := [], alts := [], laidByText := true, laidKinds := [.handle], laidTests := true, laidLooks := .later }
def PlainAllocCardSaid : Prop := Claim7.holds Tryz.pinned (.plain (OpenSpec.ofChange plainAllocSpec)) plainAllocCard

/-- THE TIED CARD OF 'messuagelaw11.PlainProtect'. -/
def plainProtectCard : Claim7 := { stood := { row := plainProtectRow, standIns := [], harness := (true, "d626847d8740dd9d26aa333608545da59ced25234dc50d46fbda0722bfac695a"), looks := true }, kinds := [], alts := [], laidByText := true, laidKinds := [.handle], laidTests := true, laidLooks := .later }
def PlainProtectCardSaid : Prop := Claim7.holds Tryz.pinned (.plain (OpenSpec.ofChange plainProtectSpec)) plainProtectCard

/-- THE TIED CARD OF 'messuagelaw11.PlainPages'. -/
def plainPagesCard : Claim7 := { stood := { row := plainPagesRow, standIns := [], harness := (true, "d626847d8740dd9d26aa333608545da59ced25234dc50d46fbda0722bfac695a"), looks := true }, kinds := [], alts := [], laidByText := true, laidKinds := [.handle], laidTests := true, laidLooks := .later }
def PlainPagesCardSaid : Prop := Claim7.holds Tryz.pinned (.plain (OpenSpec.ofChange plainPagesSpec)) plainPagesCard

/-- THE TIED CARD OF 'messuagelaw11.PredAll'. -/
def predAllCard : Claim7 := { stood := { row := predAllRow, standIns := [], harness := (true, "d626847d8740dd9d26aa333608545da59ced25234dc50d46fbda0722bfac695a"), looks := true }, kinds := [], alts := [], laidByText := true, laidKinds := [.handle], laidTests := true, laidLooks := .later }
def PredAllCardSaid : Prop := Claim7.holds Tryz.pinned (.plain (OpenSpec.ofChange predAllSpec)) predAllCard

/-- THE TIED CARD OF 'messuagelaw11.PlainFresh'. -/
def plainFreshCard : Claim7 := { stood := { row := plainFreshRow, standIns := [], harness := (true, "d626847d8740dd9d26aa333608545da59ced25234dc50d46fbda0722bfac695a"), looks := true }, kinds := [], alts := [], laidByText := true, laidKinds := [.handle], laidTests := true, laidLooks := .later }
def PlainFreshCardSaid : Prop := Claim7.holds Tryz.pinned (.plain (OpenSpec.ofChange plainFreshSpec)) plainFreshCard

/-- THE TIED CARD OF 'messuagelaw11.UserAll'. -/
def userAllCard : Claim7 := { stood := { row := userAllRow, standIns := [], harness := (true, "d626847d8740dd9d26aa333608545da59ced25234dc50d46fbda0722bfac695a"), looks := true }, kinds := [], alts := [], laidByText := true, laidKinds := [.handle], laidTests := true, laidLooks := .later }
def UserAllCardSaid : Prop := Claim7.holds Tryz.pinned (.plain (OpenSpec.ofChange userAllSpec)) userAllCard

/-- THE TIED CARD OF 'messuagelaw11.PlainShare'. -/
def plainShareCard : Claim7 := { stood := { row := plainShareRow, standIns := [], harness := (true, "d626847d8740dd9d26aa333608545da59ced25234dc50d46fbda0722bfac695a"), looks := true }, kinds := [], alts := [], laidByText := true, laidKinds := [.handle], laidTests := true, laidLooks := .later }
def PlainShareCardSaid : Prop := Claim7.holds Tryz.pinned (.plain (OpenSpec.ofChange plainShareSpec)) plainShareCard

/-- THE TIED CARD OF 'messuagelaw11.PlainDrop'. -/
def plainDropCard : Claim7 := { stood := { row := plainDropRow, standIns := [], harness := (true, "d626847d8740dd9d26aa333608545da59ced25234dc50d46fbda0722bfac695a"), looks := true }, kinds := [], alts := [], laidByText := true, laidKinds := [.handle], laidTests := true, laidLooks := .later }
def PlainDropCardSaid : Prop := Claim7.holds Tryz.pinned (.plain (OpenSpec.ofChange plainDropSpec)) plainDropCard

/-- THE TIED CARD OF 'messuagelaw11.KernelNone'. -/
def kernelNoneCard : Claim7 := { stood := { row := kernelNoneRow, standIns := [], harness := (true, "d626847d8740dd9d26aa333608545da59ced25234dc50d46fbda0722bfac695a"), looks := true }, kinds := [], alts := [], laidByText := true, laidKinds := [.handle], laidTests := true, laidLooks := .later }
def KernelNoneCardSaid : Prop := Claim7.holds Tryz.pinned (.plain (OpenSpec.ofChange kernelNoneSpec)) kernelNoneCard

/-- THE TIED CARD OF 'messuagelaw11.PlainAll'. -/
def plainAllCard : Claim7 := { stood := { row := plainAllRow, standIns := [], harness := (true, "d626847d8740dd9d26aa333608545da59ced25234dc50d46fbda0722bfac695a"), looks := true }, kinds := [], alts := [], laidByText := true, laidKinds := [.handle], laidTests := true, laidLooks := .later }
def PlainAllCardSaid : Prop := Claim7.holds Tryz.pinned (.plain (OpenSpec.ofChange plainAllSpec)) plainAllCard

/-- THE TIED CARD OF 'messuagelaw11.PlainErr'. -/
def plainErrCard : Claim7 := { stood := { row := plainErrRow, standIns := [], harness := (true, "d626847d8740dd9d26aa333608545da59ced25234dc50d46fbda0722bfac695a"), looks := true }, kinds := [], alts := [], laidByText := true, laidKinds := [.handle], laidTests := true, laidLooks := .later }
def PlainErrCardSaid : Prop := Claim7.holds Tryz.pinned (.plain (OpenSpec.ofChange plainErrSpec)) plainErrCard

/-- THE TIED CARD OF 'messuagelaw11.PlainCopy'. -/
def plainCopyCard : Claim7 := { stood := { row := plainCopyRow, standIns := [], harness := (true, "d626847d8740dd9d26aa333608545da59ced25234dc50d46fbda0722bfac695a"), looks := true }, kinds := [], alts := [], laidByText := true, laidKinds := [.handle], laidTests := true, laidLooks := .later }
def PlainCopyCardSaid : Prop := Claim7.holds Tryz.pinned (.plain (OpenSpec.ofChange plainCopySpec)) plainCopyCard

/-- THE SECOND FORM's CARD OF 'messuagelaw11.PlainApart'. -/
def plainApartUptoCard : Claim7 := { stood := { row := plainApartUptoRow, standIns := [], harness := (true, "d626847d8740dd9d26aa333608545da59ced25234dc50d46fbda0722bfac695a"), looks := true }, kinds := [], alts := [], laidByText := true, laidKinds := [.handle], laidTests := true, laidLooks := .later }
def PlainApartUptoCardSaid : Prop := Claim7.holds Tryz.pinned (.plain (OpenSpec.upto plainApartSpec)) plainApartUptoCard

/-- THE SECOND FORM's CARD OF 'messuagelaw11.EpochAck'. -/
def epochAckUptoCard : Claim7 := { stood := { row := epochAckUptoRow, standIns := [], harness := (true, "d626847d8740dd9d26aa333608545da59ced25234dc50d46fbda0722bfac695a"), looks := true }, kinds := [], alts := [], laidByText := true, laidKinds := [.handle], laidTests := true, laidLooks := .later }
def EpochAckUptoCardSaid : Prop := Claim7.holds Tryz.pinned (.plain (OpenSpec.upto epochAckSpec)) epochAckUptoCard

/-- THE SECOND FORM's CARD OF 'messuagelaw11.UserStale'. -/
def userStaleUptoCard : Claim7 := { stood := { row := userStaleUptoRow, standIns := [], harness := (true, "d626847d8740dd9d26aa333608545da59ced25234dc50d46fbda0722bfac695a"), looks := true }, kinds := [], alts := [], laidByText := true, laidKinds := [.handle], laidTests := true, laidLooks := .later }
def UserStaleUptoCardSaid : Prop := Claim7.holds Tryz.pinned (.plain (OpenSpec.upto userStaleSpec)) userStaleUptoCard

/-- THE SECOND FORM's CARD OF 'messuagelaw11.UserMore'. -/
def userMoreUptoCard : Claim7 := { stood := { row := userMoreUptoRow, standIns := [], harness := (true, "d626847d8740dd9d26aa333608545da59ced25234dc50d46fbda0722bfac695a"), looks := true }, kinds := [], alts := [], laidByText := true, laidKinds := [.handle], laidTests := true, laidLooks := .later }
def UserMoreUptoCardSaid : Prop := Claim7.holds Tryz.pinned (.plain (OpenSpec.upto userMoreSpec)) userMoreUptoCard

/-- THE SECOND FORM's CARD OF 'messuagelaw11.UserKinds'. -/
def userKindsUptoCard : Claim7 := { stood := { row := userKindsUptoRow, standIns := [], harness := (true, "d626847d8740dd9d26aa333608545da59ced25234dc50d46fbda0722bfac695a"), looks := true }, kinds := [], alts := [], laidByText := true, laidKinds := [.handle], laidTests := true, laidLooks := .later }
def UserKindsUptoCardSaid : Prop := Claim7.holds Tryz.pinned (.plain (OpenSpec.upto userKindsSpec)) userKindsUptoCard

/-- THE SECOND FORM's CARD OF 'messuagelaw11.PlainRemap'. -/
def plainRemapUptoCard : Claim7 := { stood := { row := plainRemapUptoRow, standIns := [], harness := (true, "d626847d8740dd9d26aa333608545da59ced25234dc50d46fbda0722bfac695a"), looks := true }, kinds := [], alts := [], laidByText := true, laidKinds := [.handle], laidTests := true, laidLooks := .later }
def PlainRemapUptoCardSaid : Prop := Claim7.holds Tryz.pinned (.plain (OpenSpec.upto plainRemapSpec)) plainRemapUptoCard

/-- THE SECOND FORM's CARD OF 'messuagelaw11.EpochMany'. -/
def epochManyUptoCard : Claim7 := { stood := { row := epochManyUptoRow, standIns := [], harness := (true, "d626847d8740dd9d26aa333608545da59ced25234dc50d46fbda0722bfac695a"), looks := true }, kinds := [], alts := [], laidByText := true, laidKinds := [.handle], laidTests := true, laidLooks := .later }
def EpochManyUptoCardSaid : Prop := Claim7.holds Tryz.pinned (.plain (OpenSpec.upto epochManySpec)) epochManyUptoCard

/-- THE SECOND FORM's CARD OF 'messuagelaw11.CapsAll'. -/
def capsAllUptoCard : Claim7 := { stood := { row := capsAllUptoRow, standIns := [], harness := (true, "d626847d8740dd9d26aa333608545da59ced25234dc50d46fbda0722bfac695a"), looks := true }, kinds := [], alts := [], laidByText := true, laidKinds := [.handle], laidTests := true, laidLooks := .later }
def CapsAllUptoCardSaid : Prop := Claim7.holds Tryz.pinned (.plain (OpenSpec.upto capsAllSpec)) capsAllUptoCard

/-- THE SECOND FORM's CARD OF 'messuagelaw11.CapsChain'. -/
def capsChainUptoCard : Claim7 := { stood := { row := capsChainUptoRow, standIns := [], harness := (true, "d626847d8740dd9d26aa333608545da59ced25234dc50d46fbda0722bfac695a"), looks := true }, kinds := [], alts := [], laidByText := true, laidKinds := [.handle], laidTests := true, laidLooks := .later }
def CapsChainUptoCardSaid : Prop := Claim7.holds Tryz.pinned (.plain (OpenSpec.upto capsChainSpec)) capsChainUptoCard

/-- THE SECOND FORM's CARD OF 'messuagelaw11.CapsFan'. -/
def capsFanUptoCard : Claim7 := { stood := { row := capsFanUptoRow, standIns := [], harness := (true, "d626847d8740dd9d26aa333608545da59ced25234dc50d46fbda0722bfac695a"), looks := true }, kinds := [], alts := [], laidByText := true, laidKinds := [.handle], laidTests := true, laidLooks := .later }
def CapsFanUptoCardSaid : Prop := Claim7.holds Tryz.pinned (.plain (OpenSpec.upto capsFanSpec)) capsFanUptoCard

/-- THE SECOND FORM's CARD OF 'messuagelaw11.PlainAlloc'. -/
def plainAllocUptoCard : Claim7 := { stood := { row := plainAllocUptoRow, standIns := [], harness := (true, "d626847d8740dd9d26aa333608545da59ced25234dc50d46fbda0722bfac695a"), looks := true }, kinds := [], alts := [], laidByText := true, laidKinds := [.handle], laidTests := true, laidLooks := .later }
def PlainAllocUptoCardSaid : Prop := Claim7.holds Tryz.pinned (.plain (OpenSpec.upto plainAllocSpec)) plainAllocUptoCard

/-- THE SECOND FORM's CARD OF 'messuagelaw11.PlainProtect'. -/
def plainProtectUptoCard : Claim7 := { stood := { row := plainProtectUptoRow, standIns := [], harness := (true, "d626847d8740dd9d26aa333608545da59ced25234dc50d46fbda0722bfac695a"), looks := true }, kinds := [], alts := [], laidByText := true, laidKinds := [.handle], laidTests := true, laidLooks := .later }
def PlainProtectUptoCardSaid : Prop := Claim7.holds Tryz.pinned (.plain (OpenSpec.upto plainProtectSpec)) plainProtectUptoCard

/-- THE SECOND FORM's CARD OF 'messuagelaw11.PlainPages'. -/
def plainPagesUptoCard : Claim7 := { stood := { row := plainPagesUptoRow, standIns := [], harness := (true, "d626847d8740dd9d26aa333608545da59ced25234dc50d46fbda0722bfac695a"), looks := true }, kinds := [], alts := [], laidByText := true, laidKinds := [.handle], laidTests := true, laidLooks := .later }
def PlainPagesUptoCardSaid : Prop := Claim7.holds Tryz.pinned (.plain (OpenSpec.upto plainPagesSpec)) plainPagesUptoCard

/-- THE SECOND FORM's CARD OF 'messuagelaw11.PredAll'. -/
def predAllUptoCard : Claim7 := { stood := { row := predAllUptoRow, standIns := [], harness := (true, "d626847d8740dd9d26aa333608545da59ced25234dc50d46fbda0722bfac695a"), looks := true }, kinds := [], alts := [], laidByText := true, laidKinds := [.handle], laidTests := true, laidLooks := .later }
def PredAllUptoCardSaid : Prop := Claim7.holds Tryz.pinned (.plain (OpenSpec.upto predAllSpec)) predAllUptoCard

/-- THE SECOND FORM's CARD OF 'messuagelaw11.PlainFresh'. -/
def plainFreshUptoCard : Claim7 := { stood := { row := plainFreshUptoRow, standIns := [], harness := (true, "d626847d8740dd9d26aa333608545da59ced25234dc50d46fbda0722bfac695a"), looks := true }, kinds := [], alts := [], laidByText := true, laidKinds := [.handle], laidTests := true, laidLooks := .later }
def PlainFreshUptoCardSaid : Prop := Claim7.holds Tryz.pinned (.plain (OpenSpec.upto plainFreshSpec)) plainFreshUptoCard

/-- THE SECOND FORM's CARD OF 'messuagelaw11.UserAll'. -/
def userAllUptoCard : Claim7 := { stood := { row := userAllUptoRow, standIns := [], harness := (true, "d626847d8740dd9d26aa333608545da59ced25234dc50d46fbda0722bfac695a"), looks := true }, kinds := [], alts := [], laidByText := true, laidKinds := [.handle], laidTests := true, laidLooks := .later }
def UserAllUptoCardSaid : Prop := Claim7.holds Tryz.pinned (.plain (OpenSpec.upto userAllSpec)) userAllUptoCard

/-- THE SECOND FORM's CARD OF 'messuagelaw11.PlainShare'. -/
def plainShareUptoCard : Claim7 := { stood := { row := plainShareUptoRow, standIns := [], harness := (true, "d626847d8740dd9d26aa333608545da59ced25234dc50d46fbda0722bfac695a"), looks := true }, kinds := [], alts := [], laidByText := true, laidKinds := [.handle], laidTests := true, laidLooks := .later }
def PlainShareUptoCardSaid : Prop := Claim7.holds Tryz.pinned (.plain (OpenSpec.upto plainShareSpec)) plainShareUptoCard

/-- THE SECOND FORM's CARD OF 'messuagelaw11.PlainDrop'. -/
def plainDropUptoCard : Claim7 := { stood := { row := plainDropUptoRow, standIns := [], harness := (true, "d626847d8740dd9d26aa333608545da59ced25234dc50d46fbda0722bfac695a"), looks := true }, kinds := [], alts := [], laidByText := true, laidKinds := [.handle], laidTests := true, laidLooks := .later }
def PlainDropUptoCardSaid : Prop := Claim7.holds Tryz.pinned (.plain (OpenSpec.upto plainDropSpec)) plainDropUptoCard

/-- THE SECOND FORM's CARD OF 'messuagelaw11.KernelNone'. -/
def kernelNoneUptoCard : Claim7 := { stood := { row := kernelNoneUptoRow, standIns := [], harness := (true, "d626847d8740dd9d26aa333608545da59ced25234dc50d46fbda0722bfac695a"), looks := true }, kinds := [], alts := [], laidByText := true, laidKinds := [.handle], laidTests := true, laidLooks := .later }
def KernelNoneUptoCardSaid : Prop := Claim7.holds Tryz.pinned (.plain (OpenSpec.upto kernelNoneSpec)) kernelNoneUptoCard

/-- THE SECOND FORM's CARD OF 'messuagelaw11.PlainAll'. -/
def plainAllUptoCard : Claim7 := { stood := { row := plainAllUptoRow, standIns := [], harness := (true, "d626847d8740dd9d26aa333608545da59ced25234dc50d46fbda0722bfac695a"), looks := true }, kinds := [], alts := [], laidByText := true, laidKinds := [.handle], laidTests := true, laidLooks := .later }
def PlainAllUptoCardSaid : Prop := Claim7.holds Tryz.pinned (.plain (OpenSpec.upto plainAllSpec)) plainAllUptoCard

/-- THE SECOND FORM's CARD OF 'messuagelaw11.PlainErr'. -/
def plainErrUptoCard : Claim7 := { stood := { row := plainErrUptoRow, standIns := [], harness := (true, "d626847d8740dd9d26aa333608545da59ced25234dc50d46fbda0722bfac695a"), looks := true }, kinds := [], alts := [], laidByText := true, laidKinds := [.handle], laidTests := true, laidLooks := .later }
def PlainErrUptoCardSaid : Prop := Claim7.holds Tryz.pinned (.plain (OpenSpec.upto plainErrSpec)) plainErrUptoCard

/-- THE SECOND FORM's CARD OF 'messuagelaw11.PlainCopy'. -/
def plainCopyUptoCard : Claim7 := { stood := { row := plainCopyUptoRow, standIns := [], harness := (true, "d626847d8740dd9d26aa333608545da59ced25234dc50d46fbda0722bfac695a"), looks := true }, kinds := [], alts := [], laidByText := true, laidKinds := [.handle], laidTests := true, laidLooks := .later }
def PlainCopyUptoCardSaid : Prop := Claim7.holds Tryz.pinned (.plain (OpenSpec.upto plainCopySpec)) plainCopyUptoCard
end Rows
end Go.Proofs.YthbbncgbbkcdgaaGreatDoor
