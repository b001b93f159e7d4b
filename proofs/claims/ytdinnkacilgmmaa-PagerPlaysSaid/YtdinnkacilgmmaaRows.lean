/-
  No cell of these rows narrows 'for every input' (looked for: loops, veiled, ifaces, maps, wideKeys, modest, calm, conditions, laid).
  DERIVED. THE GIVEN ROWS OF THIS SEAT. 22 by the template 'for every input the law returns true; each argument reads behind the call as it read before'; 0 by the template 'total and deterministic' (their statements: YtdinnkacilgmmaaTotals.lean).
  GIVEN WITH THE SEED: the statements are not yours to turn. If you find one false, say at which input.
  Laid BY PROGRAM, IN A SANDBOX (cutbox-rows.mjs): the forced cells as the released guide's own fill.sh prints them over the translation ddf8ffe139a6e7cd… (all of the seat's roots in one cut). By AI agents, Wed Nov 11 2026. No macro, syntax, notation, axiom, sorry.
-/
import Derived.Test.YtdinnkacilgmmaaChecked
import GoSem.Claim
import GoSem.ClaimJoined
import GoSem.ClaimMapViews
import Derived.JoinedTies
import Derived.KernelRfl
namespace Go.Proofs.Ytdinnkacilgmmaa
/- THE CELL 'sum', in the pinned program and in every row, IS THE sha256 OF THE DUMP (.gsa) THAT YtdinnkacilgmmaaProg.lean LOADS. Nothing in Lean hashes anything: it is a label: what it is worth is what the hold of that sum in a sandbox is worth. -/
noncomputable def Try.pinned : Pinned := { name := "ytdinnkacilgmmaa", sum := "ddf8ffe139a6e7cd9d6481a1137fbac16920261c1d662f5b146533034e56a8cf", checked := Try.checked }
namespace Rows
def none {H : Type} : Left H := { results := [], args := [] }

/-- 'almonerlaw01.CrcTells': WHATEVER THE INPUT: true; the input reads as it did. -/
def crcTellsSpec : ChangeSpec := { name := "crcTells", fn := fun _ => fun
  | [d1, d2, d3] => { results := [.lit (.bool true)], args := [d1, d2, d3] }
  | _ => none }
def crcTellsRow : OpenClaim := { program := "ytdinnkacilgmmaa", sum := "ddf8ffe139a6e7cd9d6481a1137fbac16920261c1d662f5b146533034e56a8cf", func := "almoner/almonerlaw01.CrcTells", spec := "crcTells", apart := false }
def CrcTellsSaid : Prop := crcTellsRow.holds Try.pinned (OpenSpec.ofChange crcTellsSpec)

/-- ITS FALSE NEIGHBOUR: 'it returns false'. Refute it at one input. -/
def crcTellsWrong : ChangeSpec := { name := "crcTells", fn := fun _ => fun
  | [d1, d2, d3] => { results := [.lit (.bool false)], args := [d1, d2, d3] }
  | _ => none }
def CrcTellsWrongFalsely : Prop := crcTellsRow.holds Try.pinned (OpenSpec.ofChange crcTellsWrong)

/-- 'almonerlaw01.CrcAdds': WHATEVER THE INPUT: true; the input reads as it did. -/
def crcAddsSpec : ChangeSpec := { name := "crcAdds", fn := fun _ => fun
  | [d1, d2, d3] => { results := [.lit (.bool true)], args := [d1, d2, d3] }
  | _ => none }
def crcAddsRow : OpenClaim := { program := "ytdinnkacilgmmaa", sum := "ddf8ffe139a6e7cd9d6481a1137fbac16920261c1d662f5b146533034e56a8cf", func := "almoner/almonerlaw01.CrcAdds", spec := "crcAdds", apart := false }
def CrcAddsSaid : Prop := crcAddsRow.holds Try.pinned (OpenSpec.ofChange crcAddsSpec)

/-- ITS FALSE NEIGHBOUR: 'it returns false'. Refute it at one input. -/
def crcAddsWrong : ChangeSpec := { name := "crcAdds", fn := fun _ => fun
  | [d1, d2, d3] => { results := [.lit (.bool false)], args := [d1, d2, d3] }
  | _ => none }
def CrcAddsWrongFalsely : Prop := crcAddsRow.holds Try.pinned (OpenSpec.ofChange crcAddsWrong)

/-- 'almonerlaw01.CrcSlots': WHATEVER THE INPUT: true; the input reads as it did. -/
def crcSlotsSpec : ChangeSpec := { name := "crcSlots", fn := fun _ => fun
  | [d1, d2] => { results := [.lit (.bool true)], args := [d1, d2] }
  | _ => none }
def crcSlotsRow : OpenClaim := { program := "ytdinnkacilgmmaa", sum := "ddf8ffe139a6e7cd9d6481a1137fbac16920261c1d662f5b146533034e56a8cf", func := "almoner/almonerlaw01.CrcSlots", spec := "crcSlots", apart := false }
def CrcSlotsSaid : Prop := crcSlotsRow.holds Try.pinned (OpenSpec.ofChange crcSlotsSpec)

/-- ITS FALSE NEIGHBOUR: 'it returns false'. Refute it at one input. -/
def crcSlotsWrong : ChangeSpec := { name := "crcSlots", fn := fun _ => fun
  | [d1, d2] => { results := [.lit (.bool false)], args := [d1, d2] }
  | _ => none }
def CrcSlotsWrongFalsely : Prop := crcSlotsRow.holds Try.pinned (OpenSpec.ofChange crcSlotsWrong)

/-- 'almonerlaw01.CrcPieces': WHATEVER THE INPUT: true; the input reads as it did. -/
def crcPiecesSpec : ChangeSpec := { name := "crcPieces", fn := fun _ => fun
  | [d1, d2] => { results := [.lit (.bool true)], args := [d1, d2] }
  | _ => none }
def crcPiecesRow : OpenClaim := { program := "ytdinnkacilgmmaa", sum := "ddf8ffe139a6e7cd9d6481a1137fbac16920261c1d662f5b146533034e56a8cf", func := "almoner/almonerlaw01.CrcPieces", spec := "crcPieces", unfollowed := true, recurses := true, apart := false }
def CrcPiecesSaid : Prop := crcPiecesRow.holds Try.pinned (OpenSpec.ofChange crcPiecesSpec)

/-- ITS FALSE NEIGHBOUR: 'it returns false'. Refute it at one input. -/
def crcPiecesWrong : ChangeSpec := { name := "crcPieces", fn := fun _ => fun
  | [d1, d2] => { results := [.lit (.bool false)], args := [d1, d2] }
  | _ => none }
def CrcPiecesWrongFalsely : Prop := crcPiecesRow.holds Try.pinned (OpenSpec.ofChange crcPiecesWrong)

/-- 'almonerlaw01.CrcNoughts': WHATEVER THE INPUT: true; the input reads as it did. -/
def crcNoughtsSpec : ChangeSpec := { name := "crcNoughts", fn := fun _ => fun
  | [d1, d2, d3] => { results := [.lit (.bool true)], args := [d1, d2, d3] }
  | _ => none }
def crcNoughtsRow : OpenClaim := { program := "ytdinnkacilgmmaa", sum := "ddf8ffe139a6e7cd9d6481a1137fbac16920261c1d662f5b146533034e56a8cf", func := "almoner/almonerlaw01.CrcNoughts", spec := "crcNoughts", unfollowed := true, recurses := true, apart := false }
def CrcNoughtsSaid : Prop := crcNoughtsRow.holds Try.pinned (OpenSpec.ofChange crcNoughtsSpec)

/-- ITS FALSE NEIGHBOUR: 'it returns false'. Refute it at one input. -/
def crcNoughtsWrong : ChangeSpec := { name := "crcNoughts", fn := fun _ => fun
  | [d1, d2, d3] => { results := [.lit (.bool false)], args := [d1, d2, d3] }
  | _ => none }
def CrcNoughtsWrongFalsely : Prop := crcNoughtsRow.holds Try.pinned (OpenSpec.ofChange crcNoughtsWrong)

/-- 'almonerlaw03.DiskSafe': WHATEVER THE INPUT: true; the input reads as it did. -/
def diskSafeSpec : ChangeSpec := { name := "diskSafe", fn := fun _ => fun
  | [d1, d2, d3] => { results := [.lit (.bool true)], args := [d1, d2, d3] }
  | _ => none }
def diskSafeRow : OpenClaim := { program := "ytdinnkacilgmmaa", sum := "ddf8ffe139a6e7cd9d6481a1137fbac16920261c1d662f5b146533034e56a8cf", func := "almoner/almonerlaw03.DiskSafe", spec := "diskSafe", apart := false }
def DiskSafeSaid : Prop := diskSafeRow.holds Try.pinned (OpenSpec.ofChange diskSafeSpec)

/-- ITS FALSE NEIGHBOUR: 'it returns false'. Refute it at one input. -/
def diskSafeWrong : ChangeSpec := { name := "diskSafe", fn := fun _ => fun
  | [d1, d2, d3] => { results := [.lit (.bool false)], args := [d1, d2, d3] }
  | _ => none }
def DiskSafeWrongFalsely : Prop := diskSafeRow.holds Try.pinned (OpenSpec.ofChange diskSafeWrong)

/-- 'almonerlaw03.DiskLoads': WHATEVER THE INPUT: true; the input reads as it did. -/
def diskLoadsSpec : ChangeSpec := { name := "diskLoads", fn := fun _ => fun
  | [d] => { results := [.lit (.bool true)], args := [d] }
  | _ => none }
def diskLoadsRow : OpenClaim := { program := "ytdinnkacilgmmaa", sum := "ddf8ffe139a6e7cd9d6481a1137fbac16920261c1d662f5b146533034e56a8cf", func := "almoner/almonerlaw03.DiskLoads", spec := "diskLoads", apart := false }
def DiskLoadsSaid : Prop := diskLoadsRow.holds Try.pinned (OpenSpec.ofChange diskLoadsSpec)

/-- ITS FALSE NEIGHBOUR: 'it returns false'. Refute it at one input. -/
def diskLoadsWrong : ChangeSpec := { name := "diskLoads", fn := fun _ => fun
  | [d] => { results := [.lit (.bool false)], args := [d] }
  | _ => none }
def DiskLoadsWrongFalsely : Prop := diskLoadsRow.holds Try.pinned (OpenSpec.ofChange diskLoadsWrong)

/-- 'almonerlaw03.DiskFails': WHATEVER THE INPUT: true; the input reads as it did. -/
def diskFailsSpec : ChangeSpec := { name := "diskFails", fn := fun _ => fun
  | [d1, d2, d3] => { results := [.lit (.bool true)], args := [d1, d2, d3] }
  | _ => none }
def diskFailsRow : OpenClaim := { program := "ytdinnkacilgmmaa", sum := "ddf8ffe139a6e7cd9d6481a1137fbac16920261c1d662f5b146533034e56a8cf", func := "almoner/almonerlaw03.DiskFails", spec := "diskFails", apart := false }
def DiskFailsSaid : Prop := diskFailsRow.holds Try.pinned (OpenSpec.ofChange diskFailsSpec)

/-- ITS FALSE NEIGHBOUR: 'it returns false'. Refute it at one input. -/
def diskFailsWrong : ChangeSpec := { name := "diskFails", fn := fun _ => fun
  | [d1, d2, d3] => { results := [.lit (.bool false)], args := [d1, d2, d3] }
  | _ => none }
def DiskFailsWrongFalsely : Prop := diskFailsRow.holds Try.pinned (OpenSpec.ofChange diskFailsWrong)

/-- 'almonerlaw03.DiskSyncs': WHATEVER THE INPUT: true; the input reads as it did. -/
def diskSyncsSpec : ChangeSpec := { name := "diskSyncs", fn := fun _ => fun
  | [d1, d2] => { results := [.lit (.bool true)], args := [d1, d2] }
  | _ => none }
def diskSyncsRow : OpenClaim := { program := "ytdinnkacilgmmaa", sum := "ddf8ffe139a6e7cd9d6481a1137fbac16920261c1d662f5b146533034e56a8cf", func := "almoner/almonerlaw03.DiskSyncs", spec := "diskSyncs", apart := false }
def DiskSyncsSaid : Prop := diskSyncsRow.holds Try.pinned (OpenSpec.ofChange diskSyncsSpec)

/-- ITS FALSE NEIGHBOUR: 'it returns false'. Refute it at one input. -/
def diskSyncsWrong : ChangeSpec := { name := "diskSyncs", fn := fun _ => fun
  | [d1, d2] => { results := [.lit (.bool false)], args := [d1, d2] }
  | _ => none }
def DiskSyncsWrongFalsely : Prop := diskSyncsRow.holds Try.pinned (OpenSpec.ofChange diskSyncsWrong)

/-- 'almonerlaw03.DiskPlays': WHATEVER THE INPUT: true; the input reads as it did. -/
def diskPlaysSpec : ChangeSpec := { name := "diskPlays", fn := fun _ => fun
  | [d1, d2, d3] => { results := [.lit (.bool true)], args := [d1, d2, d3] }
  | _ => none }
def diskPlaysRow : OpenClaim := { program := "ytdinnkacilgmmaa", sum := "ddf8ffe139a6e7cd9d6481a1137fbac16920261c1d662f5b146533034e56a8cf", func := "almoner/almonerlaw03.DiskPlays", spec := "diskPlays", apart := false }
def DiskPlaysSaid : Prop := diskPlaysRow.holds Try.pinned (OpenSpec.ofChange diskPlaysSpec)

/-- ITS FALSE NEIGHBOUR: 'it returns false'. Refute it at one input. -/
def diskPlaysWrong : ChangeSpec := { name := "diskPlays", fn := fun _ => fun
  | [d1, d2, d3] => { results := [.lit (.bool false)], args := [d1, d2, d3] }
  | _ => none }
def DiskPlaysWrongFalsely : Prop := diskPlaysRow.holds Try.pinned (OpenSpec.ofChange diskPlaysWrong)

/-- 'almonerlaw03.DiskNil': WHATEVER THE INPUT: true; the input reads as it did. -/
def diskNilSpec : ChangeSpec := { name := "diskNil", fn := fun _ => fun
  | [d] => { results := [.lit (.bool true)], args := [d] }
  | _ => none }
def diskNilRow : OpenClaim := { program := "ytdinnkacilgmmaa", sum := "ddf8ffe139a6e7cd9d6481a1137fbac16920261c1d662f5b146533034e56a8cf", func := "almoner/almonerlaw03.DiskNil", spec := "diskNil", apart := false }
def DiskNilSaid : Prop := diskNilRow.holds Try.pinned (OpenSpec.ofChange diskNilSpec)

/-- ITS FALSE NEIGHBOUR: 'it returns false'. Refute it at one input. -/
def diskNilWrong : ChangeSpec := { name := "diskNil", fn := fun _ => fun
  | [d] => { results := [.lit (.bool false)], args := [d] }
  | _ => none }
def DiskNilWrongFalsely : Prop := diskNilRow.holds Try.pinned (OpenSpec.ofChange diskNilWrong)

/-- 'almonerlaw03.DiskCopies': WHATEVER THE INPUT: true; the input reads as it did. -/
def diskCopiesSpec : ChangeSpec := { name := "diskCopies", fn := fun _ => fun
  | [d1, d2, d3] => { results := [.lit (.bool true)], args := [d1, d2, d3] }
  | _ => none }
def diskCopiesRow : OpenClaim := { program := "ytdinnkacilgmmaa", sum := "ddf8ffe139a6e7cd9d6481a1137fbac16920261c1d662f5b146533034e56a8cf", func := "almoner/almonerlaw03.DiskCopies", spec := "diskCopies", apart := false }
def DiskCopiesSaid : Prop := diskCopiesRow.holds Try.pinned (OpenSpec.ofChange diskCopiesSpec)

/-- ITS FALSE NEIGHBOUR: 'it returns false'. Refute it at one input. -/
def diskCopiesWrong : ChangeSpec := { name := "diskCopies", fn := fun _ => fun
  | [d1, d2, d3] => { results := [.lit (.bool false)], args := [d1, d2, d3] }
  | _ => none }
def DiskCopiesWrongFalsely : Prop := diskCopiesRow.holds Try.pinned (OpenSpec.ofChange diskCopiesWrong)

/-- 'almonerlaw04.JournalAgain': WHATEVER THE INPUT: true; the input reads as it did. -/
def journalAgainSpec : ChangeSpec := { name := "journalAgain", fn := fun _ => fun
  | [d1, d2, d3] => { results := [.lit (.bool true)], args := [d1, d2, d3] }
  | _ => none }
def journalAgainRow : OpenClaim := { program := "ytdinnkacilgmmaa", sum := "ddf8ffe139a6e7cd9d6481a1137fbac16920261c1d662f5b146533034e56a8cf", func := "almoner/almonerlaw04.JournalAgain", spec := "journalAgain", unfollowed := true, recurses := true, apart := false }
def JournalAgainSaid : Prop := journalAgainRow.holds Try.pinned (OpenSpec.ofChange journalAgainSpec)

/-- ITS FALSE NEIGHBOUR: 'it returns false'. Refute it at one input. -/
def journalAgainWrong : ChangeSpec := { name := "journalAgain", fn := fun _ => fun
  | [d1, d2, d3] => { results := [.lit (.bool false)], args := [d1, d2, d3] }
  | _ => none }
def JournalAgainWrongFalsely : Prop := journalAgainRow.holds Try.pinned (OpenSpec.ofChange journalAgainWrong)

/-- 'almonerlaw04.JournalRooms': WHATEVER THE INPUT: true; the input reads as it did. -/
def journalRoomsSpec : ChangeSpec := { name := "journalRooms", fn := fun _ => fun
  | [d1, d2] => { results := [.lit (.bool true)], args := [d1, d2] }
  | _ => none }
def journalRoomsRow : OpenClaim := { program := "ytdinnkacilgmmaa", sum := "ddf8ffe139a6e7cd9d6481a1137fbac16920261c1d662f5b146533034e56a8cf", func := "almoner/almonerlaw04.JournalRooms", spec := "journalRooms", unfollowed := true, recurses := true, apart := false }
def JournalRoomsSaid : Prop := journalRoomsRow.holds Try.pinned (OpenSpec.ofChange journalRoomsSpec)

/-- ITS FALSE NEIGHBOUR: 'it returns false'. Refute it at one input. -/
def journalRoomsWrong : ChangeSpec := { name := "journalRooms", fn := fun _ => fun
  | [d1, d2] => { results := [.lit (.bool false)], args := [d1, d2] }
  | _ => none }
def JournalRoomsWrongFalsely : Prop := journalRoomsRow.holds Try.pinned (OpenSpec.ofChange journalRoomsWrong)

/-- 'almonerlaw04.JournalLaps': WHATEVER THE INPUT: true; the input reads as it did. -/
def journalLapsSpec : ChangeSpec := { name := "journalLaps", fn := fun _ => fun
  | [d1, d2] => { results := [.lit (.bool true)], args := [d1, d2] }
  | _ => none }
def journalLapsRow : OpenClaim := { program := "ytdinnkacilgmmaa", sum := "ddf8ffe139a6e7cd9d6481a1137fbac16920261c1d662f5b146533034e56a8cf", func := "almoner/almonerlaw04.JournalLaps", spec := "journalLaps", unfollowed := true, recurses := true, apart := false }
def JournalLapsSaid : Prop := journalLapsRow.holds Try.pinned (OpenSpec.ofChange journalLapsSpec)

/-- ITS FALSE NEIGHBOUR: 'it returns false'. Refute it at one input. -/
def journalLapsWrong : ChangeSpec := { name := "journalLaps", fn := fun _ => fun
  | [d1, d2] => { results := [.lit (.bool false)], args := [d1, d2] }
  | _ => none }
def JournalLapsWrongFalsely : Prop := journalLapsRow.holds Try.pinned (OpenSpec.ofChange journalLapsWrong)

/-- 'almonerlaw04.JournalNil': WHATEVER THE INPUT: true; the input reads as it did. -/
def journalNilSpec : ChangeSpec := { name := "journalNil", fn := fun _ => fun
  | [d1, d2] => { results := [.lit (.bool true)], args := [d1, d2] }
  | _ => none }
def journalNilRow : OpenClaim := { program := "ytdinnkacilgmmaa", sum := "ddf8ffe139a6e7cd9d6481a1137fbac16920261c1d662f5b146533034e56a8cf", func := "almoner/almonerlaw04.JournalNil", spec := "journalNil", unfollowed := true, recurses := true, apart := false }
def JournalNilSaid : Prop := journalNilRow.holds Try.pinned (OpenSpec.ofChange journalNilSpec)

/-- ITS FALSE NEIGHBOUR: 'it returns false'. Refute it at one input. -/
def journalNilWrong : ChangeSpec := { name := "journalNil", fn := fun _ => fun
  | [d1, d2] => { results := [.lit (.bool false)], args := [d1, d2] }
  | _ => none }
def JournalNilWrongFalsely : Prop := journalNilRow.holds Try.pinned (OpenSpec.ofChange journalNilWrong)

/-- 'almonerlaw04.JournalLasts': WHATEVER THE INPUT: true; the input reads as it did. -/
def journalLastsSpec : ChangeSpec := { name := "journalLasts", fn := fun _ => fun
  | [d] => { results := [.lit (.bool true)], args := [d] }
  | _ => none }
def journalLastsRow : OpenClaim := { program := "ytdinnkacilgmmaa", sum := "ddf8ffe139a6e7cd9d6481a1137fbac16920261c1d662f5b146533034e56a8cf", func := "almoner/almonerlaw04.JournalLasts", spec := "journalLasts", unfollowed := true, recurses := true, apart := false }
def JournalLastsSaid : Prop := journalLastsRow.holds Try.pinned (OpenSpec.ofChange journalLastsSpec)

/-- ITS FALSE NEIGHBOUR: 'it returns false'. Refute it at one input. -/
def journalLastsWrong : ChangeSpec := { name := "journalLasts", fn := fun _ => fun
  | [d] => { results := [.lit (.bool false)], args := [d] }
  | _ => none }
def JournalLastsWrongFalsely : Prop := journalLastsRow.holds Try.pinned (OpenSpec.ofChange journalLastsWrong)

/-- 'almonerlaw05.PagerSteady': WHATEVER THE INPUT: true; the input reads as it did. -/
def pagerSteadySpec : ChangeSpec := { name := "pagerSteady", fn := fun _ => fun
  | [d1, d2] => { results := [.lit (.bool true)], args := [d1, d2] }
  | _ => none }
def pagerSteadyRow : OpenClaim := { program := "ytdinnkacilgmmaa", sum := "ddf8ffe139a6e7cd9d6481a1137fbac16920261c1d662f5b146533034e56a8cf", func := "almoner/almonerlaw05.PagerSteady", spec := "pagerSteady", unfollowed := true, recurses := true, apart := false }
def PagerSteadySaid : Prop := pagerSteadyRow.holds Try.pinned (OpenSpec.ofChange pagerSteadySpec)

/-- ITS FALSE NEIGHBOUR: 'it returns false'. Refute it at one input. -/
def pagerSteadyWrong : ChangeSpec := { name := "pagerSteady", fn := fun _ => fun
  | [d1, d2] => { results := [.lit (.bool false)], args := [d1, d2] }
  | _ => none }
def PagerSteadyWrongFalsely : Prop := pagerSteadyRow.holds Try.pinned (OpenSpec.ofChange pagerSteadyWrong)

/-- 'almonerlaw05.PagerFlips': WHATEVER THE INPUT: true; the input reads as it did. -/
def pagerFlipsSpec : ChangeSpec := { name := "pagerFlips", fn := fun _ => fun
  | [d1, d2] => { results := [.lit (.bool true)], args := [d1, d2] }
  | _ => none }
def pagerFlipsRow : OpenClaim := { program := "ytdinnkacilgmmaa", sum := "ddf8ffe139a6e7cd9d6481a1137fbac16920261c1d662f5b146533034e56a8cf", func := "almoner/almonerlaw05.PagerFlips", spec := "pagerFlips", unfollowed := true, recurses := true, apart := false }
def PagerFlipsSaid : Prop := pagerFlipsRow.holds Try.pinned (OpenSpec.ofChange pagerFlipsSpec)

/-- ITS FALSE NEIGHBOUR: 'it returns false'. Refute it at one input. -/
def pagerFlipsWrong : ChangeSpec := { name := "pagerFlips", fn := fun _ => fun
  | [d1, d2] => { results := [.lit (.bool false)], args := [d1, d2] }
  | _ => none }
def PagerFlipsWrongFalsely : Prop := pagerFlipsRow.holds Try.pinned (OpenSpec.ofChange pagerFlipsWrong)

/-- 'almonerlaw05.PagerCounts': WHATEVER THE INPUT: true; the input reads as it did. -/
def pagerCountsSpec : ChangeSpec := { name := "pagerCounts", fn := fun _ => fun
  | [d1, d2] => { results := [.lit (.bool true)], args := [d1, d2] }
  | _ => none }
def pagerCountsRow : OpenClaim := { program := "ytdinnkacilgmmaa", sum := "ddf8ffe139a6e7cd9d6481a1137fbac16920261c1d662f5b146533034e56a8cf", func := "almoner/almonerlaw05.PagerCounts", spec := "pagerCounts", unfollowed := true, recurses := true, apart := false }
def PagerCountsSaid : Prop := pagerCountsRow.holds Try.pinned (OpenSpec.ofChange pagerCountsSpec)

/-- ITS FALSE NEIGHBOUR: 'it returns false'. Refute it at one input. -/
def pagerCountsWrong : ChangeSpec := { name := "pagerCounts", fn := fun _ => fun
  | [d1, d2] => { results := [.lit (.bool false)], args := [d1, d2] }
  | _ => none }
def PagerCountsWrongFalsely : Prop := pagerCountsRow.holds Try.pinned (OpenSpec.ofChange pagerCountsWrong)

/-- 'almonerlaw05.PagerNil': WHATEVER THE INPUT: true; the input reads as it did. -/
def pagerNilSpec : ChangeSpec := { name := "pagerNil", fn := fun _ => fun
  | [d1, d2] => { results := [.lit (.bool true)], args := [d1, d2] }
  | _ => none }
def pagerNilRow : OpenClaim := { program := "ytdinnkacilgmmaa", sum := "ddf8ffe139a6e7cd9d6481a1137fbac16920261c1d662f5b146533034e56a8cf", func := "almoner/almonerlaw05.PagerNil", spec := "pagerNil", unfollowed := true, recurses := true, apart := false }
def PagerNilSaid : Prop := pagerNilRow.holds Try.pinned (OpenSpec.ofChange pagerNilSpec)

/-- ITS FALSE NEIGHBOUR: 'it returns false'. Refute it at one input. -/
def pagerNilWrong : ChangeSpec := { name := "pagerNil", fn := fun _ => fun
  | [d1, d2] => { results := [.lit (.bool false)], args := [d1, d2] }
  | _ => none }
def PagerNilWrongFalsely : Prop := pagerNilRow.holds Try.pinned (OpenSpec.ofChange pagerNilWrong)

/-- 'almonerlaw05.PagerPlays': WHATEVER THE INPUT: true; the input reads as it did. -/
def pagerPlaysSpec : ChangeSpec := { name := "pagerPlays", fn := fun _ => fun
  | [d1, d2, d3, d4] => { results := [.lit (.bool true)], args := [d1, d2, d3, d4] }
  | _ => none }
def pagerPlaysRow : OpenClaim := { program := "ytdinnkacilgmmaa", sum := "ddf8ffe139a6e7cd9d6481a1137fbac16920261c1d662f5b146533034e56a8cf", func := "almoner/almonerlaw05.PagerPlays", spec := "pagerPlays", unfollowed := true, recurses := true, apart := false }
def PagerPlaysSaid : Prop := pagerPlaysRow.holds Try.pinned (OpenSpec.ofChange pagerPlaysSpec)

/-- ITS FALSE NEIGHBOUR: 'it returns false'. Refute it at one input. -/
def pagerPlaysWrong : ChangeSpec := { name := "pagerPlays", fn := fun _ => fun
  | [d1, d2, d3, d4] => { results := [.lit (.bool false)], args := [d1, d2, d3, d4] }
  | _ => none }
def PagerPlaysWrongFalsely : Prop := pagerPlaysRow.holds Try.pinned (OpenSpec.ofChange pagerPlaysWrong)

/- THE SECOND FORM. 'bulk': how many values and letters a reading holds, each counted each time it is reached (what is shared counts as often as it is met; a slice's spare places count too). A statement '..UptoSaid' is the law's where the arguments, and the package variables that the reading takes, are together of bulk at most 1048576: NARROWER than '..Said'. Prove '..Said' where nothing that the law and all that it calls make is longer than what came in: it says more and counts as full. Else prove '..UptoSaid'. A law counts once. -/
mutual
def uptoBulk {H : Type} : DataW H → Nat
  | .lit (.string bytes) => bytes.length + 1
  | .lit _ => 1
  | .nil => 1
  | .ptr d => uptoBulk d + 1
  | .slice elems spare => uptoBulkAll elems + uptoBulkAll spare + 1
  | .agg parts => uptoBulkAll parts + 1
  | .iface _ d => uptoBulk d + 1
  | .map entries => uptoBulkEntries entries + 1
  | .held _ => 1
def uptoBulkAll {H : Type} : List (DataW H) → Nat
  | [] => 0
  | d :: r => uptoBulk d + uptoBulkAll r
def uptoBulkEntries {H : Type} : List (Lit × DataW H) → Nat
  | [] => 0
  | x :: r => uptoBulkEntry x + uptoBulkEntries r
def uptoBulkEntry {H : Type} : Lit × DataW H → Nat
  | (.string bytes, d) => bytes.length + uptoBulk d + 1
  | (_, d) => uptoBulk d + 1
 end
def uptoSmall : (H : Type) → List (DataW H) → Bool := fun _ ds => decide (uptoBulkAll ds ≤ 1048576)
def OpenSpec.upto (s : _root_.Go.ChangeSpec) : _root_.Go.OpenSpec := { _root_.Go.OpenSpec.ofChange s with cond := some uptoSmall }

/-- 'almonerlaw01.CrcTells', WHERE WHAT IT READS IS OF BULK AT MOST 1048576: true; the input reads as it did. -/
def crcTellsUptoRow : OpenClaim := { program := "ytdinnkacilgmmaa", sum := "ddf8ffe139a6e7cd9d6481a1137fbac16920261c1d662f5b146533034e56a8cf", func := "almoner/almonerlaw01.CrcTells", spec := "crcTells", apart := false, narrowed := true }
def CrcTellsUptoSaid : Prop := crcTellsUptoRow.holds Try.pinned (OpenSpec.upto crcTellsSpec)

/-- 'almonerlaw01.CrcAdds', WHERE WHAT IT READS IS OF BULK AT MOST 1048576: true; the input reads as it did. -/
def crcAddsUptoRow : OpenClaim := { program := "ytdinnkacilgmmaa", sum := "ddf8ffe139a6e7cd9d6481a1137fbac16920261c1d662f5b146533034e56a8cf", func := "almoner/almonerlaw01.CrcAdds", spec := "crcAdds", apart := false, narrowed := true }
def CrcAddsUptoSaid : Prop := crcAddsUptoRow.holds Try.pinned (OpenSpec.upto crcAddsSpec)

/-- 'almonerlaw01.CrcSlots', WHERE WHAT IT READS IS OF BULK AT MOST 1048576: true; the input reads as it did. -/
def crcSlotsUptoRow : OpenClaim := { program := "ytdinnkacilgmmaa", sum := "ddf8ffe139a6e7cd9d6481a1137fbac16920261c1d662f5b146533034e56a8cf", func := "almoner/almonerlaw01.CrcSlots", spec := "crcSlots", apart := false, narrowed := true }
def CrcSlotsUptoSaid : Prop := crcSlotsUptoRow.holds Try.pinned (OpenSpec.upto crcSlotsSpec)

/-- 'almonerlaw01.CrcPieces', WHERE WHAT IT READS IS OF BULK AT MOST 1048576: true; the input reads as it did. -/
def crcPiecesUptoRow : OpenClaim := { program := "ytdinnkacilgmmaa", sum := "ddf8ffe139a6e7cd9d6481a1137fbac16920261c1d662f5b146533034e56a8cf", func := "almoner/almonerlaw01.CrcPieces", spec := "crcPieces", unfollowed := true, recurses := true, apart := false, narrowed := true }
def CrcPiecesUptoSaid : Prop := crcPiecesUptoRow.holds Try.pinned (OpenSpec.upto crcPiecesSpec)

/-- 'almonerlaw01.CrcNoughts', WHERE WHAT IT READS IS OF BULK AT MOST 1048576: true; the input reads as it did. -/
def crcNoughtsUptoRow : OpenClaim := { program := "ytdinnkacilgmmaa", sum := "ddf8ffe139a6e7cd9d6481a1137fbac16920261c1d662f5b146533034e56a8cf", func := "almoner/almonerlaw01.CrcNoughts", spec := "crcNoughts", unfollowed := true, recurses := true, apart := false, narrowed := true }
def CrcNoughtsUptoSaid : Prop := crcNoughtsUptoRow.holds Try.pinned (OpenSpec.upto crcNoughtsSpec)

/-- 'almonerlaw03.DiskSafe', WHERE WHAT IT READS IS OF BULK AT MOST 1048576: true; the input reads as it did. -/
def diskSafeUptoRow : OpenClaim := { program := "ytdinnkacilgmmaa", sum := "ddf8ffe139a6e7cd9d6481a1137fbac16920261c1d662f5b146533034e56a8cf", func := "almoner/almonerlaw03.DiskSafe", spec := "diskSafe", apart := false, narrowed := true }
def DiskSafeUptoSaid : Prop := diskSafeUptoRow.holds Try.pinned (OpenSpec.upto diskSafeSpec)

/-- 'almonerlaw03.DiskLoads', WHERE WHAT IT READS IS OF BULK AT MOST 1048576: true; the input reads as it did. -/
def diskLoadsUptoRow : OpenClaim := { program := "ytdinnkacilgmmaa", sum := "ddf8ffe139a6e7cd9d6481a1137fbac16920261c1d662f5b146533034e56a8cf", func := "almoner/almonerlaw03.DiskLoads", spec := "diskLoads", apart := false, narrowed := true }
def DiskLoadsUptoSaid : Prop := diskLoadsUptoRow.holds Try.pinned (OpenSpec.upto diskLoadsSpec)

/-- 'almonerlaw03.DiskFails', WHERE WHAT IT READS IS OF BULK AT MOST 1048576: true; the input reads as it did. -/
def diskFailsUptoRow : OpenClaim := { program := "ytdinnkacilgmmaa", sum := "ddf8ffe139a6e7cd9d6481a1137fbac16920261c1d662f5b146533034e56a8cf", func := "almoner/almonerlaw03.DiskFails", spec := "diskFails", apart := false, narrowed := true }
def DiskFailsUptoSaid : Prop := diskFailsUptoRow.holds Try.pinned (OpenSpec.upto diskFailsSpec)

/-- 'almonerlaw03.DiskSyncs', WHERE WHAT IT READS IS OF BULK AT MOST 1048576: true; the input reads as it did. -/
def diskSyncsUptoRow : OpenClaim := { program := "ytdinnkacilgmmaa", sum := "ddf8ffe139a6e7cd9d6481a1137fbac16920261c1d662f5b146533034e56a8cf", func := "almoner/almonerlaw03.DiskSyncs", spec := "diskSyncs", apart := false, narrowed := true }
def DiskSyncsUptoSaid : Prop := diskSyncsUptoRow.holds Try.pinned (OpenSpec.upto diskSyncsSpec)

/-- 'almonerlaw03.DiskPlays', WHERE WHAT IT READS IS OF BULK AT MOST 1048576: true; the input reads as it did. -/
def diskPlaysUptoRow : OpenClaim := { program := "ytdinnkacilgmmaa", sum := "ddf8ffe139a6e7cd9d6481a1137fbac16920261c1d662f5b146533034e56a8cf", func := "almoner/almonerlaw03.DiskPlays", spec := "diskPlays", apart := false, narrowed := true }
def DiskPlaysUptoSaid : Prop := diskPlaysUptoRow.holds Try.pinned (OpenSpec.upto diskPlaysSpec)

/-- 'almonerlaw03.DiskNil', WHERE WHAT IT READS IS OF BULK AT MOST 1048576: true; the input reads as it did. -/
def diskNilUptoRow : OpenClaim := { program := "ytdinnkacilgmmaa", sum := "ddf8ffe139a6e7cd9d6481a1137fbac16920261c1d662f5b146533034e56a8cf", func := "almoner/almonerlaw03.DiskNil", spec := "diskNil", apart := false, narrowed := true }
def DiskNilUptoSaid : Prop := diskNilUptoRow.holds Try.pinned (OpenSpec.upto diskNilSpec)

/-- 'almonerlaw03.DiskCopies', WHERE WHAT IT READS IS OF BULK AT MOST 1048576: true; the input reads as it did. -/
def diskCopiesUptoRow : OpenClaim := { program := "ytdinnkacilgmmaa", sum := "ddf8ffe139a6e7cd9d6481a1137fbac16920261c1d662f5b146533034e56a8cf", func := "almoner/almonerlaw03.DiskCopies", spec := "diskCopies", apart := false, narrowed := true }
def DiskCopiesUptoSaid : Prop := diskCopiesUptoRow.holds Try.pinned (OpenSpec.upto diskCopiesSpec)

/-- 'almonerlaw04.JournalAgain', WHERE WHAT IT READS IS OF BULK AT MOST 1048576: true; the input reads as it did. -/
def journalAgainUptoRow : OpenClaim := { program := "ytdinnkacilgmmaa", sum := "ddf8ffe139a6e7cd9d6481a1137fbac16920261c1d662f5b146533034e56a8cf", func := "almoner/almonerlaw04.JournalAgain", spec := "journalAgain", unfollowed := true, recurses := true, apart := false, narrowed := true }
def JournalAgainUptoSaid : Prop := journalAgainUptoRow.holds Try.pinned (OpenSpec.upto journalAgainSpec)

/-- 'almonerlaw04.JournalRooms', WHERE WHAT IT READS IS OF BULK AT MOST 1048576: true; the input reads as it did. -/
def journalRoomsUptoRow : OpenClaim := { program := "ytdinnkacilgmmaa", sum := "ddf8ffe139a6e7cd9d6481a1137fbac16920261c1d662f5b146533034e56a8cf", func := "almoner/almonerlaw04.JournalRooms", spec := "journalRooms", unfollowed := true, recurses := true, apart := false, narrowed := true }
def JournalRoomsUptoSaid : Prop := journalRoomsUptoRow.holds Try.pinned (OpenSpec.upto journalRoomsSpec)

/-- 'almonerlaw04.JournalLaps', WHERE WHAT IT READS IS OF BULK AT MOST 1048576: true; the input reads as it did. -/
def journalLapsUptoRow : OpenClaim := { program := "ytdinnkacilgmmaa", sum := "ddf8ffe139a6e7cd9d6481a1137fbac16920261c1d662f5b146533034e56a8cf", func := "almoner/almonerlaw04.JournalLaps", spec := "journalLaps", unfollowed := true, recurses := true, apart := false, narrowed := true }
def JournalLapsUptoSaid : Prop := journalLapsUptoRow.holds Try.pinned (OpenSpec.upto journalLapsSpec)

/-- 'almonerlaw04.JournalNil', WHERE WHAT IT READS IS OF BULK AT MOST 1048576: true; the input reads as it did. -/
def journalNilUptoRow : OpenClaim := { program := "ytdinnkacilgmmaa", sum := "ddf8ffe139a6e7cd9d6481a1137fbac16920261c1d662f5b146533034e56a8cf", func := "almoner/almonerlaw04.JournalNil", spec := "journalNil", unfollowed := true, recurses := true, apart := false, narrowed := true }
def JournalNilUptoSaid : Prop := journalNilUptoRow.holds Try.pinned (OpenSpec.upto journalNilSpec)

/-- 'almonerlaw04.JournalLasts', WHERE WHAT IT READS IS OF BULK AT MOST 1048576: true; the input reads as it did. -/
def journalLastsUptoRow : OpenClaim := { program := "ytdinnkacilgmmaa", sum := "ddf8ffe139a6e7cd9d6481a1137fbac16920261c1d662f5b146533034e56a8cf", func := "almoner/almonerlaw04.JournalLasts", spec := "journalLasts", unfollowed := true, recurses := true, apart := false, narrowed := true }
def JournalLastsUptoSaid : Prop := journalLastsUptoRow.holds Try.pinned (OpenSpec.upto journalLastsSpec)

/-- 'almonerlaw05.PagerSteady', WHERE WHAT IT READS IS OF BULK AT MOST 1048576: true; the input reads as it did. -/
def pagerSteadyUptoRow : OpenClaim := { program := "ytdinnkacilgmmaa", sum := "ddf8ffe139a6e7cd9d6481a1137fbac16920261c1d662f5b146533034e56a8cf", func := "almoner/almonerlaw05.PagerSteady", spec := "pagerSteady", unfollowed := true, recurses := true, apart := false, narrowed := true }
def PagerSteadyUptoSaid : Prop := pagerSteadyUptoRow.holds Try.pinned (OpenSpec.upto pagerSteadySpec)

/-- 'almonerlaw05.PagerFlips', WHERE WHAT IT READS IS OF BULK AT MOST 1048576: true; the input reads as it did. -/
def pagerFlipsUptoRow : OpenClaim := { program := "ytdinnkacilgmmaa", sum := "ddf8ffe139a6e7cd9d6481a1137fbac16920261c1d662f5b146533034e56a8cf", func := "almoner/almonerlaw05.PagerFlips", spec := "pagerFlips", unfollowed := true, recurses := true, apart := false, narrowed := true }
def PagerFlipsUptoSaid : Prop := pagerFlipsUptoRow.holds Try.pinned (OpenSpec.upto pagerFlipsSpec)

/-- 'almonerlaw05.PagerCounts', WHERE WHAT IT READS IS OF BULK AT MOST 1048576: true; the input reads as it did. -/
def pagerCountsUptoRow : OpenClaim := { program := "ytdinnkacilgmmaa", sum := "ddf8ffe139a6e7cd9d6481a1137fbac16920261c1d662f5b146533034e56a8cf", func := "almoner/almonerlaw05.PagerCounts", spec := "pagerCounts", unfollowed := true, recurses := true, apart := false, narrowed := true }
def PagerCountsUptoSaid : Prop := pagerCountsUptoRow.holds Try.pinned (OpenSpec.upto pagerCountsSpec)

/-- 'almonerlaw05.PagerNil', WHERE WHAT IT READS IS OF BULK AT MOST 1048576: true; the input reads as it did. -/
def pagerNilUptoRow : OpenClaim := { program := "ytdinnkacilgmmaa", sum := "ddf8ffe139a6e7cd9d6481a1137fbac16920261c1d662f5b146533034e56a8cf", func := "almoner/almonerlaw05.PagerNil", spec := "pagerNil", unfollowed := true, recurses := true, apart := false, narrowed := true }
def PagerNilUptoSaid : Prop := pagerNilUptoRow.holds Try.pinned (OpenSpec.upto pagerNilSpec)

/-- 'almonerlaw05.PagerPlays', WHERE WHAT IT READS IS OF BULK AT MOST 1048576: true; the input reads as it did. -/
def pagerPlaysUptoRow : OpenClaim := { program := "ytdinnkacilgmmaa", sum := "ddf8ffe139a6e7cd9d6481a1137fbac16920261c1d662f5b146533034e56a8cf", func := "almoner/almonerlaw05.PagerPlays", spec := "pagerPlays", unfollowed := true, recurses := true, apart := false, narrowed := true }
def PagerPlaysUptoSaid : Prop := pagerPlaysUptoRow.holds Try.pinned (OpenSpec.upto pagerPlaysSpec)

end Rows
end Go.Proofs.Ytdinnkacilgmmaa
