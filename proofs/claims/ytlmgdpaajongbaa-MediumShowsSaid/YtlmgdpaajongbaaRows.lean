/-
  No cell of these rows narrows 'for every input' (looked for: loops, veiled, ifaces, maps, wideKeys, modest, calm, conditions, laid).
  DERIVED. THE GIVEN ROWS OF THIS SEAT. 11 by the template 'for every input the law returns true; each argument reads behind the call as it read before'; 0 by the template 'total and deterministic' (their statements: YtlmgdpaajongbaaTotals.lean).
  GIVEN WITH THE SEED: the statements are not yours to turn. If you find one false, say at which input.
  Laid BY PROGRAM, IN A SANDBOX (cutbox-rows.mjs): the forced cells as the released guide's own fill.sh prints them over the translation 324a12333d6c2864… (all of the seat's roots in one cut). By AI agents, Wed Nov 11 2026. No macro, syntax, notation, axiom, sorry.
-/
import Derived.Test.YtlmgdpaajongbaaChecked
import GoSem.Claim
import GoSem.ClaimJoined
import GoSem.ClaimMapViews
import Derived.JoinedTies
import Derived.KernelRfl
namespace Go.Proofs.Ytlmgdpaajongbaa
/- THE CELL 'sum', in the pinned program and in every row, IS THE sha256 OF THE DUMP (.gsa) THAT YtlmgdpaajongbaaProg.lean LOADS. Nothing in Lean hashes anything: it is a label: what it is worth is what the hold of that sum in a sandbox is worth. -/
noncomputable def Try.pinned : Pinned := { name := "ytlmgdpaajongbaa", sum := "324a12333d6c286426595cc5192550ee21d541fc3070f1bbaa5592abf623ceb6", checked := Try.checked }
namespace Rows
def none {H : Type} : Left H := { results := [], args := [] }

/-- 'largesselaw13.MediumSure': WHATEVER THE INPUT: true; the input reads as it did. -/
def mediumSureSpec : ChangeSpec := { name := "mediumSure", fn := fun _ => fun
  | [d1, d2] => { results := [.lit (.bool true)], args := [d1, d2] }
  | _ => none }
def mediumSureRow : OpenClaim := { program := "ytlmgdpaajongbaa", sum := "324a12333d6c286426595cc5192550ee21d541fc3070f1bbaa5592abf623ceb6", func := "largesse/largesselaw13.MediumSure", spec := "mediumSure", unfollowed := true, recurses := true, apart := false }
def MediumSureSaid : Prop := mediumSureRow.holds Try.pinned (OpenSpec.ofChange mediumSureSpec)

/-- ITS FALSE NEIGHBOUR: 'it returns false'. Refute it at one input. -/
def mediumSureWrong : ChangeSpec := { name := "mediumSure", fn := fun _ => fun
  | [d1, d2] => { results := [.lit (.bool false)], args := [d1, d2] }
  | _ => none }
def MediumSureWrongFalsely : Prop := mediumSureRow.holds Try.pinned (OpenSpec.ofChange mediumSureWrong)

/-- 'largesselaw13.MediumShows': WHATEVER THE INPUT: true; the input reads as it did. -/
def mediumShowsSpec : ChangeSpec := { name := "mediumShows", fn := fun _ => fun
  | [d1, d2, d3] => { results := [.lit (.bool true)], args := [d1, d2, d3] }
  | _ => none }
def mediumShowsRow : OpenClaim := { program := "ytlmgdpaajongbaa", sum := "324a12333d6c286426595cc5192550ee21d541fc3070f1bbaa5592abf623ceb6", func := "largesse/largesselaw13.MediumShows", spec := "mediumShows", unfollowed := true, recurses := true, apart := false }
def MediumShowsSaid : Prop := mediumShowsRow.holds Try.pinned (OpenSpec.ofChange mediumShowsSpec)

/-- ITS FALSE NEIGHBOUR: 'it returns false'. Refute it at one input. -/
def mediumShowsWrong : ChangeSpec := { name := "mediumShows", fn := fun _ => fun
  | [d1, d2, d3] => { results := [.lit (.bool false)], args := [d1, d2, d3] }
  | _ => none }
def MediumShowsWrongFalsely : Prop := mediumShowsRow.holds Try.pinned (OpenSpec.ofChange mediumShowsWrong)

/-- 'largesselaw13.MediumPlays': WHATEVER THE INPUT: true; the input reads as it did. -/
def mediumPlaysSpec : ChangeSpec := { name := "mediumPlays", fn := fun _ => fun
  | [d1, d2, d3] => { results := [.lit (.bool true)], args := [d1, d2, d3] }
  | _ => none }
def mediumPlaysRow : OpenClaim := { program := "ytlmgdpaajongbaa", sum := "324a12333d6c286426595cc5192550ee21d541fc3070f1bbaa5592abf623ceb6", func := "largesse/largesselaw13.MediumPlays", spec := "mediumPlays", unfollowed := true, recurses := true, apart := false }
def MediumPlaysSaid : Prop := mediumPlaysRow.holds Try.pinned (OpenSpec.ofChange mediumPlaysSpec)

/-- ITS FALSE NEIGHBOUR: 'it returns false'. Refute it at one input. -/
def mediumPlaysWrong : ChangeSpec := { name := "mediumPlays", fn := fun _ => fun
  | [d1, d2, d3] => { results := [.lit (.bool false)], args := [d1, d2, d3] }
  | _ => none }
def MediumPlaysWrongFalsely : Prop := mediumPlaysRow.holds Try.pinned (OpenSpec.ofChange mediumPlaysWrong)

/-- 'largesselaw13.MediumApart': WHATEVER THE INPUT: true; the input reads as it did. -/
def mediumApartSpec : ChangeSpec := { name := "mediumApart", fn := fun _ => fun
  | [d1, d2, d3] => { results := [.lit (.bool true)], args := [d1, d2, d3] }
  | _ => none }
def mediumApartRow : OpenClaim := { program := "ytlmgdpaajongbaa", sum := "324a12333d6c286426595cc5192550ee21d541fc3070f1bbaa5592abf623ceb6", func := "largesse/largesselaw13.MediumApart", spec := "mediumApart", unfollowed := true, recurses := true, apart := false }
def MediumApartSaid : Prop := mediumApartRow.holds Try.pinned (OpenSpec.ofChange mediumApartSpec)

/-- ITS FALSE NEIGHBOUR: 'it returns false'. Refute it at one input. -/
def mediumApartWrong : ChangeSpec := { name := "mediumApart", fn := fun _ => fun
  | [d1, d2, d3] => { results := [.lit (.bool false)], args := [d1, d2, d3] }
  | _ => none }
def MediumApartWrongFalsely : Prop := mediumApartRow.holds Try.pinned (OpenSpec.ofChange mediumApartWrong)

/-- 'largesselaw14.SectorSupers': WHATEVER THE INPUT: true; the input reads as it did. -/
def sectorSupersSpec : ChangeSpec := { name := "sectorSupers", fn := fun _ => fun
  | [d1, d2, d3, d4] => { results := [.lit (.bool true)], args := [d1, d2, d3, d4] }
  | _ => none }
def sectorSupersRow : OpenClaim := { program := "ytlmgdpaajongbaa", sum := "324a12333d6c286426595cc5192550ee21d541fc3070f1bbaa5592abf623ceb6", func := "largesse/largesselaw14.SectorSupers", spec := "sectorSupers", unfollowed := true, recurses := true, apart := false }
def SectorSupersSaid : Prop := sectorSupersRow.holds Try.pinned (OpenSpec.ofChange sectorSupersSpec)

/-- ITS FALSE NEIGHBOUR: 'it returns false'. Refute it at one input. -/
def sectorSupersWrong : ChangeSpec := { name := "sectorSupers", fn := fun _ => fun
  | [d1, d2, d3, d4] => { results := [.lit (.bool false)], args := [d1, d2, d3, d4] }
  | _ => none }
def SectorSupersWrongFalsely : Prop := sectorSupersRow.holds Try.pinned (OpenSpec.ofChange sectorSupersWrong)

/-- 'largesselaw14.SectorKinds': WHATEVER THE INPUT: true; the input reads as it did. -/
def sectorKindsSpec : ChangeSpec := { name := "sectorKinds", fn := fun _ => fun
  | [d1, d2] => { results := [.lit (.bool true)], args := [d1, d2] }
  | _ => none }
def sectorKindsRow : OpenClaim := { program := "ytlmgdpaajongbaa", sum := "324a12333d6c286426595cc5192550ee21d541fc3070f1bbaa5592abf623ceb6", func := "largesse/largesselaw14.SectorKinds", spec := "sectorKinds", unfollowed := true, recurses := true, apart := false }
def SectorKindsSaid : Prop := sectorKindsRow.holds Try.pinned (OpenSpec.ofChange sectorKindsSpec)

/-- ITS FALSE NEIGHBOUR: 'it returns false'. Refute it at one input. -/
def sectorKindsWrong : ChangeSpec := { name := "sectorKinds", fn := fun _ => fun
  | [d1, d2] => { results := [.lit (.bool false)], args := [d1, d2] }
  | _ => none }
def SectorKindsWrongFalsely : Prop := sectorKindsRow.holds Try.pinned (OpenSpec.ofChange sectorKindsWrong)

/-- 'largesselaw15.JournalCrashes': WHATEVER THE INPUT: true; the input reads as it did. -/
def journalCrashesSpec : ChangeSpec := { name := "journalCrashes", fn := fun _ => fun
  | [d1, d2, d3, d4] => { results := [.lit (.bool true)], args := [d1, d2, d3, d4] }
  | _ => none }
def journalCrashesRow : OpenClaim := { program := "ytlmgdpaajongbaa", sum := "324a12333d6c286426595cc5192550ee21d541fc3070f1bbaa5592abf623ceb6", func := "largesse/largesselaw15.JournalCrashes", spec := "journalCrashes", unfollowed := true, recurses := true, apart := false }
def JournalCrashesSaid : Prop := journalCrashesRow.holds Try.pinned (OpenSpec.ofChange journalCrashesSpec)

/-- ITS FALSE NEIGHBOUR: 'it returns false'. Refute it at one input. -/
def journalCrashesWrong : ChangeSpec := { name := "journalCrashes", fn := fun _ => fun
  | [d1, d2, d3, d4] => { results := [.lit (.bool false)], args := [d1, d2, d3, d4] }
  | _ => none }
def JournalCrashesWrongFalsely : Prop := journalCrashesRow.holds Try.pinned (OpenSpec.ofChange journalCrashesWrong)

/-- 'largesselaw15.JournalForms': WHATEVER THE INPUT: true; the input reads as it did. -/
def journalFormsSpec : ChangeSpec := { name := "journalForms", fn := fun _ => fun
  | [d1, d2, d3, d4] => { results := [.lit (.bool true)], args := [d1, d2, d3, d4] }
  | _ => none }
def journalFormsRow : OpenClaim := { program := "ytlmgdpaajongbaa", sum := "324a12333d6c286426595cc5192550ee21d541fc3070f1bbaa5592abf623ceb6", func := "largesse/largesselaw15.JournalForms", spec := "journalForms", unfollowed := true, recurses := true, apart := false }
def JournalFormsSaid : Prop := journalFormsRow.holds Try.pinned (OpenSpec.ofChange journalFormsSpec)

/-- ITS FALSE NEIGHBOUR: 'it returns false'. Refute it at one input. -/
def journalFormsWrong : ChangeSpec := { name := "journalForms", fn := fun _ => fun
  | [d1, d2, d3, d4] => { results := [.lit (.bool false)], args := [d1, d2, d3, d4] }
  | _ => none }
def JournalFormsWrongFalsely : Prop := journalFormsRow.holds Try.pinned (OpenSpec.ofChange journalFormsWrong)

/-- 'largesselaw16.CrewMeets': WHATEVER THE INPUT: true; the input reads as it did. -/
def crewMeetsSpec : ChangeSpec := { name := "crewMeets", fn := fun _ => fun
  | [d1, d2, d3, d4] => { results := [.lit (.bool true)], args := [d1, d2, d3, d4] }
  | _ => none }
def crewMeetsRow : OpenClaim := { program := "ytlmgdpaajongbaa", sum := "324a12333d6c286426595cc5192550ee21d541fc3070f1bbaa5592abf623ceb6", func := "largesse/largesselaw16.CrewMeets", spec := "crewMeets", unfollowed := true, recurses := true, apart := false }
def CrewMeetsSaid : Prop := crewMeetsRow.holds Try.pinned (OpenSpec.ofChange crewMeetsSpec)

/-- ITS FALSE NEIGHBOUR: 'it returns false'. Refute it at one input. -/
def crewMeetsWrong : ChangeSpec := { name := "crewMeets", fn := fun _ => fun
  | [d1, d2, d3, d4] => { results := [.lit (.bool false)], args := [d1, d2, d3, d4] }
  | _ => none }
def CrewMeetsWrongFalsely : Prop := crewMeetsRow.holds Try.pinned (OpenSpec.ofChange crewMeetsWrong)

/-- 'largesselaw16.CrewTurns': WHATEVER THE INPUT: true; the input reads as it did. -/
def crewTurnsSpec : ChangeSpec := { name := "crewTurns", fn := fun _ => fun
  | [d1, d2] => { results := [.lit (.bool true)], args := [d1, d2] }
  | _ => none }
def crewTurnsRow : OpenClaim := { program := "ytlmgdpaajongbaa", sum := "324a12333d6c286426595cc5192550ee21d541fc3070f1bbaa5592abf623ceb6", func := "largesse/largesselaw16.CrewTurns", spec := "crewTurns", unfollowed := true, recurses := true, apart := false }
def CrewTurnsSaid : Prop := crewTurnsRow.holds Try.pinned (OpenSpec.ofChange crewTurnsSpec)

/-- ITS FALSE NEIGHBOUR: 'it returns false'. Refute it at one input. -/
def crewTurnsWrong : ChangeSpec := { name := "crewTurns", fn := fun _ => fun
  | [d1, d2] => { results := [.lit (.bool false)], args := [d1, d2] }
  | _ => none }
def CrewTurnsWrongFalsely : Prop := crewTurnsRow.holds Try.pinned (OpenSpec.ofChange crewTurnsWrong)

/-- 'largesselaw15.JournalGoes': WHATEVER THE INPUT: true; the input reads as it did. -/
def journalGoesSpec : ChangeSpec := { name := "journalGoes", fn := fun _ => fun
  | [d1, d2, d3] => { results := [.lit (.bool true)], args := [d1, d2, d3] }
  | _ => none }
def journalGoesRow : OpenClaim := { program := "ytlmgdpaajongbaa", sum := "324a12333d6c286426595cc5192550ee21d541fc3070f1bbaa5592abf623ceb6", func := "largesse/largesselaw15.JournalGoes", spec := "journalGoes", unfollowed := true, recurses := true, apart := false }
def JournalGoesSaid : Prop := journalGoesRow.holds Try.pinned (OpenSpec.ofChange journalGoesSpec)

/-- ITS FALSE NEIGHBOUR: 'it returns false'. Refute it at one input. -/
def journalGoesWrong : ChangeSpec := { name := "journalGoes", fn := fun _ => fun
  | [d1, d2, d3] => { results := [.lit (.bool false)], args := [d1, d2, d3] }
  | _ => none }
def JournalGoesWrongFalsely : Prop := journalGoesRow.holds Try.pinned (OpenSpec.ofChange journalGoesWrong)

/- THE SECOND FORM. 'bulk': how many values and letters a reading holds, each counted each time it is reached (what is shared counts as often as it is met; a slice's spare places count too). A statement '..UptoSaid' is the law's where the arguments, and the package variables that the reading takes, are together of bulk at most 1048576: NARROWER than '..Said'. Prove '..Said' where nothing that the law and all that it calls make is longer than what came in: it says more and counts as full. Else prove '..UptoSaid'. A law counts once. -/
mutual
def uptoBulk {H : Type} : DataW H → Nat
  | .lit (.string bytes) => bytes.length + 1
  | .lit _ => 1
  | .nil => 1
  | .ptr d => uptoBulk d + 1
  | .slice elems spare => uptoBulkAll elems + uptoBulkAll spare + 1
  | .agg parts => uptoBulkAll parts + 1
  | .iface _ d => uptoBulk d + 1
  | .map entries => uptoBulkEntries entries + 1
  | .held _ => 1
def uptoBulkAll {H : Type} : List (DataW H) → Nat
  | [] => 0
  | d :: r => uptoBulk d + uptoBulkAll r
def uptoBulkEntries {H : Type} : List (Lit × DataW H) → Nat
  | [] => 0
  | x :: r => uptoBulkEntry x + uptoBulkEntries r
def uptoBulkEntry {H : Type} : Lit × DataW H → Nat
  | (.string bytes, d) => bytes.length + uptoBulk d + 1
  | (_, d) => uptoBulk d + 1
 end
def uptoSmall : (H : Type) → List (DataW H) → Bool := fun _ ds => decide (uptoBulkAll ds ≤ 1048576)
def OpenSpec.upto (s : _root_.Go.ChangeSpec) : _root_.Go.OpenSpec := { _root_.Go.OpenSpec.ofChange s with cond := some uptoSmall }

/-- 'largesselaw13.MediumSure', WHERE WHAT IT READS IS OF BULK AT MOST 1048576: true; the input reads as it did. -/
def mediumSureUptoRow : OpenClaim := { program := "ytlmgdpaajongbaa", sum := "324a12333d6c286426595cc5192550ee21d541fc3070f1bbaa5592abf623ceb6", func := "largesse/largesselaw13.MediumSure", spec := "mediumSure", unfollowed := true, recurses := true, apart := false, narrowed := true }
def MediumSureUptoSaid : Prop := mediumSureUptoRow.holds Try.pinned (OpenSpec.upto mediumSureSpec)

/-- 'largesselaw13.MediumShows', WHERE WHAT IT READS IS OF BULK AT MOST 1048576: true; the input reads as it did. -/
def mediumShowsUptoRow : OpenClaim := { program := "ytlmgdpaajongbaa", sum := "324a12333d6c286426595cc5192550ee21d541fc3070f1bbaa5592abf623ceb6", func := "largesse/largesselaw13.MediumShows", spec := "mediumShows", unfollowed := true, recurses := true, apart := false, narrowed := true }
def MediumShowsUptoSaid : Prop := mediumShowsUptoRow.holds Try.pinned (OpenSpec.upto mediumShowsSpec)

/-- 'largesselaw13.MediumPlays', WHERE WHAT IT READS IS OF BULK AT MOST 1048576: true; the input reads as it did. -/
def mediumPlaysUptoRow : OpenClaim := { program := "ytlmgdpaajongbaa", sum := "324a12333d6c286426595cc5192550ee21d541fc3070f1bbaa5592abf623ceb6", func := "largesse/largesselaw13.MediumPlays", spec := "mediumPlays", unfollowed := true, recurses := true, apart := false, narrowed := true }
def MediumPlaysUptoSaid : Prop := mediumPlaysUptoRow.holds Try.pinned (OpenSpec.upto mediumPlaysSpec)

/-- 'largesselaw13.MediumApart', WHERE WHAT IT READS IS OF BULK AT MOST 1048576: true; the input reads as it did. -/
def mediumApartUptoRow : OpenClaim := { program := "ytlmgdpaajongbaa", sum := "324a12333d6c286426595cc5192550ee21d541fc3070f1bbaa5592abf623ceb6", func := "largesse/largesselaw13.MediumApart", spec := "mediumApart", unfollowed := true, recurses := true, apart := false, narrowed := true }
def MediumApartUptoSaid : Prop := mediumApartUptoRow.holds Try.pinned (OpenSpec.upto mediumApartSpec)

/-- 'largesselaw14.SectorSupers', WHERE WHAT IT READS IS OF BULK AT MOST 1048576: true; the input reads as it did. -/
def sectorSupersUptoRow : OpenClaim := { program := "ytlmgdpaajongbaa", sum := "324a12333d6c286426595cc5192550ee21d541fc3070f1bbaa5592abf623ceb6", func := "largesse/largesselaw14.SectorSupers", spec := "sectorSupers", unfollowed := true, recurses := true, apart := false, narrowed := true }
def SectorSupersUptoSaid : Prop := sectorSupersUptoRow.holds Try.pinned (OpenSpec.upto sectorSupersSpec)

/-- 'largesselaw14.SectorKinds', WHERE WHAT IT READS IS OF BULK AT MOST 1048576: true; the input reads as it did. -/
def sectorKindsUptoRow : OpenClaim := { program := "ytlmgdpaajongbaa", sum := "324a12333d6c286426595cc5192550ee21d541fc3070f1bbaa5592abf623ceb6", func := "largesse/largesselaw14.SectorKinds", spec := "sectorKinds", unfollowed := true, recurses := true, apart := false, narrowed := true }
def SectorKindsUptoSaid : Prop := sectorKindsUptoRow.holds Try.pinned (OpenSpec.upto sectorKindsSpec)

/-- 'largesselaw15.JournalCrashes', WHERE WHAT IT READS IS OF BULK AT MOST 1048576: true; the input reads as it did. -/
def journalCrashesUptoRow : OpenClaim := { program := "ytlmgdpaajongbaa", sum := "324a12333d6c286426595cc5192550ee21d541fc3070f1bbaa5592abf623ceb6", func := "largesse/largesselaw15.JournalCrashes", spec := "journalCrashes", unfollowed := true, recurses := true, apart := false, narrowed := true }
def JournalCrashesUptoSaid : Prop := journalCrashesUptoRow.holds Try.pinned (OpenSpec.upto journalCrashesSpec)

/-- 'largesselaw15.JournalForms', WHERE WHAT IT READS IS OF BULK AT MOST 1048576: true; the input reads as it did. -/
def journalFormsUptoRow : OpenClaim := { program := "ytlmgdpaajongbaa", sum := "324a12333d6c286426595cc5192550ee21d541fc3070f1bbaa5592abf623ceb6", func := "largesse/largesselaw15.JournalForms", spec := "journalForms", unfollowed := true, recurses := true, apart := false, narrowed := true }
def JournalFormsUptoSaid : Prop := journalFormsUptoRow.holds Try.pinned (OpenSpec.upto journalFormsSpec)

/-- 'largesselaw16.CrewMeets', WHERE WHAT IT READS IS OF BULK AT MOST 1048576: true; the input reads as it did. -/
def crewMeetsUptoRow : OpenClaim := { program := "ytlmgdpaajongbaa", sum := "324a12333d6c286426595cc5192550ee21d541fc3070f1bbaa5592abf623ceb6", func := "largesse/largesselaw16.CrewMeets", spec := "crewMeets", unfollowed := true, recurses := true, apart := false, narrowed := true }
def CrewMeetsUptoSaid : Prop := crewMeetsUptoRow.holds Try.pinned (OpenSpec.upto crewMeetsSpec)

/-- 'largesselaw16.CrewTurns', WHERE WHAT IT READS IS OF BULK AT MOST 1048576: true; the input reads as it did. -/
def crewTurnsUptoRow : OpenClaim := { program := "ytlmgdpaajongbaa", sum := "324a12333d6c286426595cc5192550ee21d541fc3070f1bbaa5592abf623ceb6", func := "largesse/largesselaw16.CrewTurns", spec := "crewTurns", unfollowed := true, recurses := true, apart := false, narrowed := true }
def CrewTurnsUptoSaid : Prop := crewTurnsUptoRow.holds Try.pinned (OpenSpec.upto crewTurnsSpec)

/-- 'largesselaw15.JournalGoes', WHERE WHAT IT READS IS OF BULK AT MOST 1048576: true; the input reads as it did. -/
def journalGoesUptoRow : OpenClaim := { program := "ytlmgdpaajongbaa", sum := "324a12333d6c286426595cc5192550ee21d541fc3070f1bbaa5592abf623ceb6", func := "largesse/largesselaw15.JournalGoes", spec := "journalGoes", unfollowed := true, recurses := true, apart := false, narrowed := true }
def JournalGoesUptoSaid : Prop := journalGoesUptoRow.holds Try.pinned (OpenSpec.upto journalGoesSpec)

end Rows
end Go.Proofs.Ytlmgdpaajongbaa
