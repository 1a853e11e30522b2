/-
  No cell of these rows narrows 'for every input' (looked for: loops, veiled, ifaces, maps, wideKeys, modest, calm, conditions, laid).
  DERIVED. THE GIVEN ROWS OF THIS SEAT. 12 by the template 'for every input the law returns true; each argument reads behind the call as it read before'; 0 by the template 'total and deterministic' (their statements: YtecncappdnhbaaaTotals.lean).
  GIVEN WITH THE SEED: the statements are not yours to turn. If you find one false, say at which input.
  Laid BY PROGRAM, IN A SANDBOX (cutbox-rows.mjs): the forced cells as the released guide's own fill.sh prints them over the translation 81eb6aa23afd1f61… (all of the seat's roots in one cut). By AI agents, Wed Nov 11 2026. No macro, syntax, notation, axiom, sorry.
-/
import Derived.Test.YtecncappdnhbaaaChecked
import GoSem.Claim
import GoSem.ClaimJoined
import GoSem.ClaimMapViews
import Derived.JoinedTies
import Derived.KernelRfl
namespace Go.Proofs.Ytecncappdnhbaaa
/- THE CELL 'sum', in the pinned program and in every row, IS THE sha256 OF THE DUMP (.gsa) THAT YtecncappdnhbaaaProg.lean LOADS. Nothing in Lean hashes anything: it is a label: what it is worth is what the hold of that sum in a sandbox is worth. -/
noncomputable def Try.pinned : Pinned := { name := "ytecncappdnhbaaa", sum := "81eb6aa23afd1f615f0ef1c61cb6760aa6a4d75396dcdde2696dc53559ef08c4", checked := Try.checked }
namespace Rows
def none {H : Type} : Left H := { results := [], args := [] }

/-- 'largesselaw01.WordRounds': WHATEVER THE INPUT: true; the input reads as it did. -/
def wordRoundsSpec : ChangeSpec := { name := "wordRounds", fn := fun _ => fun
  | [d1, d2, d3] => { results := [.lit (.bool true)], args := [d1, d2, d3] }
  | _ => none }
def wordRoundsRow : OpenClaim := { program := "ytecncappdnhbaaa", sum := "81eb6aa23afd1f615f0ef1c61cb6760aa6a4d75396dcdde2696dc53559ef08c4", func := "largesse/largesselaw01.WordRounds", spec := "wordRounds", apart := false }
def WordRoundsSaid : Prop := wordRoundsRow.holds Try.pinned (OpenSpec.ofChange wordRoundsSpec)

/-- ITS FALSE NEIGHBOUR: 'it returns false'. Refute it at one input. -/
def wordRoundsWrong : ChangeSpec := { name := "wordRounds", fn := fun _ => fun
  | [d1, d2, d3] => { results := [.lit (.bool false)], args := [d1, d2, d3] }
  | _ => none }
def WordRoundsWrongFalsely : Prop := wordRoundsRow.holds Try.pinned (OpenSpec.ofChange wordRoundsWrong)

/-- 'largesselaw12.TapeLong': WHATEVER THE INPUT: true; the input reads as it did. -/
def tapeLongSpec : ChangeSpec := { name := "tapeLong", fn := fun _ => fun
  | [d] => { results := [.lit (.bool true)], args := [d] }
  | _ => none }
def tapeLongRow : OpenClaim := { program := "ytecncappdnhbaaa", sum := "81eb6aa23afd1f615f0ef1c61cb6760aa6a4d75396dcdde2696dc53559ef08c4", func := "largesse/largesselaw12.TapeLong", spec := "tapeLong", apart := false }
def TapeLongSaid : Prop := tapeLongRow.holds Try.pinned (OpenSpec.ofChange tapeLongSpec)

/-- ITS FALSE NEIGHBOUR: 'it returns false'. Refute it at one input. -/
def tapeLongWrong : ChangeSpec := { name := "tapeLong", fn := fun _ => fun
  | [d] => { results := [.lit (.bool false)], args := [d] }
  | _ => none }
def TapeLongWrongFalsely : Prop := tapeLongRow.holds Try.pinned (OpenSpec.ofChange tapeLongWrong)

/-- 'largesselaw01.WordTurns': WHATEVER THE INPUT: true; the input reads as it did. -/
def wordTurnsSpec : ChangeSpec := { name := "wordTurns", fn := fun _ => fun
  | [d1, d2] => { results := [.lit (.bool true)], args := [d1, d2] }
  | _ => none }
def wordTurnsRow : OpenClaim := { program := "ytecncappdnhbaaa", sum := "81eb6aa23afd1f615f0ef1c61cb6760aa6a4d75396dcdde2696dc53559ef08c4", func := "largesse/largesselaw01.WordTurns", spec := "wordTurns", apart := false }
def WordTurnsSaid : Prop := wordTurnsRow.holds Try.pinned (OpenSpec.ofChange wordTurnsSpec)

/-- ITS FALSE NEIGHBOUR: 'it returns false'. Refute it at one input. -/
def wordTurnsWrong : ChangeSpec := { name := "wordTurns", fn := fun _ => fun
  | [d1, d2] => { results := [.lit (.bool false)], args := [d1, d2] }
  | _ => none }
def WordTurnsWrongFalsely : Prop := wordTurnsRow.holds Try.pinned (OpenSpec.ofChange wordTurnsWrong)

/-- 'largesselaw01.WordPuts': WHATEVER THE INPUT: true; the input reads as it did. -/
def wordPutsSpec : ChangeSpec := { name := "wordPuts", fn := fun _ => fun
  | [d1, d2] => { results := [.lit (.bool true)], args := [d1, d2] }
  | _ => none }
def wordPutsRow : OpenClaim := { program := "ytecncappdnhbaaa", sum := "81eb6aa23afd1f615f0ef1c61cb6760aa6a4d75396dcdde2696dc53559ef08c4", func := "largesse/largesselaw01.WordPuts", spec := "wordPuts", apart := false }
def WordPutsSaid : Prop := wordPutsRow.holds Try.pinned (OpenSpec.ofChange wordPutsSpec)

/-- ITS FALSE NEIGHBOUR: 'it returns false'. Refute it at one input. -/
def wordPutsWrong : ChangeSpec := { name := "wordPuts", fn := fun _ => fun
  | [d1, d2] => { results := [.lit (.bool false)], args := [d1, d2] }
  | _ => none }
def WordPutsWrongFalsely : Prop := wordPutsRow.holds Try.pinned (OpenSpec.ofChange wordPutsWrong)

/-- 'largesselaw01.WordXors': WHATEVER THE INPUT: true; the input reads as it did. -/
def wordXorsSpec : ChangeSpec := { name := "wordXors", fn := fun _ => fun
  | [d1, d2] => { results := [.lit (.bool true)], args := [d1, d2] }
  | _ => none }
def wordXorsRow : OpenClaim := { program := "ytecncappdnhbaaa", sum := "81eb6aa23afd1f615f0ef1c61cb6760aa6a4d75396dcdde2696dc53559ef08c4", func := "largesse/largesselaw01.WordXors", spec := "wordXors", unfollowed := true, recurses := true, apart := false }
def WordXorsSaid : Prop := wordXorsRow.holds Try.pinned (OpenSpec.ofChange wordXorsSpec)

/-- ITS FALSE NEIGHBOUR: 'it returns false'. Refute it at one input. -/
def wordXorsWrong : ChangeSpec := { name := "wordXors", fn := fun _ => fun
  | [d1, d2] => { results := [.lit (.bool false)], args := [d1, d2] }
  | _ => none }
def WordXorsWrongFalsely : Prop := wordXorsRow.holds Try.pinned (OpenSpec.ofChange wordXorsWrong)

/-- 'largesselaw01.WordPacks': WHATEVER THE INPUT: true; the input reads as it did. -/
def wordPacksSpec : ChangeSpec := { name := "wordPacks", fn := fun _ => fun
  | [d1, d2, d3] => { results := [.lit (.bool true)], args := [d1, d2, d3] }
  | _ => none }
def wordPacksRow : OpenClaim := { program := "ytecncappdnhbaaa", sum := "81eb6aa23afd1f615f0ef1c61cb6760aa6a4d75396dcdde2696dc53559ef08c4", func := "largesse/largesselaw01.WordPacks", spec := "wordPacks", apart := false }
def WordPacksSaid : Prop := wordPacksRow.holds Try.pinned (OpenSpec.ofChange wordPacksSpec)

/-- ITS FALSE NEIGHBOUR: 'it returns false'. Refute it at one input. -/
def wordPacksWrong : ChangeSpec := { name := "wordPacks", fn := fun _ => fun
  | [d1, d2, d3] => { results := [.lit (.bool false)], args := [d1, d2, d3] }
  | _ => none }
def WordPacksWrongFalsely : Prop := wordPacksRow.holds Try.pinned (OpenSpec.ofChange wordPacksWrong)

/-- 'largesselaw12.TapeTakes': WHATEVER THE INPUT: true; the input reads as it did. -/
def tapeTakesSpec : ChangeSpec := { name := "tapeTakes", fn := fun _ => fun
  | [d1, d2] => { results := [.lit (.bool true)], args := [d1, d2] }
  | _ => none }
def tapeTakesRow : OpenClaim := { program := "ytecncappdnhbaaa", sum := "81eb6aa23afd1f615f0ef1c61cb6760aa6a4d75396dcdde2696dc53559ef08c4", func := "largesse/largesselaw12.TapeTakes", spec := "tapeTakes", unfollowed := true, recurses := true, apart := false }
def TapeTakesSaid : Prop := tapeTakesRow.holds Try.pinned (OpenSpec.ofChange tapeTakesSpec)

/-- ITS FALSE NEIGHBOUR: 'it returns false'. Refute it at one input. -/
def tapeTakesWrong : ChangeSpec := { name := "tapeTakes", fn := fun _ => fun
  | [d1, d2] => { results := [.lit (.bool false)], args := [d1, d2] }
  | _ => none }
def TapeTakesWrongFalsely : Prop := tapeTakesRow.holds Try.pinned (OpenSpec.ofChange tapeTakesWrong)

/-- 'largesselaw14.SectorCommits': WHATEVER THE INPUT: true; the input reads as it did. -/
def sectorCommitsSpec : ChangeSpec := { name := "sectorCommits", fn := fun _ => fun
  | [d1, d2, d3, d4, d5] => { results := [.lit (.bool true)], args := [d1, d2, d3, d4, d5] }
  | _ => none }
def sectorCommitsRow : OpenClaim := { program := "ytecncappdnhbaaa", sum := "81eb6aa23afd1f615f0ef1c61cb6760aa6a4d75396dcdde2696dc53559ef08c4", func := "largesse/largesselaw14.SectorCommits", spec := "sectorCommits", unfollowed := true, recurses := true, apart := false }
def SectorCommitsSaid : Prop := sectorCommitsRow.holds Try.pinned (OpenSpec.ofChange sectorCommitsSpec)

/-- ITS FALSE NEIGHBOUR: 'it returns false'. Refute it at one input. -/
def sectorCommitsWrong : ChangeSpec := { name := "sectorCommits", fn := fun _ => fun
  | [d1, d2, d3, d4, d5] => { results := [.lit (.bool false)], args := [d1, d2, d3, d4, d5] }
  | _ => none }
def SectorCommitsWrongFalsely : Prop := sectorCommitsRow.holds Try.pinned (OpenSpec.ofChange sectorCommitsWrong)

/-- 'largesselaw24.RequestReplies': WHATEVER THE INPUT: true; the input reads as it did. -/
def requestRepliesSpec : ChangeSpec := { name := "requestReplies", fn := fun _ => fun
  | [d1, d2, d3] => { results := [.lit (.bool true)], args := [d1, d2, d3] }
  | _ => none }
def requestRepliesRow : OpenClaim := { program := "ytecncappdnhbaaa", sum := "81eb6aa23afd1f615f0ef1c61cb6760aa6a4d75396dcdde2696dc53559ef08c4", func := "largesse/largesselaw24.RequestReplies", spec := "requestReplies", unfollowed := true, recurses := true, apart := false }
def RequestRepliesSaid : Prop := requestRepliesRow.holds Try.pinned (OpenSpec.ofChange requestRepliesSpec)

/-- ITS FALSE NEIGHBOUR: 'it returns false'. Refute it at one input. -/
def requestRepliesWrong : ChangeSpec := { name := "requestReplies", fn := fun _ => fun
  | [d1, d2, d3] => { results := [.lit (.bool false)], args := [d1, d2, d3] }
  | _ => none }
def RequestRepliesWrongFalsely : Prop := requestRepliesRow.holds Try.pinned (OpenSpec.ofChange requestRepliesWrong)

/-- 'largesselaw14.SectorShares': WHATEVER THE INPUT: true; the input reads as it did. -/
def sectorSharesSpec : ChangeSpec := { name := "sectorShares", fn := fun _ => fun
  | [d1, d2, d3, d4, d5, d6, d7] => { results := [.lit (.bool true)], args := [d1, d2, d3, d4, d5, d6, d7] }
  | _ => none }
def sectorSharesRow : OpenClaim := { program := "ytecncappdnhbaaa", sum := "81eb6aa23afd1f615f0ef1c61cb6760aa6a4d75396dcdde2696dc53559ef08c4", func := "largesse/largesselaw14.SectorShares", spec := "sectorShares", unfollowed := true, recurses := true, apart := false }
def SectorSharesSaid : Prop := sectorSharesRow.holds Try.pinned (OpenSpec.ofChange sectorSharesSpec)

/-- ITS FALSE NEIGHBOUR: 'it returns false'. Refute it at one input. -/
def sectorSharesWrong : ChangeSpec := { name := "sectorShares", fn := fun _ => fun
  | [d1, d2, d3, d4, d5, d6, d7] => { results := [.lit (.bool false)], args := [d1, d2, d3, d4, d5, d6, d7] }
  | _ => none }
def SectorSharesWrongFalsely : Prop := sectorSharesRow.holds Try.pinned (OpenSpec.ofChange sectorSharesWrong)

/-- 'largesselaw24.RequestWrites': WHATEVER THE INPUT: true; the input reads as it did. -/
def requestWritesSpec : ChangeSpec := { name := "requestWrites", fn := fun _ => fun
  | [d] => { results := [.lit (.bool true)], args := [d] }
  | _ => none }
def requestWritesRow : OpenClaim := { program := "ytecncappdnhbaaa", sum := "81eb6aa23afd1f615f0ef1c61cb6760aa6a4d75396dcdde2696dc53559ef08c4", func := "largesse/largesselaw24.RequestWrites", spec := "requestWrites", unfollowed := true, recurses := true, apart := false }
def RequestWritesSaid : Prop := requestWritesRow.holds Try.pinned (OpenSpec.ofChange requestWritesSpec)

/-- ITS FALSE NEIGHBOUR: 'it returns false'. Refute it at one input. -/
def requestWritesWrong : ChangeSpec := { name := "requestWrites", fn := fun _ => fun
  | [d] => { results := [.lit (.bool false)], args := [d] }
  | _ => none }
def RequestWritesWrongFalsely : Prop := requestWritesRow.holds Try.pinned (OpenSpec.ofChange requestWritesWrong)

/-- 'largesselaw24.RequestParses': WHATEVER THE INPUT: true; the input reads as it did. -/
def requestParsesSpec : ChangeSpec := { name := "requestParses", fn := fun _ => fun
  | [d] => { results := [.lit (.bool true)], args := [d] }
  | _ => none }
def requestParsesRow : OpenClaim := { program := "ytecncappdnhbaaa", sum := "81eb6aa23afd1f615f0ef1c61cb6760aa6a4d75396dcdde2696dc53559ef08c4", func := "largesse/largesselaw24.RequestParses", spec := "requestParses", unfollowed := true, recurses := true, apart := false }
def RequestParsesSaid : Prop := requestParsesRow.holds Try.pinned (OpenSpec.ofChange requestParsesSpec)

/-- ITS FALSE NEIGHBOUR: 'it returns false'. Refute it at one input. -/
def requestParsesWrong : ChangeSpec := { name := "requestParses", fn := fun _ => fun
  | [d] => { results := [.lit (.bool false)], args := [d] }
  | _ => none }
def RequestParsesWrongFalsely : Prop := requestParsesRow.holds Try.pinned (OpenSpec.ofChange requestParsesWrong)

/- THE SECOND FORM. 'bulk': how many values and letters a reading holds, each counted each time it is reached (what is shared counts as often as it is met; a slice's spare places count too). A statement '..UptoSaid' is the law's where the arguments, and the package variables that the reading takes, are together of bulk at most 1048576: NARROWER than '..Said'. Prove '..Said' where nothing that the law and all that it calls make is longer than what came in: it says more and counts as full. Else prove '..UptoSaid'. A law counts once. -/
mutual
def uptoBulk {H : Type} : DataW H → Nat
  | .lit (.string bytes) => bytes.length + 1
  | .lit _ => 1
  | .nil => 1
  | .ptr d => uptoBulk d + 1
  | .slice elems spare => uptoBulkAll elems + uptoBulkAll spare + 1
  | .agg parts => uptoBulkAll parts + 1
  | .iface _ d => uptoBulk d + 1
  | .map entries => uptoBulkEntries entries + 1
  | .held _ => 1
def uptoBulkAll {H : Type} : List (DataW H) → Nat
  | [] => 0
  | d :: r => uptoBulk d + uptoBulkAll r
def uptoBulkEntries {H : Type} : List (Lit × DataW H) → Nat
  | [] => 0
  | x :: r => uptoBulkEntry x + uptoBulkEntries r
def uptoBulkEntry {H : Type} : Lit × DataW H → Nat
  | (.string bytes, d) => bytes.length + uptoBulk d + 1
  | (_, d) => uptoBulk d + 1
 end
def uptoSmall : (H : Type) → List (DataW H) → Bool := fun _ ds => decide (uptoBulkAll ds ≤ 1048576)
def OpenSpec.upto (s : _root_.Go.ChangeSpec) : _root_.Go.OpenSpec := { _root_.Go.OpenSpec.ofChange s with cond := some uptoSmall }

/-- 'largesselaw01.WordRounds', WHERE WHAT IT READS IS OF BULK AT MOST 1048576: true; the input reads as it did. -/
def wordRoundsUptoRow : OpenClaim := { program := "ytecncappdnhbaaa", sum := "81eb6aa23afd1f615f0ef1c61cb6760aa6a4d75396dcdde2696dc53559ef08c4", func := "largesse/largesselaw01.WordRounds", spec := "wordRounds", apart := false, narrowed := true }
def WordRoundsUptoSaid : Prop := wordRoundsUptoRow.holds Try.pinned (OpenSpec.upto wordRoundsSpec)

/-- 'largesselaw12.TapeLong', WHERE WHAT IT READS IS OF BULK AT MOST 1048576: true; the input reads as it did. -/
def tapeLongUptoRow : OpenClaim := { program := "ytecncappdnhbaaa", sum := "81eb6aa23afd1f615f0ef1c61cb6760aa6a4d75396dcdde2696dc53559ef08c4", func := "largesse/largesselaw12.TapeLong", spec := "tapeLong", apart := false, narrowed := true }
def TapeLongUptoSaid : Prop := tapeLongUptoRow.holds Try.pinned (OpenSpec.upto tapeLongSpec)

/-- 'largesselaw01.WordTurns', WHERE WHAT IT READS IS OF BULK AT MOST 1048576: true; the input reads as it did. -/
def wordTurnsUptoRow : OpenClaim := { program := "ytecncappdnhbaaa", sum := "81eb6aa23afd1f615f0ef1c61cb6760aa6a4d75396dcdde2696dc53559ef08c4", func := "largesse/largesselaw01.WordTurns", spec := "wordTurns", apart := false, narrowed := true }
def WordTurnsUptoSaid : Prop := wordTurnsUptoRow.holds Try.pinned (OpenSpec.upto wordTurnsSpec)

/-- 'largesselaw01.WordPuts', WHERE WHAT IT READS IS OF BULK AT MOST 1048576: true; the input reads as it did. -/
def wordPutsUptoRow : OpenClaim := { program := "ytecncappdnhbaaa", sum := "81eb6aa23afd1f615f0ef1c61cb6760aa6a4d75396dcdde2696dc53559ef08c4", func := "largesse/largesselaw01.WordPuts", spec := "wordPuts", apart := false, narrowed := true }
def WordPutsUptoSaid : Prop := wordPutsUptoRow.holds Try.pinned (OpenSpec.upto wordPutsSpec)

/-- 'largesselaw01.WordXors', WHERE WHAT IT READS IS OF BULK AT MOST 1048576: true; the input reads as it did. -/
def wordXorsUptoRow : OpenClaim := { program := "ytecncappdnhbaaa", sum := "81eb6aa23afd1f615f0ef1c61cb6760aa6a4d75396dcdde2696dc53559ef08c4", func := "largesse/largesselaw01.WordXors", spec := "wordXors", unfollowed := true, recurses := true, apart := false, narrowed := true }
def WordXorsUptoSaid : Prop := wordXorsUptoRow.holds Try.pinned (OpenSpec.upto wordXorsSpec)

/-- 'largesselaw01.WordPacks', WHERE WHAT IT READS IS OF BULK AT MOST 1048576: true; the input reads as it did. -/
def wordPacksUptoRow : OpenClaim := { program := "ytecncappdnhbaaa", sum := "81eb6aa23afd1f615f0ef1c61cb6760aa6a4d75396dcdde2696dc53559ef08c4", func := "largesse/largesselaw01.WordPacks", spec := "wordPacks", apart := false, narrowed := true }
def WordPacksUptoSaid : Prop := wordPacksUptoRow.holds Try.pinned (OpenSpec.upto wordPacksSpec)

/-- 'largesselaw12.TapeTakes', WHERE WHAT IT READS IS OF BULK AT MOST 1048576: true; the input reads as it did. -/
def tapeTakesUptoRow : OpenClaim := { program := "ytecncappdnhbaaa", sum := "81eb6aa23afd1f615f0ef1c61cb6760aa6a4d75396dcdde2696dc53559ef08c4", func := "largesse/largesselaw12.TapeTakes", spec := "tapeTakes", unfollowed := true, recurses := true, apart := false, narrowed := true }
def TapeTakesUptoSaid : Prop := tapeTakesUptoRow.holds Try.pinned (OpenSpec.upto tapeTakesSpec)

/-- 'largesselaw14.SectorCommits', WHERE WHAT IT READS IS OF BULK AT MOST 1048576: true; the input reads as it did. -/
def sectorCommitsUptoRow : OpenClaim := { program := "ytecncappdnhbaaa", sum := "81eb6aa23afd1f615f0ef1c61cb6760aa6a4d75396dcdde2696dc53559ef08c4", func := "largesse/largesselaw14.SectorCommits", spec := "sectorCommits", unfollowed := true, recurses := true, apart := false, narrowed := true }
def SectorCommitsUptoSaid : Prop := sectorCommitsUptoRow.holds Try.pinned (OpenSpec.upto sectorCommitsSpec)

/-- 'largesselaw24.RequestReplies', WHERE WHAT IT READS IS OF BULK AT MOST 1048576: true; the input reads as it did. -/
def requestRepliesUptoRow : OpenClaim := { program := "ytecncappdnhbaaa", sum := "81eb6aa23afd1f615f0ef1c61cb6760aa6a4d75396dcdde2696dc53559ef08c4", func := "largesse/largesselaw24.RequestReplies", spec := "requestReplies", unfollowed := true, recurses := true, apart := false, narrowed := true }
def RequestRepliesUptoSaid : Prop := requestRepliesUptoRow.holds Try.pinned (OpenSpec.upto requestRepliesSpec)

/-- 'largesselaw14.SectorShares', WHERE WHAT IT READS IS OF BULK AT MOST 1048576: true; the input reads as it did. -/
def sectorSharesUptoRow : OpenClaim := { program := "ytecncappdnhbaaa", sum := "81eb6aa23afd1f615f0ef1c61cb6760aa6a4d75396dcdde2696dc53559ef08c4", func := "largesse/largesselaw14.SectorShares", spec := "sectorShares", unfollowed := true, recurses := true, apart := false, narrowed := true }
def SectorSharesUptoSaid : Prop := sectorSharesUptoRow.holds Try.pinned (OpenSpec.upto sectorSharesSpec)

/-- 'largesselaw24.RequestWrites', WHERE WHAT IT READS IS OF BULK AT MOST 1048576: true; the input reads as it did. -/
def requestWritesUptoRow : OpenClaim := { program := "ytecncappdnhbaaa", sum := "81eb6aa23afd1f615f0ef1c61cb6760aa6a4d75396dcdde2696dc53559ef08c4", func := "largesse/largesselaw24.RequestWrites", spec := "requestWrites", unfollowed := true, recurses := true, apart := false, narrowed := true }
def RequestWritesUptoSaid : Prop := requestWritesUptoRow.holds Try.pinned (OpenSpec.upto requestWritesSpec)

/-- 'largesselaw24.RequestParses', WHERE WHAT IT READS IS OF BULK AT MOST 1048576: true; the input reads as it did. -/
def requestParsesUptoRow : OpenClaim := { program := "ytecncappdnhbaaa", sum := "81eb6aa23afd1f615f0ef1c61cb6760aa6a4d75396dcdde2696dc53559ef08c4", func := "largesse/largesselaw24.RequestParses", spec := "requestParses", unfollowed := true, recurses := true, apart := false, narrowed := true }
def RequestParsesUptoSaid : Prop := requestParsesUptoRow.holds Try.pinned (OpenSpec.upto requestParsesSpec)

end Rows
end Go.Proofs.Ytecncappdnhbaaa
