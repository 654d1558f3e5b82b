/-
  No cell of these rows narrows 'for every input' (looked for: loops, veiled, ifaces, maps, wideKeys, modest, calm, conditions, laid).
  DERIVED. THE GIVEN ROWS OF THIS SEAT. 12 by the template 'for every input the law returns true; each argument reads behind the call as it read before'; 0 by the template 'total and deterministic' (their statements: YtmkobpkdodgboaaTotals.lean).
  GIVEN WITH THE SEED: the statements are not yours to turn. If you find one false, say at which input.
  Laid BY PROGRAM, IN A SANDBOX (cutbox-rows.mjs): the forced cells as the released guide's own fill.sh prints them over the translation c2933a4f4155a892… (all of the seat's roots in one cut). By AI agents, Wed Nov 11 2026. No macro, syntax, notation, axiom, sorry.
-/
import Derived.Test.YtmkobpkdodgboaaChecked
import GoSem.Claim
import GoSem.ClaimJoined
import GoSem.ClaimMapViews
import Derived.JoinedTies
import Derived.KernelRfl
namespace Go.Proofs.Ytmkobpkdodgboaa
/- THE CELL 'sum', in the pinned program and in every row, IS THE sha256 OF THE DUMP (.gsa) THAT YtmkobpkdodgboaaProg.lean LOADS. Nothing in Lean hashes anything: it is a label: what it is worth is what the hold of that sum in a sandbox is worth. -/
noncomputable def Try.pinned : Pinned := { name := "ytmkobpkdodgboaa", sum := "c2933a4f4155a892447f6aeaf7a9465564f02b2b0693d1facf9995475d725dc4", checked := Try.checked }
namespace Rows
def none {H : Type} : Left H := { results := [], args := [] }

/-- 'stowagelaw7.SnapFits': WHATEVER THE INPUT: true; the input reads as it did. -/
def snapFitsSpec : ChangeSpec := { name := "snapFits", fn := fun _ => fun
  | [d1, d2] => { results := [.lit (.bool true)], args := [d1, d2] }
  | _ => none }
def snapFitsRow : OpenClaim := { program := "ytmkobpkdodgboaa", sum := "c2933a4f4155a892447f6aeaf7a9465564f02b2b0693d1facf9995475d725dc4", func := "stowage/stowagelaw7.SnapFits", spec := "snapFits", apart := false }
def SnapFitsSaid : Prop := snapFitsRow.holds Try.pinned (OpenSpec.ofChange snapFitsSpec)

/-- ITS FALSE NEIGHBOUR: 'it returns false'. Refute it at one input. -/
def snapFitsWrong : ChangeSpec := { name := "snapFits", fn := fun _ => fun
  | [d1, d2] => { results := [.lit (.bool false)], args := [d1, d2] }
  | _ => none }
def SnapFitsWrongFalsely : Prop := snapFitsRow.holds Try.pinned (OpenSpec.ofChange snapFitsWrong)

/-- 'stowagelaw7.SnapTurns': WHATEVER THE INPUT: true; the input reads as it did. -/
def snapTurnsSpec : ChangeSpec := { name := "snapTurns", fn := fun _ => fun
  | [d1, d2] => { results := [.lit (.bool true)], args := [d1, d2] }
  | _ => none }
def snapTurnsRow : OpenClaim := { program := "ytmkobpkdodgboaa", sum := "c2933a4f4155a892447f6aeaf7a9465564f02b2b0693d1facf9995475d725dc4", func := "stowage/stowagelaw7.SnapTurns", spec := "snapTurns", apart := false }
def SnapTurnsSaid : Prop := snapTurnsRow.holds Try.pinned (OpenSpec.ofChange snapTurnsSpec)

/-- ITS FALSE NEIGHBOUR: 'it returns false'. Refute it at one input. -/
def snapTurnsWrong : ChangeSpec := { name := "snapTurns", fn := fun _ => fun
  | [d1, d2] => { results := [.lit (.bool false)], args := [d1, d2] }
  | _ => none }
def SnapTurnsWrongFalsely : Prop := snapTurnsRow.holds Try.pinned (OpenSpec.ofChange snapTurnsWrong)

/-- 'stowagelaw7.SnapWhole': WHATEVER THE INPUT: true; the input reads as it did. -/
def snapWholeSpec : ChangeSpec := { name := "snapWhole", fn := fun _ => fun
  | [d1, d2, d3] => { results := [.lit (.bool true)], args := [d1, d2, d3] }
  | _ => none }
def snapWholeRow : OpenClaim := { program := "ytmkobpkdodgboaa", sum := "c2933a4f4155a892447f6aeaf7a9465564f02b2b0693d1facf9995475d725dc4", func := "stowage/stowagelaw7.SnapWhole", spec := "snapWhole", apart := false }
def SnapWholeSaid : Prop := snapWholeRow.holds Try.pinned (OpenSpec.ofChange snapWholeSpec)

/-- ITS FALSE NEIGHBOUR: 'it returns false'. Refute it at one input. -/
def snapWholeWrong : ChangeSpec := { name := "snapWhole", fn := fun _ => fun
  | [d1, d2, d3] => { results := [.lit (.bool false)], args := [d1, d2, d3] }
  | _ => none }
def SnapWholeWrongFalsely : Prop := snapWholeRow.holds Try.pinned (OpenSpec.ofChange snapWholeWrong)

/-- 'stowagelaw7.SnapPlays': WHATEVER THE INPUT: true; the input reads as it did. -/
def snapPlaysSpec : ChangeSpec := { name := "snapPlays", fn := fun _ => fun
  | [d1, d2, d3, d4] => { results := [.lit (.bool true)], args := [d1, d2, d3, d4] }
  | _ => none }
def snapPlaysRow : OpenClaim := { program := "ytmkobpkdodgboaa", sum := "c2933a4f4155a892447f6aeaf7a9465564f02b2b0693d1facf9995475d725dc4", func := "stowage/stowagelaw7.SnapPlays", spec := "snapPlays", apart := false }
def SnapPlaysSaid : Prop := snapPlaysRow.holds Try.pinned (OpenSpec.ofChange snapPlaysSpec)

/-- ITS FALSE NEIGHBOUR: 'it returns false'. Refute it at one input. -/
def snapPlaysWrong : ChangeSpec := { name := "snapPlays", fn := fun _ => fun
  | [d1, d2, d3, d4] => { results := [.lit (.bool false)], args := [d1, d2, d3, d4] }
  | _ => none }
def SnapPlaysWrongFalsely : Prop := snapPlaysRow.holds Try.pinned (OpenSpec.ofChange snapPlaysWrong)

/-- 'stowagelaw6.WalCounts': WHATEVER THE INPUT: true; the input reads as it did. -/
def walCountsSpec : ChangeSpec := { name := "walCounts", fn := fun _ => fun
  | [d] => { results := [.lit (.bool true)], args := [d] }
  | _ => none }
def walCountsRow : OpenClaim := { program := "ytmkobpkdodgboaa", sum := "c2933a4f4155a892447f6aeaf7a9465564f02b2b0693d1facf9995475d725dc4", func := "stowage/stowagelaw6.WalCounts", spec := "walCounts", apart := false }
def WalCountsSaid : Prop := walCountsRow.holds Try.pinned (OpenSpec.ofChange walCountsSpec)

/-- ITS FALSE NEIGHBOUR: 'it returns false'. Refute it at one input. -/
def walCountsWrong : ChangeSpec := { name := "walCounts", fn := fun _ => fun
  | [d] => { results := [.lit (.bool false)], args := [d] }
  | _ => none }
def WalCountsWrongFalsely : Prop := walCountsRow.holds Try.pinned (OpenSpec.ofChange walCountsWrong)

/-- 'stowagelaw6.WalLasts': WHATEVER THE INPUT: true; the input reads as it did. -/
def walLastsSpec : ChangeSpec := { name := "walLasts", fn := fun _ => fun
  | [d1, d2, d3, d4] => { results := [.lit (.bool true)], args := [d1, d2, d3, d4] }
  | _ => none }
def walLastsRow : OpenClaim := { program := "ytmkobpkdodgboaa", sum := "c2933a4f4155a892447f6aeaf7a9465564f02b2b0693d1facf9995475d725dc4", func := "stowage/stowagelaw6.WalLasts", spec := "walLasts", apart := false }
def WalLastsSaid : Prop := walLastsRow.holds Try.pinned (OpenSpec.ofChange walLastsSpec)

/-- ITS FALSE NEIGHBOUR: 'it returns false'. Refute it at one input. -/
def walLastsWrong : ChangeSpec := { name := "walLasts", fn := fun _ => fun
  | [d1, d2, d3, d4] => { results := [.lit (.bool false)], args := [d1, d2, d3, d4] }
  | _ => none }
def WalLastsWrongFalsely : Prop := walLastsRow.holds Try.pinned (OpenSpec.ofChange walLastsWrong)

/-- 'stowagelaw6.WalGoesOn': WHATEVER THE INPUT: true; the input reads as it did. -/
def walGoesOnSpec : ChangeSpec := { name := "walGoesOn", fn := fun _ => fun
  | [d1, d2, d3] => { results := [.lit (.bool true)], args := [d1, d2, d3] }
  | _ => none }
def walGoesOnRow : OpenClaim := { program := "ytmkobpkdodgboaa", sum := "c2933a4f4155a892447f6aeaf7a9465564f02b2b0693d1facf9995475d725dc4", func := "stowage/stowagelaw6.WalGoesOn", spec := "walGoesOn", apart := false }
def WalGoesOnSaid : Prop := walGoesOnRow.holds Try.pinned (OpenSpec.ofChange walGoesOnSpec)

/-- ITS FALSE NEIGHBOUR: 'it returns false'. Refute it at one input. -/
def walGoesOnWrong : ChangeSpec := { name := "walGoesOn", fn := fun _ => fun
  | [d1, d2, d3] => { results := [.lit (.bool false)], args := [d1, d2, d3] }
  | _ => none }
def WalGoesOnWrongFalsely : Prop := walGoesOnRow.holds Try.pinned (OpenSpec.ofChange walGoesOnWrong)

/-- 'stowagelaw6.WalPlays': WHATEVER THE INPUT: true; the input reads as it did. -/
def walPlaysSpec : ChangeSpec := { name := "walPlays", fn := fun _ => fun
  | [d1, d2, d3, d4, d5] => { results := [.lit (.bool true)], args := [d1, d2, d3, d4, d5] }
  | _ => none }
def walPlaysRow : OpenClaim := { program := "ytmkobpkdodgboaa", sum := "c2933a4f4155a892447f6aeaf7a9465564f02b2b0693d1facf9995475d725dc4", func := "stowage/stowagelaw6.WalPlays", spec := "walPlays", apart := false }
def WalPlaysSaid : Prop := walPlaysRow.holds Try.pinned (OpenSpec.ofChange walPlaysSpec)

/-- ITS FALSE NEIGHBOUR: 'it returns false'. Refute it at one input. -/
def walPlaysWrong : ChangeSpec := { name := "walPlays", fn := fun _ => fun
  | [d1, d2, d3, d4, d5] => { results := [.lit (.bool false)], args := [d1, d2, d3, d4, d5] }
  | _ => none }
def WalPlaysWrongFalsely : Prop := walPlaysRow.holds Try.pinned (OpenSpec.ofChange walPlaysWrong)

/-- 'stowagelaw11.BlobSectors': WHATEVER THE INPUT: true; the input reads as it did. -/
def blobSectorsSpec : ChangeSpec := { name := "blobSectors", fn := fun _ => fun
  | [d] => { results := [.lit (.bool true)], args := [d] }
  | _ => none }
def blobSectorsRow : OpenClaim := { program := "ytmkobpkdodgboaa", sum := "c2933a4f4155a892447f6aeaf7a9465564f02b2b0693d1facf9995475d725dc4", func := "stowage/stowagelaw11.BlobSectors", spec := "blobSectors", apart := false }
def BlobSectorsSaid : Prop := blobSectorsRow.holds Try.pinned (OpenSpec.ofChange blobSectorsSpec)

/-- ITS FALSE NEIGHBOUR: 'it returns false'. Refute it at one input. -/
def blobSectorsWrong : ChangeSpec := { name := "blobSectors", fn := fun _ => fun
  | [d] => { results := [.lit (.bool false)], args := [d] }
  | _ => none }
def BlobSectorsWrongFalsely : Prop := blobSectorsRow.holds Try.pinned (OpenSpec.ofChange blobSectorsWrong)

/-- 'stowagelaw11.BlobTells': WHATEVER THE INPUT: true; the input reads as it did. -/
def blobTellsSpec : ChangeSpec := { name := "blobTells", fn := fun _ => fun
  | [d1, d2, d3] => { results := [.lit (.bool true)], args := [d1, d2, d3] }
  | _ => none }
def blobTellsRow : OpenClaim := { program := "ytmkobpkdodgboaa", sum := "c2933a4f4155a892447f6aeaf7a9465564f02b2b0693d1facf9995475d725dc4", func := "stowage/stowagelaw11.BlobTells", spec := "blobTells", apart := false }
def BlobTellsSaid : Prop := blobTellsRow.holds Try.pinned (OpenSpec.ofChange blobTellsSpec)

/-- ITS FALSE NEIGHBOUR: 'it returns false'. Refute it at one input. -/
def blobTellsWrong : ChangeSpec := { name := "blobTells", fn := fun _ => fun
  | [d1, d2, d3] => { results := [.lit (.bool false)], args := [d1, d2, d3] }
  | _ => none }
def BlobTellsWrongFalsely : Prop := blobTellsRow.holds Try.pinned (OpenSpec.ofChange blobTellsWrong)

/-- 'stowagelaw11.BlobRoom': WHATEVER THE INPUT: true; the input reads as it did. -/
def blobRoomSpec : ChangeSpec := { name := "blobRoom", fn := fun _ => fun
  | [d] => { results := [.lit (.bool true)], args := [d] }
  | _ => none }
def blobRoomRow : OpenClaim := { program := "ytmkobpkdodgboaa", sum := "c2933a4f4155a892447f6aeaf7a9465564f02b2b0693d1facf9995475d725dc4", func := "stowage/stowagelaw11.BlobRoom", spec := "blobRoom", apart := false }
def BlobRoomSaid : Prop := blobRoomRow.holds Try.pinned (OpenSpec.ofChange blobRoomSpec)

/-- ITS FALSE NEIGHBOUR: 'it returns false'. Refute it at one input. -/
def blobRoomWrong : ChangeSpec := { name := "blobRoom", fn := fun _ => fun
  | [d] => { results := [.lit (.bool false)], args := [d] }
  | _ => none }
def BlobRoomWrongFalsely : Prop := blobRoomRow.holds Try.pinned (OpenSpec.ofChange blobRoomWrong)

/-- 'stowagelaw11.BlobBack': WHATEVER THE INPUT: true; the input reads as it did. -/
def blobBackSpec : ChangeSpec := { name := "blobBack", fn := fun _ => fun
  | [d1, d2, d3] => { results := [.lit (.bool true)], args := [d1, d2, d3] }
  | _ => none }
def blobBackRow : OpenClaim := { program := "ytmkobpkdodgboaa", sum := "c2933a4f4155a892447f6aeaf7a9465564f02b2b0693d1facf9995475d725dc4", func := "stowage/stowagelaw11.BlobBack", spec := "blobBack", apart := false }
def BlobBackSaid : Prop := blobBackRow.holds Try.pinned (OpenSpec.ofChange blobBackSpec)

/-- ITS FALSE NEIGHBOUR: 'it returns false'. Refute it at one input. -/
def blobBackWrong : ChangeSpec := { name := "blobBack", fn := fun _ => fun
  | [d1, d2, d3] => { results := [.lit (.bool false)], args := [d1, d2, d3] }
  | _ => none }
def BlobBackWrongFalsely : Prop := blobBackRow.holds Try.pinned (OpenSpec.ofChange blobBackWrong)

/- THE SECOND FORM. 'bulk': how many values and letters a reading holds, each counted each time it is reached (what is shared counts as often as it is met; a slice's spare places count too). A statement '..UptoSaid' is the law's where the arguments, and the package variables that the reading takes, are together of bulk at most 1048576: NARROWER than '..Said'. Prove '..Said' where nothing that the law and all that it calls make is longer than what came in: it says more and counts as full. Else prove '..UptoSaid'. A law counts once. -/
mutual
def uptoBulk {H : Type} : DataW H → Nat
  | .lit (.string bytes) => bytes.length + 1
  | .lit _ => 1
  | .nil => 1
  | .ptr d => uptoBulk d + 1
  | .slice elems spare => uptoBulkAll elems + uptoBulkAll spare + 1
  | .agg parts => uptoBulkAll parts + 1
  | .iface _ d => uptoBulk d + 1
  | .map entries => uptoBulkEntries entries + 1
  | .held _ => 1
def uptoBulkAll {H : Type} : List (DataW H) → Nat
  | [] => 0
  | d :: r => uptoBulk d + uptoBulkAll r
def uptoBulkEntries {H : Type} : List (Lit × DataW H) → Nat
  | [] => 0
  | x :: r => uptoBulkEntry x + uptoBulkEntries r
def uptoBulkEntry {H : Type} : Lit × DataW H → Nat
  | (.string bytes, d) => bytes.length + uptoBulk d + 1
  | (_, d) => uptoBulk d + 1
 end
def uptoSmall : (H : Type) → List (DataW H) → Bool := fun _ ds => decide (uptoBulkAll ds ≤ 1048576)
def OpenSpec.upto (s : _root_.Go.ChangeSpec) : _root_.Go.OpenSpec := { _root_.Go.OpenSpec.ofChange s with cond := some uptoSmall }

/-- 'stowagelaw7.SnapFits', WHERE WHAT IT READS IS OF BULK AT MOST 1048576: true; the input reads as it did. -/
def snapFitsUptoRow : OpenClaim := { program := "ytmkobpkdodgboaa", sum := "c2933a4f4155a892447f6aeaf7a9465564f02b2b0693d1facf9995475d725dc4", func := "stowage/stowagelaw7.SnapFits", spec := "snapFits", apart := false, narrowed := true }
def SnapFitsUptoSaid : Prop := snapFitsUptoRow.holds Try.pinned (OpenSpec.upto snapFitsSpec)

/-- 'stowagelaw7.SnapTurns', WHERE WHAT IT READS IS OF BULK AT MOST 1048576: true; the input reads as it did. -/
def snapTurnsUptoRow : OpenClaim := { program := "ytmkobpkdodgboaa", sum := "c2933a4f4155a892447f6aeaf7a9465564f02b2b0693d1facf9995475d725dc4", func := "stowage/stowagelaw7.SnapTurns", spec := "snapTurns", apart := false, narrowed := true }
def SnapTurnsUptoSaid : Prop := snapTurnsUptoRow.holds Try.pinned (OpenSpec.upto snapTurnsSpec)

/-- 'stowagelaw7.SnapWhole', WHERE WHAT IT READS IS OF BULK AT MOST 1048576: true; the input reads as it did. -/
def snapWholeUptoRow : OpenClaim := { program := "ytmkobpkdodgboaa", sum := "c2933a4f4155a892447f6aeaf7a9465564f02b2b0693d1facf9995475d725dc4", func := "stowage/stowagelaw7.SnapWhole", spec := "snapWhole", apart := false, narrowed := true }
def SnapWholeUptoSaid : Prop := snapWholeUptoRow.holds Try.pinned (OpenSpec.upto snapWholeSpec)

/-- 'stowagelaw7.SnapPlays', WHERE WHAT IT READS IS OF BULK AT MOST 1048576: true; the input reads as it did. -/
def snapPlaysUptoRow : OpenClaim := { program := "ytmkobpkdodgboaa", sum := "c2933a4f4155a892447f6aeaf7a9465564f02b2b0693d1facf9995475d725dc4", func := "stowage/stowagelaw7.SnapPlays", spec := "snapPlays", apart := false, narrowed := true }
def SnapPlaysUptoSaid : Prop := snapPlaysUptoRow.holds Try.pinned (OpenSpec.upto snapPlaysSpec)

/-- 'stowagelaw6.WalCounts', WHERE WHAT IT READS IS OF BULK AT MOST 1048576: true; the input reads as it did. -/
def walCountsUptoRow : OpenClaim := { program := "ytmkobpkdodgboaa", sum := "c2933a4f4155a892447f6aeaf7a9465564f02b2b0693d1facf9995475d725dc4", func := "stowage/stowagelaw6.WalCounts", spec := "walCounts", apart := false, narrowed := true }
def WalCountsUptoSaid : Prop := walCountsUptoRow.holds Try.pinned (OpenSpec.upto walCountsSpec)

/-- 'stowagelaw6.WalLasts', WHERE WHAT IT READS IS OF BULK AT MOST 1048576: true; the input reads as it did. -/
def walLastsUptoRow : OpenClaim := { program := "ytmkobpkdodgboaa", sum := "c2933a4f4155a892447f6aeaf7a9465564f02b2b0693d1facf9995475d725dc4", func := "stowage/stowagelaw6.WalLasts", spec := "walLasts", apart := false, narrowed := true }
def WalLastsUptoSaid : Prop := walLastsUptoRow.holds Try.pinned (OpenSpec.upto walLastsSpec)

/-- 'stowagelaw6.WalGoesOn', WHERE WHAT IT READS IS OF BULK AT MOST 1048576: true; the input reads as it did. -/
def walGoesOnUptoRow : OpenClaim := { program := "ytmkobpkdodgboaa", sum := "c2933a4f4155a892447f6aeaf7a9465564f02b2b0693d1facf9995475d725dc4", func := "stowage/stowagelaw6.WalGoesOn", spec := "walGoesOn", apart := false, narrowed := true }
def WalGoesOnUptoSaid : Prop := walGoesOnUptoRow.holds Try.pinned (OpenSpec.upto walGoesOnSpec)

/-- 'stowagelaw6.WalPlays', WHERE WHAT IT READS IS OF BULK AT MOST 1048576: true; the input reads as it did. -/
def walPlaysUptoRow : OpenClaim := { program := "ytmkobpkdodgboaa", sum := "c2933a4f4155a892447f6aeaf7a9465564f02b2b0693d1facf9995475d725dc4", func := "stowage/stowagelaw6.WalPlays", spec := "walPlays", apart := false, narrowed := true }
def WalPlaysUptoSaid : Prop := walPlaysUptoRow.holds Try.pinned (OpenSpec.upto walPlaysSpec)

/-- 'stowagelaw11.BlobSectors', WHERE WHAT IT READS IS OF BULK AT MOST 1048576: true; the input reads as it did. -/
def blobSectorsUptoRow : OpenClaim := { program := "ytmkobpkdodgboaa", sum := "c2933a4f4155a892447f6aeaf7a9465564f02b2b0693d1facf9995475d725dc4", func := "stowage/stowagelaw11.BlobSectors", spec := "blobSectors", apart := false, narrowed := true }
def BlobSectorsUptoSaid : Prop := blobSectorsUptoRow.holds Try.pinned (OpenSpec.upto blobSectorsSpec)

/-- 'stowagelaw11.BlobTells', WHERE WHAT IT READS IS OF BULK AT MOST 1048576: true; the input reads as it did. -/
def blobTellsUptoRow : OpenClaim := { program := "ytmkobpkdodgboaa", sum := "c2933a4f4155a892447f6aeaf7a9465564f02b2b0693d1facf9995475d725dc4", func := "stowage/stowagelaw11.BlobTells", spec := "blobTells", apart := false, narrowed := true }
def BlobTellsUptoSaid : Prop := blobTellsUptoRow.holds Try.pinned (OpenSpec.upto blobTellsSpec)

/-- 'stowagelaw11.BlobRoom', WHERE WHAT IT READS IS OF BULK AT MOST 1048576: true; the input reads as it did. -/
def blobRoomUptoRow : OpenClaim := { program := "ytmkobpkdodgboaa", sum := "c2933a4f4155a892447f6aeaf7a9465564f02b2b0693d1facf9995475d725dc4", func := "stowage/stowagelaw11.BlobRoom", spec := "blobRoom", apart := false, narrowed := true }
def BlobRoomUptoSaid : Prop := blobRoomUptoRow.holds Try.pinned (OpenSpec.upto blobRoomSpec)

/-- 'stowagelaw11.BlobBack', WHERE WHAT IT READS IS OF BULK AT MOST 1048576: true; the input reads as it did. -/
def blobBackUptoRow : OpenClaim := { program := "ytmkobpkdodgboaa", sum := "c2933a4f4155a892447f6aeaf7a9465564f02b2b0693d1facf9995475d725dc4", func := "stowage/stowagelaw11.BlobBack", spec := "blobBack", apart := false, narrowed := true }
def BlobBackUptoSaid : Prop := blobBackUptoRow.holds Try.pinned (OpenSpec.upto blobBackSpec)

end Rows
end Go.Proofs.Ytmkobpkdodgboaa
