/-
  No cell of these rows narrows 'for every input' (looked for: loops, veiled, ifaces, maps, wideKeys, modest, calm, conditions, laid).
  DERIVED. THE GIVEN ROWS OF THIS SEAT. 7 by the template 'for every input the law returns true; each argument reads behind the call as it read before'; 0 by the template 'total and deterministic' (their statements: YtkgocfaajfaidaaTotals.lean).
  GIVEN WITH THE SEED: the statements are not yours to turn. If you find one false, say at which input.
  Laid BY PROGRAM, IN A SANDBOX (cutbox-rows.mjs): the forced cells as the released guide's own fill.sh prints them over the translation 80a5f4f9440414e9… (all of the seat's roots in one cut). By AI agents, Wed Nov 11 2026. No macro, syntax, notation, axiom, sorry.
-/
import Derived.Test.YtkgocfaajfaidaaChecked
import GoSem.Claim
import GoSem.ClaimJoined
import GoSem.ClaimMapViews
import Derived.JoinedTies
import Derived.KernelRfl
namespace Go.Proofs.Ytkgocfaajfaidaa
/- THE CELL 'sum', in the pinned program and in every row, IS THE sha256 OF THE DUMP (.gsa) THAT YtkgocfaajfaidaaProg.lean LOADS. Nothing in Lean hashes anything: it is a label: what it is worth is what the hold of that sum in a sandbox is worth. -/
noncomputable def Try.pinned : Pinned := { name := "ytkgocfaajfaidaa", sum := "80a5f4f9440414e96b6f32c5e8e2dcf5ce0f88ff9206739b8a85cdfa6f670b21", checked := Try.checked }
namespace Rows
def none {H : Type} : Left H := { results := [], args := [] }

/-- 'stowagelaw9.KvData': WHATEVER THE INPUT: true; the input reads as it did. -/
def kvDataSpec : ChangeSpec := { name := "kvData", fn := fun _ => fun
  | [d] => { results := [.lit (.bool true)], args := [d] }
  | _ => none }
def kvDataRow : OpenClaim := { program := "ytkgocfaajfaidaa", sum := "80a5f4f9440414e96b6f32c5e8e2dcf5ce0f88ff9206739b8a85cdfa6f670b21", func := "stowage/stowagelaw9.KvData", spec := "kvData", inPlace := ["slices.overlaps[stowage/btree.node]", "slices.overlaps[string]"], unfollowed := true, recurses := true, apart := false }
def KvDataSaid : Prop := kvDataRow.holds Try.pinned (OpenSpec.ofChange kvDataSpec)

/-- ITS FALSE NEIGHBOUR: 'it returns false'. Refute it at one input. -/
def kvDataWrong : ChangeSpec := { name := "kvData", fn := fun _ => fun
  | [d] => { results := [.lit (.bool false)], args := [d] }
  | _ => none }
def KvDataWrongFalsely : Prop := kvDataRow.holds Try.pinned (OpenSpec.ofChange kvDataWrong)

/-- 'stowagelaw9.KvRefuses': WHATEVER THE INPUT: true; the input reads as it did. -/
def kvRefusesSpec : ChangeSpec := { name := "kvRefuses", fn := fun _ => fun
  | [d] => { results := [.lit (.bool true)], args := [d] }
  | _ => none }
def kvRefusesRow : OpenClaim := { program := "ytkgocfaajfaidaa", sum := "80a5f4f9440414e96b6f32c5e8e2dcf5ce0f88ff9206739b8a85cdfa6f670b21", func := "stowage/stowagelaw9.KvRefuses", spec := "kvRefuses", inPlace := ["slices.overlaps[stowage/btree.node]", "slices.overlaps[string]"], unfollowed := true, recurses := true, apart := false }
def KvRefusesSaid : Prop := kvRefusesRow.holds Try.pinned (OpenSpec.ofChange kvRefusesSpec)

/-- ITS FALSE NEIGHBOUR: 'it returns false'. Refute it at one input. -/
def kvRefusesWrong : ChangeSpec := { name := "kvRefuses", fn := fun _ => fun
  | [d] => { results := [.lit (.bool false)], args := [d] }
  | _ => none }
def KvRefusesWrongFalsely : Prop := kvRefusesRow.holds Try.pinned (OpenSpec.ofChange kvRefusesWrong)

/-- 'stowagelaw9.KvSnapshots': WHATEVER THE INPUT: true; the input reads as it did. -/
def kvSnapshotsSpec : ChangeSpec := { name := "kvSnapshots", fn := fun _ => fun
  | [d] => { results := [.lit (.bool true)], args := [d] }
  | _ => none }
def kvSnapshotsRow : OpenClaim := { program := "ytkgocfaajfaidaa", sum := "80a5f4f9440414e96b6f32c5e8e2dcf5ce0f88ff9206739b8a85cdfa6f670b21", func := "stowage/stowagelaw9.KvSnapshots", spec := "kvSnapshots", inPlace := ["slices.overlaps[stowage/btree.node]", "slices.overlaps[string]"], unfollowed := true, recurses := true, apart := false }
def KvSnapshotsSaid : Prop := kvSnapshotsRow.holds Try.pinned (OpenSpec.ofChange kvSnapshotsSpec)

/-- ITS FALSE NEIGHBOUR: 'it returns false'. Refute it at one input. -/
def kvSnapshotsWrong : ChangeSpec := { name := "kvSnapshots", fn := fun _ => fun
  | [d] => { results := [.lit (.bool false)], args := [d] }
  | _ => none }
def KvSnapshotsWrongFalsely : Prop := kvSnapshotsRow.holds Try.pinned (OpenSpec.ofChange kvSnapshotsWrong)

/-- 'stowagelaw9.KvMerges': WHATEVER THE INPUT: true; the input reads as it did. -/
def kvMergesSpec : ChangeSpec := { name := "kvMerges", fn := fun _ => fun
  | [d] => { results := [.lit (.bool true)], args := [d] }
  | _ => none }
def kvMergesRow : OpenClaim := { program := "ytkgocfaajfaidaa", sum := "80a5f4f9440414e96b6f32c5e8e2dcf5ce0f88ff9206739b8a85cdfa6f670b21", func := "stowage/stowagelaw9.KvMerges", spec := "kvMerges", inPlace := ["slices.overlaps[stowage/btree.node]", "slices.overlaps[string]"], unfollowed := true, recurses := true, apart := false }
def KvMergesSaid : Prop := kvMergesRow.holds Try.pinned (OpenSpec.ofChange kvMergesSpec)

/-- ITS FALSE NEIGHBOUR: 'it returns false'. Refute it at one input. -/
def kvMergesWrong : ChangeSpec := { name := "kvMerges", fn := fun _ => fun
  | [d] => { results := [.lit (.bool false)], args := [d] }
  | _ => none }
def KvMergesWrongFalsely : Prop := kvMergesRow.holds Try.pinned (OpenSpec.ofChange kvMergesWrong)

/-- 'stowagelaw9.KvChecks': WHATEVER THE INPUT: true; the input reads as it did. -/
def kvChecksSpec : ChangeSpec := { name := "kvChecks", fn := fun _ => fun
  | [d] => { results := [.lit (.bool true)], args := [d] }
  | _ => none }
def kvChecksRow : OpenClaim := { program := "ytkgocfaajfaidaa", sum := "80a5f4f9440414e96b6f32c5e8e2dcf5ce0f88ff9206739b8a85cdfa6f670b21", func := "stowage/stowagelaw9.KvChecks", spec := "kvChecks", inPlace := ["slices.overlaps[stowage/btree.node]", "slices.overlaps[string]"], unfollowed := true, recurses := true, apart := false }
def KvChecksSaid : Prop := kvChecksRow.holds Try.pinned (OpenSpec.ofChange kvChecksSpec)

/-- ITS FALSE NEIGHBOUR: 'it returns false'. Refute it at one input. -/
def kvChecksWrong : ChangeSpec := { name := "kvChecks", fn := fun _ => fun
  | [d] => { results := [.lit (.bool false)], args := [d] }
  | _ => none }
def KvChecksWrongFalsely : Prop := kvChecksRow.holds Try.pinned (OpenSpec.ofChange kvChecksWrong)

/-- 'stowagelaw9.KvAgain': WHATEVER THE INPUT: true; the input reads as it did. -/
def kvAgainSpec : ChangeSpec := { name := "kvAgain", fn := fun _ => fun
  | [d1, d2] => { results := [.lit (.bool true)], args := [d1, d2] }
  | _ => none }
def kvAgainRow : OpenClaim := { program := "ytkgocfaajfaidaa", sum := "80a5f4f9440414e96b6f32c5e8e2dcf5ce0f88ff9206739b8a85cdfa6f670b21", func := "stowage/stowagelaw9.KvAgain", spec := "kvAgain", inPlace := ["slices.overlaps[stowage/btree.node]", "slices.overlaps[string]"], unfollowed := true, recurses := true, apart := false }
def KvAgainSaid : Prop := kvAgainRow.holds Try.pinned (OpenSpec.ofChange kvAgainSpec)

/-- ITS FALSE NEIGHBOUR: 'it returns false'. Refute it at one input. -/
def kvAgainWrong : ChangeSpec := { name := "kvAgain", fn := fun _ => fun
  | [d1, d2] => { results := [.lit (.bool false)], args := [d1, d2] }
  | _ => none }
def KvAgainWrongFalsely : Prop := kvAgainRow.holds Try.pinned (OpenSpec.ofChange kvAgainWrong)

/-- 'stowagelaw9.KvLasts': WHATEVER THE INPUT: true; the input reads as it did. -/
def kvLastsSpec : ChangeSpec := { name := "kvLasts", fn := fun _ => fun
  | [d1, d2, d3, d4, d5] => { results := [.lit (.bool true)], args := [d1, d2, d3, d4, d5] }
  | _ => none }
def kvLastsRow : OpenClaim := { program := "ytkgocfaajfaidaa", sum := "80a5f4f9440414e96b6f32c5e8e2dcf5ce0f88ff9206739b8a85cdfa6f670b21", func := "stowage/stowagelaw9.KvLasts", spec := "kvLasts", inPlace := ["slices.overlaps[stowage/btree.node]", "slices.overlaps[string]"], unfollowed := true, recurses := true, apart := false }
def KvLastsSaid : Prop := kvLastsRow.holds Try.pinned (OpenSpec.ofChange kvLastsSpec)

/-- ITS FALSE NEIGHBOUR: 'it returns false'. Refute it at one input. -/
def kvLastsWrong : ChangeSpec := { name := "kvLasts", fn := fun _ => fun
  | [d1, d2, d3, d4, d5] => { results := [.lit (.bool false)], args := [d1, d2, d3, d4, d5] }
  | _ => none }
def KvLastsWrongFalsely : Prop := kvLastsRow.holds Try.pinned (OpenSpec.ofChange kvLastsWrong)

/- THE SECOND FORM. 'bulk': how many values and letters a reading holds, each counted each time it is reached (what is shared counts as often as it is met; a slice's spare places count too). A statement '..UptoSaid' is the law's where the arguments, and the package variables that the reading takes, are together of bulk at most 1048576: NARROWER than '..Said'. Prove '..Said' where nothing that the law and all that it calls make is longer than what came in: it says more and counts as full. Else prove '..UptoSaid'. A law counts once. -/
mutual
def uptoBulk {H : Type} : DataW H → Nat
  | .lit (.string bytes) => bytes.length + 1
  | .lit _ => 1
  | .nil => 1
  | .ptr d => uptoBulk d + 1
  | .slice elems spare => uptoBulkAll elems + uptoBulkAll spare + 1
  | .agg parts => uptoBulkAll parts + 1
  | .iface _ d => uptoBulk d + 1
  | .map entries => uptoBulkEntries entries + 1
  | .held _ => 1
def uptoBulkAll {H : Type} : List (DataW H) → Nat
  | [] => 0
  | d :: r => uptoBulk d + uptoBulkAll r
def uptoBulkEntries {H : Type} : List (Lit × DataW H) → Nat
  | [] => 0
  | x :: r => uptoBulkEntry x + uptoBulkEntries r
def uptoBulkEntry {H : Type} : Lit × DataW H → Nat
  | (.string bytes, d) => bytes.length + uptoBulk d + 1
  | (_, d) => uptoBulk d + 1
 end
def uptoSmall : (H : Type) → List (DataW H) → Bool := fun _ ds => decide (uptoBulkAll ds ≤ 1048576)
def OpenSpec.upto (s : _root_.Go.ChangeSpec) : _root_.Go.OpenSpec := { _root_.Go.OpenSpec.ofChange s with cond := some uptoSmall }

/-- 'stowagelaw9.KvData', WHERE WHAT IT READS IS OF BULK AT MOST 1048576: true; the input reads as it did. -/
def kvDataUptoRow : OpenClaim := { program := "ytkgocfaajfaidaa", sum := "80a5f4f9440414e96b6f32c5e8e2dcf5ce0f88ff9206739b8a85cdfa6f670b21", func := "stowage/stowagelaw9.KvData", spec := "kvData", inPlace := ["slices.overlaps[stowage/btree.node]", "slices.overlaps[string]"], unfollowed := true, recurses := true, apart := false, narrowed := true }
def KvDataUptoSaid : Prop := kvDataUptoRow.holds Try.pinned (OpenSpec.upto kvDataSpec)

/-- 'stowagelaw9.KvRefuses', WHERE WHAT IT READS IS OF BULK AT MOST 1048576: true; the input reads as it did. -/
def kvRefusesUptoRow : OpenClaim := { program := "ytkgocfaajfaidaa", sum := "80a5f4f9440414e96b6f32c5e8e2dcf5ce0f88ff9206739b8a85cdfa6f670b21", func := "stowage/stowagelaw9.KvRefuses", spec := "kvRefuses", inPlace := ["slices.overlaps[stowage/btree.node]", "slices.overlaps[string]"], unfollowed := true, recurses := true, apart := false, narrowed := true }
def KvRefusesUptoSaid : Prop := kvRefusesUptoRow.holds Try.pinned (OpenSpec.upto kvRefusesSpec)

/-- 'stowagelaw9.KvSnapshots', WHERE WHAT IT READS IS OF BULK AT MOST 1048576: true; the input reads as it did. -/
def kvSnapshotsUptoRow : OpenClaim := { program := "ytkgocfaajfaidaa", sum := "80a5f4f9440414e96b6f32c5e8e2dcf5ce0f88ff9206739b8a85cdfa6f670b21", func := "stowage/stowagelaw9.KvSnapshots", spec := "kvSnapshots", inPlace := ["slices.overlaps[stowage/btree.node]", "slices.overlaps[string]"], unfollowed := true, recurses := true, apart := false, narrowed := true }
def KvSnapshotsUptoSaid : Prop := kvSnapshotsUptoRow.holds Try.pinned (OpenSpec.upto kvSnapshotsSpec)

/-- 'stowagelaw9.KvMerges', WHERE WHAT IT READS IS OF BULK AT MOST 1048576: true; the input reads as it did. -/
def kvMergesUptoRow : OpenClaim := { program := "ytkgocfaajfaidaa", sum := "80a5f4f9440414e96b6f32c5e8e2dcf5ce0f88ff9206739b8a85cdfa6f670b21", func := "stowage/stowagelaw9.KvMerges", spec := "kvMerges", inPlace := ["slices.overlaps[stowage/btree.node]", "slices.overlaps[string]"], unfollowed := true, recurses := true, apart := false, narrowed := true }
def KvMergesUptoSaid : Prop := kvMergesUptoRow.holds Try.pinned (OpenSpec.upto kvMergesSpec)

/-- 'stowagelaw9.KvChecks', WHERE WHAT IT READS IS OF BULK AT MOST 1048576: true; the input reads as it did. -/
def kvChecksUptoRow : OpenClaim := { program := "ytkgocfaajfaidaa", sum := "80a5f4f9440414e96b6f32c5e8e2dcf5ce0f88ff9206739b8a85cdfa6f670b21", func := "stowage/stowagelaw9.KvChecks", spec := "kvChecks", inPlace := ["slices.overlaps[stowage/btree.node]", "slices.overlaps[string]"], unfollowed := true, recurses := true, apart := false, narrowed := true }
def KvChecksUptoSaid : Prop := kvChecksUptoRow.holds Try.pinned (OpenSpec.upto kvChecksSpec)

/-- 'stowagelaw9.KvAgain', WHERE WHAT IT READS IS OF BULK AT MOST 1048576: true; the input reads as it did. -/
def kvAgainUptoRow : OpenClaim := { program := "ytkgocfaajfaidaa", sum := "80a5f4f9440414e96b6f32c5e8e2dcf5ce0f88ff9206739b8a85cdfa6f670b21", func := "stowage/stowagelaw9.KvAgain", spec := "kvAgain", inPlace := ["slices.overlaps[stowage/btree.node]", "slices.overlaps[string]"], unfollowed := true, recurses := true, apart := false, narrowed := true }
def KvAgainUptoSaid : Prop := kvAgainUptoRow.holds Try.pinned (OpenSpec.upto kvAgainSpec)

/-- 'stowagelaw9.KvLasts', WHERE WHAT IT READS IS OF BULK AT MOST 1048576: true; the input reads as it did. -/
def kvLastsUptoRow : OpenClaim := { program := "ytkgocfaajfaidaa", sum := "80a5f4f9440414e96b6f32c5e8e2dcf5ce0f88ff9206739b8a85cdfa6f670b21", func := "stowage/stowagelaw9.KvLasts", spec := "kvLasts", inPlace := ["slices.overlaps[stowage/btree.node]", "slices.overlaps[string]"], unfollowed := true, recurses := true, apart := false, narrowed := true }
def KvLastsUptoSaid : Prop := kvLastsUptoRow.holds Try.pinned (OpenSpec.upto kvLastsSpec)

end Rows
end Go.Proofs.Ytkgocfaajfaidaa
