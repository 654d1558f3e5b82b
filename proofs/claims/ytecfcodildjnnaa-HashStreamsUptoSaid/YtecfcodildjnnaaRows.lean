/-
  No cell of these rows narrows 'for every input' (looked for: loops, veiled, ifaces, maps, wideKeys, modest, calm, conditions, laid).
  DERIVED. THE GIVEN ROWS OF THIS SEAT. 5 by the template 'for every input the law returns true; each argument reads behind the call as it read before'; 0 by the template 'total and deterministic' (their statements: YtecfcodildjnnaaTotals.lean).
  GIVEN WITH THE SEED: the statements are not yours to turn. If you find one false, say at which input.
  Laid BY PROGRAM, IN A SANDBOX (cutbox-rows.mjs): the forced cells as the released guide's own fill.sh prints them over the translation 0f74eac5ef7bbaa2… (all of the seat's roots in one cut). By AI agents, Wed Nov 11 2026. No macro, syntax, notation, axiom, sorry.
-/
import Derived.Test.YtecfcodildjnnaaChecked
import GoSem.Claim
import GoSem.ClaimJoined
import GoSem.ClaimMapViews
import Derived.JoinedTies
import Derived.KernelRfl
namespace Go.Proofs.Ytecfcodildjnnaa
/- THE CELL 'sum', in the pinned program and in every row, IS THE sha256 OF THE DUMP (.gsa) THAT YtecfcodildjnnaaProg.lean LOADS. Nothing in Lean hashes anything: it is a label: what it is worth is what the hold of that sum in a sandbox is worth. -/
noncomputable def Try.pinned : Pinned := { name := "ytecfcodildjnnaa", sum := "0f74eac5ef7bbaa29925093f201c0f8a669783b8305295fb07478ec115305925", checked := Try.checked }
namespace Rows
def none {H : Type} : Left H := { results := [], args := [] }

/-- 'stowagelaw2.HashSums': WHATEVER THE INPUT: true; the input reads as it did. -/
def hashSumsSpec : ChangeSpec := { name := "hashSums", fn := fun _ => fun
  | [d] => { results := [.lit (.bool true)], args := [d] }
  | _ => none }
def hashSumsRow : OpenClaim := { program := "ytecfcodildjnnaa", sum := "0f74eac5ef7bbaa29925093f201c0f8a669783b8305295fb07478ec115305925", func := "stowage/stowagelaw2.HashSums", spec := "hashSums", unfollowed := true, recurses := true, apart := false }
def HashSumsSaid : Prop := hashSumsRow.holds Try.pinned (OpenSpec.ofChange hashSumsSpec)

/-- ITS FALSE NEIGHBOUR: 'it returns false'. Refute it at one input. -/
def hashSumsWrong : ChangeSpec := { name := "hashSums", fn := fun _ => fun
  | [d] => { results := [.lit (.bool false)], args := [d] }
  | _ => none }
def HashSumsWrongFalsely : Prop := hashSumsRow.holds Try.pinned (OpenSpec.ofChange hashSumsWrong)

/-- 'stowagelaw2.HashBursts': WHATEVER THE INPUT: true; the input reads as it did. -/
def hashBurstsSpec : ChangeSpec := { name := "hashBursts", fn := fun _ => fun
  | [d1, d2, d3] => { results := [.lit (.bool true)], args := [d1, d2, d3] }
  | _ => none }
def hashBurstsRow : OpenClaim := { program := "ytecfcodildjnnaa", sum := "0f74eac5ef7bbaa29925093f201c0f8a669783b8305295fb07478ec115305925", func := "stowage/stowagelaw2.HashBursts", spec := "hashBursts", unfollowed := true, recurses := true, apart := false }
def HashBurstsSaid : Prop := hashBurstsRow.holds Try.pinned (OpenSpec.ofChange hashBurstsSpec)

/-- ITS FALSE NEIGHBOUR: 'it returns false'. Refute it at one input. -/
def hashBurstsWrong : ChangeSpec := { name := "hashBursts", fn := fun _ => fun
  | [d1, d2, d3] => { results := [.lit (.bool false)], args := [d1, d2, d3] }
  | _ => none }
def HashBurstsWrongFalsely : Prop := hashBurstsRow.holds Try.pinned (OpenSpec.ofChange hashBurstsWrong)

/-- 'stowagelaw2.HashStreams': WHATEVER THE INPUT: true; the input reads as it did. -/
def hashStreamsSpec : ChangeSpec := { name := "hashStreams", fn := fun _ => fun
  | [d1, d2, d3] => { results := [.lit (.bool true)], args := [d1, d2, d3] }
  | _ => none }
def hashStreamsRow : OpenClaim := { program := "ytecfcodildjnnaa", sum := "0f74eac5ef7bbaa29925093f201c0f8a669783b8305295fb07478ec115305925", func := "stowage/stowagelaw2.HashStreams", spec := "hashStreams", unfollowed := true, recurses := true, apart := false }
def HashStreamsSaid : Prop := hashStreamsRow.holds Try.pinned (OpenSpec.ofChange hashStreamsSpec)

/-- ITS FALSE NEIGHBOUR: 'it returns false'. Refute it at one input. -/
def hashStreamsWrong : ChangeSpec := { name := "hashStreams", fn := fun _ => fun
  | [d1, d2, d3] => { results := [.lit (.bool false)], args := [d1, d2, d3] }
  | _ => none }
def HashStreamsWrongFalsely : Prop := hashStreamsRow.holds Try.pinned (OpenSpec.ofChange hashStreamsWrong)

/-- 'stowagelaw2.HashKeys': WHATEVER THE INPUT: true; the input reads as it did. -/
def hashKeysSpec : ChangeSpec := { name := "hashKeys", fn := fun _ => fun
  | [d1, d2, d3] => { results := [.lit (.bool true)], args := [d1, d2, d3] }
  | _ => none }
def hashKeysRow : OpenClaim := { program := "ytecfcodildjnnaa", sum := "0f74eac5ef7bbaa29925093f201c0f8a669783b8305295fb07478ec115305925", func := "stowage/stowagelaw2.HashKeys", spec := "hashKeys", unfollowed := true, recurses := true, apart := false }
def HashKeysSaid : Prop := hashKeysRow.holds Try.pinned (OpenSpec.ofChange hashKeysSpec)

/-- ITS FALSE NEIGHBOUR: 'it returns false'. Refute it at one input. -/
def hashKeysWrong : ChangeSpec := { name := "hashKeys", fn := fun _ => fun
  | [d1, d2, d3] => { results := [.lit (.bool false)], args := [d1, d2, d3] }
  | _ => none }
def HashKeysWrongFalsely : Prop := hashKeysRow.holds Try.pinned (OpenSpec.ofChange hashKeysWrong)

/-- 'stowagelaw2.HashMacs': WHATEVER THE INPUT: true; the input reads as it did. -/
def hashMacsSpec : ChangeSpec := { name := "hashMacs", fn := fun _ => fun
  | [d1, d2] => { results := [.lit (.bool true)], args := [d1, d2] }
  | _ => none }
def hashMacsRow : OpenClaim := { program := "ytecfcodildjnnaa", sum := "0f74eac5ef7bbaa29925093f201c0f8a669783b8305295fb07478ec115305925", func := "stowage/stowagelaw2.HashMacs", spec := "hashMacs", unfollowed := true, recurses := true, apart := false }
def HashMacsSaid : Prop := hashMacsRow.holds Try.pinned (OpenSpec.ofChange hashMacsSpec)

/-- ITS FALSE NEIGHBOUR: 'it returns false'. Refute it at one input. -/
def hashMacsWrong : ChangeSpec := { name := "hashMacs", fn := fun _ => fun
  | [d1, d2] => { results := [.lit (.bool false)], args := [d1, d2] }
  | _ => none }
def HashMacsWrongFalsely : Prop := hashMacsRow.holds Try.pinned (OpenSpec.ofChange hashMacsWrong)

/- THE SECOND FORM. 'bulk': how many values and letters a reading holds, each counted each time it is reached (what is shared counts as often as it is met; a slice's spare places count too). A statement '..UptoSaid' is the law's where the arguments, and the package variables that the reading takes, are together of bulk at most 1048576: NARROWER than '..Said'. Prove '..Said' where nothing that the law and all that it calls make is longer than what came in: it says more and counts as full. Else prove '..UptoSaid'. A law counts once. -/
mutual
def uptoBulk {H : Type} : DataW H → Nat
  | .lit (.string bytes) => bytes.length + 1
  | .lit _ => 1
  | .nil => 1
  | .ptr d => uptoBulk d + 1
  | .slice elems spare => uptoBulkAll elems + uptoBulkAll spare + 1
  | .agg parts => uptoBulkAll parts + 1
  | .iface _ d => uptoBulk d + 1
  | .map entries => uptoBulkEntries entries + 1
  | .held _ => 1
def uptoBulkAll {H : Type} : List (DataW H) → Nat
  | [] => 0
  | d :: r => uptoBulk d + uptoBulkAll r
def uptoBulkEntries {H : Type} : List (Lit × DataW H) → Nat
  | [] => 0
  | x :: r => uptoBulkEntry x + uptoBulkEntries r
def uptoBulkEntry {H : Type} : Lit × DataW H → Nat
  | (.string bytes, d) => bytes.length + uptoBulk d + 1
  | (_, d) => uptoBulk d + 1
 end
def uptoSmall : (H : Type) → List (DataW H) → Bool := fun _ ds => decide (uptoBulkAll ds ≤ 1048576)
def OpenSpec.upto (s : _root_.Go.ChangeSpec) : _root_.Go.OpenSpec := { _root_.Go.OpenSpec.ofChange s with cond := some uptoSmall }

/-- 'stowagelaw2.HashSums', WHERE WHAT IT READS IS OF BULK AT MOST 1048576: true; the input reads as it did. -/
def hashSumsUptoRow : OpenClaim := { program := "ytecfcodildjnnaa", sum := "0f74eac5ef7bbaa29925093f201c0f8a669783b8305295fb07478ec115305925", func := "stowage/stowagelaw2.HashSums", spec := "hashSums", unfollowed := true, recurses := true, apart := false, narrowed := true }
def HashSumsUptoSaid : Prop := hashSumsUptoRow.holds Try.pinned (OpenSpec.upto hashSumsSpec)

/-- 'stowagelaw2.HashBursts', WHERE WHAT IT READS IS OF BULK AT MOST 1048576: true; the input reads as it did. -/
def hashBurstsUptoRow : OpenClaim := { program := "ytecfcodildjnnaa", sum := "0f74eac5ef7bbaa29925093f201c0f8a669783b8305295fb07478ec115305925", func := "stowage/stowagelaw2.HashBursts", spec := "hashBursts", unfollowed := true, recurses := true, apart := false, narrowed := true }
def HashBurstsUptoSaid : Prop := hashBurstsUptoRow.holds Try.pinned (OpenSpec.upto hashBurstsSpec)

/-- 'stowagelaw2.HashStreams', WHERE WHAT IT READS IS OF BULK AT MOST 1048576: true; the input reads as it did. -/
def hashStreamsUptoRow : OpenClaim := { program := "ytecfcodildjnnaa", sum := "0f74eac5ef7bbaa29925093f201c0f8a669783b8305295fb07478ec115305925", func := "stowage/stowagelaw2.HashStreams", spec := "hashStreams", unfollowed := true, recurses := true, apart := false, narrowed := true }
def HashStreamsUptoSaid : Prop := hashStreamsUptoRow.holds Try.pinned (OpenSpec.upto hashStreamsSpec)

/-- 'stowagelaw2.HashKeys', WHERE WHAT IT READS IS OF BULK AT MOST 1048576: true; the input reads as it did. -/
def hashKeysUptoRow : OpenClaim := { program := "ytecfcodildjnnaa", sum := "0f74eac5ef7bbaa29925093f201c0f8a669783b8305295fb07478ec115305925", func := "stowage/stowagelaw2.HashKeys", spec := "hashKeys", unfollowed := true, recurses := true, apart := false, narrowed := true }
def HashKeysUptoSaid : Prop := hashKeysUptoRow.holds Try.pinned (OpenSpec.upto hashKeysSpec)

/-- 'stowagelaw2.HashMacs', WHERE WHAT IT READS IS OF BULK AT MOST 1048576: true; the input reads as it did. -/
def hashMacsUptoRow : OpenClaim := { program := "ytecfcodildjnnaa", sum := "0f74eac5ef7bbaa29925093f201c0f8a669783b8305295fb07478ec115305925", func := "stowage/stowagelaw2.HashMacs", spec := "hashMacs", unfollowed := true, recurses := true, apart := false, narrowed := true }
def HashMacsUptoSaid : Prop := hashMacsUptoRow.holds Try.pinned (OpenSpec.upto hashMacsSpec)

end Rows
end Go.Proofs.Ytecfcodildjnnaa
