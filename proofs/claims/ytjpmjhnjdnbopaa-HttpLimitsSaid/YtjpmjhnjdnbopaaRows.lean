/-
  No cell of these rows narrows 'for every input' (looked for: loops, veiled, ifaces, maps, wideKeys, modest, calm, conditions, laid).
  DERIVED. THE GIVEN ROWS OF THIS SEAT. 8 by the template 'for every input the law returns true; each argument reads behind the call as it read before'; 0 by the template 'total and deterministic' (their statements: YtjpmjhnjdnbopaaTotals.lean).
  GIVEN WITH THE SEED: the statements are not yours to turn. If you find one false, say at which input.
  Laid BY PROGRAM, IN A SANDBOX (cutbox-rows.mjs): the forced cells as the released guide's own fill.sh prints them over the translation 33285415b8dfc848… (all of the seat's roots in one cut). By AI agents, Wed Nov 11 2026. No macro, syntax, notation, axiom, sorry.
-/
import Derived.Test.YtjpmjhnjdnbopaaChecked
import GoSem.Claim
import GoSem.ClaimJoined
import GoSem.ClaimMapViews
import Derived.JoinedTies
import Derived.KernelRfl
namespace Go.Proofs.Ytjpmjhnjdnbopaa
/- THE CELL 'sum', in the pinned program and in every row, IS THE sha256 OF THE DUMP (.gsa) THAT YtjpmjhnjdnbopaaProg.lean LOADS. Nothing in Lean hashes anything: it is a label: what it is worth is what the hold of that sum in a sandbox is worth. -/
noncomputable def Try.pinned : Pinned := { name := "ytjpmjhnjdnbopaa", sum := "33285415b8dfc8483454c63a4ec5d6f29af0a4900667e2ea4f7456467d5add13", checked := Try.checked }
namespace Rows
def none {H : Type} : Left H := { results := [], args := [] }

/-- 'stowagelaw16.HttpCuts': WHATEVER THE INPUT: true; the input reads as it did. -/
def httpCutsSpec : ChangeSpec := { name := "httpCuts", fn := fun _ => fun
  | [d1, d2] => { results := [.lit (.bool true)], args := [d1, d2] }
  | _ => none }
def httpCutsRow : OpenClaim := { program := "ytjpmjhnjdnbopaa", sum := "33285415b8dfc8483454c63a4ec5d6f29af0a4900667e2ea4f7456467d5add13", func := "stowage/stowagelaw16.HttpCuts", spec := "httpCuts", inPlace := ["internal/bytealg.IndexByteString", "internal/bytealg.IndexString"], unfollowed := true, recurses := true, named := ["internal/bytealg.MaxLen"], apart := false }
def HttpCutsSaid : Prop := httpCutsRow.holds Try.pinned (OpenSpec.ofChange httpCutsSpec)

/-- ITS FALSE NEIGHBOUR: 'it returns false'. Refute it at one input. -/
def httpCutsWrong : ChangeSpec := { name := "httpCuts", fn := fun _ => fun
  | [d1, d2] => { results := [.lit (.bool false)], args := [d1, d2] }
  | _ => none }
def HttpCutsWrongFalsely : Prop := httpCutsRow.holds Try.pinned (OpenSpec.ofChange httpCutsWrong)

/-- 'stowagelaw16.HttpChunks': WHATEVER THE INPUT: true; the input reads as it did. -/
def httpChunksSpec : ChangeSpec := { name := "httpChunks", fn := fun _ => fun
  | [d1, d2, d3] => { results := [.lit (.bool true)], args := [d1, d2, d3] }
  | _ => none }
def httpChunksRow : OpenClaim := { program := "ytjpmjhnjdnbopaa", sum := "33285415b8dfc8483454c63a4ec5d6f29af0a4900667e2ea4f7456467d5add13", func := "stowage/stowagelaw16.HttpChunks", spec := "httpChunks", inPlace := ["internal/bytealg.IndexByteString", "internal/bytealg.IndexString"], unfollowed := true, recurses := true, named := ["internal/bytealg.MaxLen"], apart := false }
def HttpChunksSaid : Prop := httpChunksRow.holds Try.pinned (OpenSpec.ofChange httpChunksSpec)

/-- ITS FALSE NEIGHBOUR: 'it returns false'. Refute it at one input. -/
def httpChunksWrong : ChangeSpec := { name := "httpChunks", fn := fun _ => fun
  | [d1, d2, d3] => { results := [.lit (.bool false)], args := [d1, d2, d3] }
  | _ => none }
def HttpChunksWrongFalsely : Prop := httpChunksRow.holds Try.pinned (OpenSpec.ofChange httpChunksWrong)

/-- 'stowagelaw16.HttpLimits': WHATEVER THE INPUT: true; the input reads as it did. -/
def httpLimitsSpec : ChangeSpec := { name := "httpLimits", fn := fun _ => fun
  | [d1, d2, d3] => { results := [.lit (.bool true)], args := [d1, d2, d3] }
  | _ => none }
def httpLimitsRow : OpenClaim := { program := "ytjpmjhnjdnbopaa", sum := "33285415b8dfc8483454c63a4ec5d6f29af0a4900667e2ea4f7456467d5add13", func := "stowage/stowagelaw16.HttpLimits", spec := "httpLimits", inPlace := ["internal/bytealg.IndexByteString", "internal/bytealg.IndexString"], unfollowed := true, recurses := true, named := ["internal/bytealg.MaxLen"], apart := false }
def HttpLimitsSaid : Prop := httpLimitsRow.holds Try.pinned (OpenSpec.ofChange httpLimitsSpec)

/-- ITS FALSE NEIGHBOUR: 'it returns false'. Refute it at one input. -/
def httpLimitsWrong : ChangeSpec := { name := "httpLimits", fn := fun _ => fun
  | [d1, d2, d3] => { results := [.lit (.bool false)], args := [d1, d2, d3] }
  | _ => none }
def HttpLimitsWrongFalsely : Prop := httpLimitsRow.holds Try.pinned (OpenSpec.ofChange httpLimitsWrong)

/-- 'stowagelaw16.HttpLent': WHATEVER THE INPUT: true; the input reads as it did. -/
def httpLentSpec : ChangeSpec := { name := "httpLent", fn := fun _ => fun
  | [d] => { results := [.lit (.bool true)], args := [d] }
  | _ => none }
def httpLentRow : OpenClaim := { program := "ytjpmjhnjdnbopaa", sum := "33285415b8dfc8483454c63a4ec5d6f29af0a4900667e2ea4f7456467d5add13", func := "stowage/stowagelaw16.HttpLent", spec := "httpLent", inPlace := ["internal/bytealg.IndexByteString", "internal/bytealg.IndexString"], unfollowed := true, recurses := true, named := ["internal/bytealg.MaxLen"], apart := false }
def HttpLentSaid : Prop := httpLentRow.holds Try.pinned (OpenSpec.ofChange httpLentSpec)

/-- ITS FALSE NEIGHBOUR: 'it returns false'. Refute it at one input. -/
def httpLentWrong : ChangeSpec := { name := "httpLent", fn := fun _ => fun
  | [d] => { results := [.lit (.bool false)], args := [d] }
  | _ => none }
def HttpLentWrongFalsely : Prop := httpLentRow.holds Try.pinned (OpenSpec.ofChange httpLentWrong)

/-- 'stowagelaw16.HttpPipes': WHATEVER THE INPUT: true; the input reads as it did. -/
def httpPipesSpec : ChangeSpec := { name := "httpPipes", fn := fun _ => fun
  | [d] => { results := [.lit (.bool true)], args := [d] }
  | _ => none }
def httpPipesRow : OpenClaim := { program := "ytjpmjhnjdnbopaa", sum := "33285415b8dfc8483454c63a4ec5d6f29af0a4900667e2ea4f7456467d5add13", func := "stowage/stowagelaw16.HttpPipes", spec := "httpPipes", inPlace := ["internal/bytealg.IndexByteString", "internal/bytealg.IndexString"], unfollowed := true, recurses := true, named := ["internal/bytealg.MaxLen"], apart := false }
def HttpPipesSaid : Prop := httpPipesRow.holds Try.pinned (OpenSpec.ofChange httpPipesSpec)

/-- ITS FALSE NEIGHBOUR: 'it returns false'. Refute it at one input. -/
def httpPipesWrong : ChangeSpec := { name := "httpPipes", fn := fun _ => fun
  | [d] => { results := [.lit (.bool false)], args := [d] }
  | _ => none }
def HttpPipesWrongFalsely : Prop := httpPipesRow.holds Try.pinned (OpenSpec.ofChange httpPipesWrong)

/-- 'stowagelaw16.HttpCase': WHATEVER THE INPUT: true; the input reads as it did. -/
def httpCaseSpec : ChangeSpec := { name := "httpCase", fn := fun _ => fun
  | [d1, d2, d3] => { results := [.lit (.bool true)], args := [d1, d2, d3] }
  | _ => none }
def httpCaseRow : OpenClaim := { program := "ytjpmjhnjdnbopaa", sum := "33285415b8dfc8483454c63a4ec5d6f29af0a4900667e2ea4f7456467d5add13", func := "stowage/stowagelaw16.HttpCase", spec := "httpCase", inPlace := ["internal/bytealg.IndexByteString", "internal/bytealg.IndexString"], unfollowed := true, recurses := true, named := ["internal/bytealg.MaxLen"], apart := false }
def HttpCaseSaid : Prop := httpCaseRow.holds Try.pinned (OpenSpec.ofChange httpCaseSpec)

/-- ITS FALSE NEIGHBOUR: 'it returns false'. Refute it at one input. -/
def httpCaseWrong : ChangeSpec := { name := "httpCase", fn := fun _ => fun
  | [d1, d2, d3] => { results := [.lit (.bool false)], args := [d1, d2, d3] }
  | _ => none }
def HttpCaseWrongFalsely : Prop := httpCaseRow.holds Try.pinned (OpenSpec.ofChange httpCaseWrong)

/-- 'stowagelaw16.HttpQueries': WHATEVER THE INPUT: true; the input reads as it did. -/
def httpQueriesSpec : ChangeSpec := { name := "httpQueries", fn := fun _ => fun
  | [d1, d2, d3] => { results := [.lit (.bool true)], args := [d1, d2, d3] }
  | _ => none }
def httpQueriesRow : OpenClaim := { program := "ytjpmjhnjdnbopaa", sum := "33285415b8dfc8483454c63a4ec5d6f29af0a4900667e2ea4f7456467d5add13", func := "stowage/stowagelaw16.HttpQueries", spec := "httpQueries", inPlace := ["internal/bytealg.IndexByteString", "internal/bytealg.IndexString"], unfollowed := true, recurses := true, named := ["internal/bytealg.MaxLen"], apart := false }
def HttpQueriesSaid : Prop := httpQueriesRow.holds Try.pinned (OpenSpec.ofChange httpQueriesSpec)

/-- ITS FALSE NEIGHBOUR: 'it returns false'. Refute it at one input. -/
def httpQueriesWrong : ChangeSpec := { name := "httpQueries", fn := fun _ => fun
  | [d1, d2, d3] => { results := [.lit (.bool false)], args := [d1, d2, d3] }
  | _ => none }
def HttpQueriesWrongFalsely : Prop := httpQueriesRow.holds Try.pinned (OpenSpec.ofChange httpQueriesWrong)

/-- 'stowagelaw16.HttpBack': WHATEVER THE INPUT: true; the input reads as it did. -/
def httpBackSpec : ChangeSpec := { name := "httpBack", fn := fun _ => fun
  | [d1, d2] => { results := [.lit (.bool true)], args := [d1, d2] }
  | _ => none }
def httpBackRow : OpenClaim := { program := "ytjpmjhnjdnbopaa", sum := "33285415b8dfc8483454c63a4ec5d6f29af0a4900667e2ea4f7456467d5add13", func := "stowage/stowagelaw16.HttpBack", spec := "httpBack", inPlace := ["internal/abi.NoEscape", "internal/bytealg.IndexByteString", "internal/bytealg.IndexString"], unfollowed := true, recurses := true, named := ["internal/bytealg.MaxLen"], apart := false }
def HttpBackSaid : Prop := httpBackRow.holds Try.pinned (OpenSpec.ofChange httpBackSpec)

/-- ITS FALSE NEIGHBOUR: 'it returns false'. Refute it at one input. -/
def httpBackWrong : ChangeSpec := { name := "httpBack", fn := fun _ => fun
  | [d1, d2] => { results := [.lit (.bool false)], args := [d1, d2] }
  | _ => none }
def HttpBackWrongFalsely : Prop := httpBackRow.holds Try.pinned (OpenSpec.ofChange httpBackWrong)

/- THE SECOND FORM. 'bulk': how many values and letters a reading holds, each counted each time it is reached (what is shared counts as often as it is met; a slice's spare places count too). A statement '..UptoSaid' is the law's where the arguments, and the package variables that the reading takes, are together of bulk at most 1048576: NARROWER than '..Said'. Prove '..Said' where nothing that the law and all that it calls make is longer than what came in: it says more and counts as full. Else prove '..UptoSaid'. A law counts once. -/
mutual
def uptoBulk {H : Type} : DataW H → Nat
  | .lit (.string bytes) => bytes.length + 1
  | .lit _ => 1
  | .nil => 1
  | .ptr d => uptoBulk d + 1
  | .slice elems spare => uptoBulkAll elems + uptoBulkAll spare + 1
  | .agg parts => uptoBulkAll parts + 1
  | .iface _ d => uptoBulk d + 1
  | .map entries => uptoBulkEntries entries + 1
  | .held _ => 1
def uptoBulkAll {H : Type} : List (DataW H) → Nat
  | [] => 0
  | d :: r => uptoBulk d + uptoBulkAll r
def uptoBulkEntries {H : Type} : List (Lit × DataW H) → Nat
  | [] => 0
  | x :: r => uptoBulkEntry x + uptoBulkEntries r
def uptoBulkEntry {H : Type} : Lit × DataW H → Nat
  | (.string bytes, d) => bytes.length + uptoBulk d + 1
  | (_, d) => uptoBulk d + 1
 end
def uptoSmall : (H : Type) → List (DataW H) → Bool := fun _ ds => decide (uptoBulkAll ds ≤ 1048576)
def OpenSpec.upto (s : _root_.Go.ChangeSpec) : _root_.Go.OpenSpec := { _root_.Go.OpenSpec.ofChange s with cond := some uptoSmall }

/-- 'stowagelaw16.HttpCuts', WHERE WHAT IT READS IS OF BULK AT MOST 1048576: true; the input reads as it did. -/
def httpCutsUptoRow : OpenClaim := { program := "ytjpmjhnjdnbopaa", sum := "33285415b8dfc8483454c63a4ec5d6f29af0a4900667e2ea4f7456467d5add13", func := "stowage/stowagelaw16.HttpCuts", spec := "httpCuts", inPlace := ["internal/bytealg.IndexByteString", "internal/bytealg.IndexString"], unfollowed := true, recurses := true, named := ["internal/bytealg.MaxLen"], apart := false, narrowed := true }
def HttpCutsUptoSaid : Prop := httpCutsUptoRow.holds Try.pinned (OpenSpec.upto httpCutsSpec)

/-- 'stowagelaw16.HttpChunks', WHERE WHAT IT READS IS OF BULK AT MOST 1048576: true; the input reads as it did. -/
def httpChunksUptoRow : OpenClaim := { program := "ytjpmjhnjdnbopaa", sum := "33285415b8dfc8483454c63a4ec5d6f29af0a4900667e2ea4f7456467d5add13", func := "stowage/stowagelaw16.HttpChunks", spec := "httpChunks", inPlace := ["internal/bytealg.IndexByteString", "internal/bytealg.IndexString"], unfollowed := true, recurses := true, named := ["internal/bytealg.MaxLen"], apart := false, narrowed := true }
def HttpChunksUptoSaid : Prop := httpChunksUptoRow.holds Try.pinned (OpenSpec.upto httpChunksSpec)

/-- 'stowagelaw16.HttpLimits', WHERE WHAT IT READS IS OF BULK AT MOST 1048576: true; the input reads as it did. -/
def httpLimitsUptoRow : OpenClaim := { program := "ytjpmjhnjdnbopaa", sum := "33285415b8dfc8483454c63a4ec5d6f29af0a4900667e2ea4f7456467d5add13", func := "stowage/stowagelaw16.HttpLimits", spec := "httpLimits", inPlace := ["internal/bytealg.IndexByteString", "internal/bytealg.IndexString"], unfollowed := true, recurses := true, named := ["internal/bytealg.MaxLen"], apart := false, narrowed := true }
def HttpLimitsUptoSaid : Prop := httpLimitsUptoRow.holds Try.pinned (OpenSpec.upto httpLimitsSpec)

/-- 'stowagelaw16.HttpLent', WHERE WHAT IT READS IS OF BULK AT MOST 1048576: true; the input reads as it did. -/
def httpLentUptoRow : OpenClaim := { program := "ytjpmjhnjdnbopaa", sum := "33285415b8dfc8483454c63a4ec5d6f29af0a4900667e2ea4f7456467d5add13", func := "stowage/stowagelaw16.HttpLent", spec := "httpLent", inPlace := ["internal/bytealg.IndexByteString", "internal/bytealg.IndexString"], unfollowed := true, recurses := true, named := ["internal/bytealg.MaxLen"], apart := false, narrowed := true }
def HttpLentUptoSaid : Prop := httpLentUptoRow.holds Try.pinned (OpenSpec.upto httpLentSpec)

/-- 'stowagelaw16.HttpPipes', WHERE WHAT IT READS IS OF BULK AT MOST 1048576: true; the input reads as it did. -/
def httpPipesUptoRow : OpenClaim := { program := "ytjpmjhnjdnbopaa", sum := "33285415b8dfc8483454c63a4ec5d6f29af0a4900667e2ea4f7456467d5add13", func := "stowage/stowagelaw16.HttpPipes", spec := "httpPipes", inPlace := ["internal/bytealg.IndexByteString", "internal/bytealg.IndexString"], unfollowed := true, recurses := true, named := ["internal/bytealg.MaxLen"], apart := false, narrowed := true }
def HttpPipesUptoSaid : Prop := httpPipesUptoRow.holds Try.pinned (OpenSpec.upto httpPipesSpec)

/-- 'stowagelaw16.HttpCase', WHERE WHAT IT READS IS OF BULK AT MOST 1048576: true; the input reads as it did. -/
def httpCaseUptoRow : OpenClaim := { program := "ytjpmjhnjdnbopaa", sum := "33285415b8dfc8483454c63a4ec5d6f29af0a4900667e2ea4f7456467d5add13", func := "stowage/stowagelaw16.HttpCase", spec := "httpCase", inPlace := ["internal/bytealg.IndexByteString", "internal/bytealg.IndexString"], unfollowed := true, recurses := true, named := ["internal/bytealg.MaxLen"], apart := false, narrowed := true }
def HttpCaseUptoSaid : Prop := httpCaseUptoRow.holds Try.pinned (OpenSpec.upto httpCaseSpec)

/-- 'stowagelaw16.HttpQueries', WHERE WHAT IT READS IS OF BULK AT MOST 1048576: true; the input reads as it did. -/
def httpQueriesUptoRow : OpenClaim := { program := "ytjpmjhnjdnbopaa", sum := "33285415b8dfc8483454c63a4ec5d6f29af0a4900667e2ea4f7456467d5add13", func := "stowage/stowagelaw16.HttpQueries", spec := "httpQueries", inPlace := ["internal/bytealg.IndexByteString", "internal/bytealg.IndexString"], unfollowed := true, recurses := true, named := ["internal/bytealg.MaxLen"], apart := false, narrowed := true }
def HttpQueriesUptoSaid : Prop := httpQueriesUptoRow.holds Try.pinned (OpenSpec.upto httpQueriesSpec)

/-- 'stowagelaw16.HttpBack', WHERE WHAT IT READS IS OF BULK AT MOST 1048576: true; the input reads as it did. -/
def httpBackUptoRow : OpenClaim := { program := "ytjpmjhnjdnbopaa", sum := "33285415b8dfc8483454c63a4ec5d6f29af0a4900667e2ea4f7456467d5add13", func := "stowage/stowagelaw16.HttpBack", spec := "httpBack", inPlace := ["internal/abi.NoEscape", "internal/bytealg.IndexByteString", "internal/bytealg.IndexString"], unfollowed := true, recurses := true, named := ["internal/bytealg.MaxLen"], apart := false, narrowed := true }
def HttpBackUptoSaid : Prop := httpBackUptoRow.holds Try.pinned (OpenSpec.upto httpBackSpec)

end Rows
end Go.Proofs.Ytjpmjhnjdnbopaa
