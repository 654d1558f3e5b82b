/-
  DERIVED. GIVEN WITH THE SEED: THE CARDS: each row of YtncffbocmpmejaaDoorRows.lean that lists a variable, with what it lists TIED to the program's text (the seventh form; the later family's looks); each row that meets fmt, with fmt's text TOLD by the authors' own Lean function (tested against real Go, not proved from fmt's source: count such statements apart). THE CARD IS WHAT COUNTS. Prove the row's statement (the work); the ties are given (YtncffbocmpmejaaDoorTie.lean); close each card by the builder's one call (the guide's Derived/Test/ToyasCard.lean, 'card_holds'). Laid BY PROGRAM, IN A SANDBOX (cutbox-door.mjs). By AI agents, Wed Nov 11 2026. No macro, syntax, notation, axiom, sorry.
-/
import Derived.Test.YtncffbocmpmejaaDoorRows
import GoSem.ClaimSeven
namespace Go.Proofs.YtncffbocmpmejaaDoor
namespace Rows

/-- THE TIED CARD OF 'stowagelaw19.ChunkDecodes'. -/
def chunkDecodesCard : Claim7 := { stood := { row := chunkDecodesRow, standIns := [], harness := (true, "6936599efd8060287293918b1ce89a4a43ab89ff1e560d5c9f0e9a6b03a8aac3"), looks := false }, kinds := [], alts := [], laidByText := true, laidKinds := [.data, .pinned], laidTests := true, laidLooks := .later }
def ChunkDecodesCardSaid : Prop := Claim7.holds Tryd.pinned (.plain (OpenSpec.ofChange chunkDecodesSpec)) chunkDecodesCard

/-- THE TIED CARD OF 'stowagelaw19.ChunkEncodes'. -/
def chunkEncodesCard : Claim7 := { stood := { row := chunkEncodesRow, standIns := [], harness := (true, "6936599efd8060287293918b1ce89a4a43ab89ff1e560d5c9f0e9a6b03a8aac3"), looks := false }, kinds := [], alts := [], laidByText := true, laidKinds := [.data, .pinned], laidTests := true, laidLooks := .later }
def ChunkEncodesCardSaid : Prop := Claim7.holds Tryd.pinned (.plain (OpenSpec.ofChange chunkEncodesSpec)) chunkEncodesCard

/-- THE TIED CARD OF 'stowagelaw19.ChunkBack'. -/
def chunkBackCard : Claim7 := { stood := { row := chunkBackRow, standIns := [], harness := (true, "6936599efd8060287293918b1ce89a4a43ab89ff1e560d5c9f0e9a6b03a8aac3"), looks := false }, kinds := [], alts := [], laidByText := true, laidKinds := [.data, .pinned], laidTests := true, laidLooks := .later }
def ChunkBackCardSaid : Prop := Claim7.holds Tryd.pinned (.plain (OpenSpec.ofChange chunkBackSpec)) chunkBackCard

/-- THE TIED CARD OF 'stowagelaw19.ChunkEnds'. -/
def chunkEndsCard : Claim7 := { stood := { row := chunkEndsRow, standIns := [], harness := (true, "6936599efd8060287293918b1ce89a4a43ab89ff1e560d5c9f0e9a6b03a8aac3"), looks := false }, kinds := [], alts := [], laidByText := true, laidKinds := [.data, .pinned], laidTests := true, laidLooks := .later }
def ChunkEndsCardSaid : Prop := Claim7.holds Tryd.pinned (.plain (OpenSpec.ofChange chunkEndsSpec)) chunkEndsCard

/-- THE TIED CARD OF 'stowagelaw19.ChunkCuts'. -/
def chunkCutsCard : Claim7 := { stood := { row := chunkCutsRow, standIns := [], harness := (true, "6936599efd8060287293918b1ce89a4a43ab89ff1e560d5c9f0e9a6b03a8aac3"), looks := false }, kinds := [], alts := [], laidByText := true, laidKinds := [.data, .pinned], laidTests := true, laidLooks := .later }
def ChunkCutsCardSaid : Prop := Claim7.holds Tryd.pinned (.plain (OpenSpec.ofChange chunkCutsSpec)) chunkCutsCard

/-- THE TIED CARD OF 'stowagelaw19.ChunkBodies'. -/
def chunkBodiesCard : Claim7 := { stood := { row := chunkBodiesRow, standIns := [], harness := (true, "6936599efd8060287293918b1ce89a4a43ab89ff1e560d5c9f0e9a6b03a8aac3"), looks := false }, kinds := [], alts := [], laidByText := true, laidKinds := [.data, .pinned], laidTests := true, laidLooks := .later }
def ChunkBodiesCardSaid : Prop := Claim7.holds Tryd.pinned (.plain (OpenSpec.ofChange chunkBodiesSpec)) chunkBodiesCard

/-- THE SECOND FORM's CARD OF 'stowagelaw19.ChunkDecodes'. -/
def chunkDecodesUptoCard : Claim7 := { stood := { row := chunkDecodesUptoRow, standIns := [], harness := (true, "6936599efd8060287293918b1ce89a4a43ab89ff1e560d5c9f0e9a6b03a8aac3"), looks := false }, kinds := [], alts := [], laidByText := true, laidKinds := [.data, .pinned], laidTests := true, laidLooks := .later }
def ChunkDecodesUptoCardSaid : Prop := Claim7.holds Tryd.pinned (.plain (OpenSpec.upto chunkDecodesSpec)) chunkDecodesUptoCard

/-- THE SECOND FORM's CARD OF 'stowagelaw19.ChunkEncodes'. -/
def chunkEncodesUptoCard : Claim7 := { stood := { row := chunkEncodesUptoRow, standIns := [], harness := (true, "6936599efd8060287293918b1ce89a4a43ab89ff1e560d5c9f0e9a6b03a8aac3"), looks := false }, kinds := [], alts := [], laidByText := true, laidKinds := [.data, .pinned], laidTests := true, laidLooks := .later }
def ChunkEncodesUptoCardSaid : Prop := Claim7.holds Tryd.pinned (.plain (OpenSpec.upto chunkEncodesSpec)) chunkEncodesUptoCard

/-- THE SECOND FORM's CARD OF 'stowagelaw19.ChunkBack'. -/
def chunkBackUptoCard : Claim7 := { stood := { row := chunkBackUptoRow, standIns := [], harness := (true, "6936599efd8060287293918b1ce89a4a43ab89ff1e560d5c9f0e9a6b03a8aac3"), looks := false }, kinds := [], alts := [], laidByText := true, laidKinds := [.data, .pinned], laidTests := true, laidLooks := .later }
def ChunkBackUptoCardSaid : Prop := Claim7.holds Tryd.pinned (.plain (OpenSpec.upto chunkBackSpec)) chunkBackUptoCard

/-- THE SECOND FORM's CARD OF 'stowagelaw19.ChunkEnds'. -/
def chunkEndsUptoCard : Claim7 := { stood := { row := chunkEndsUptoRow, standIns := [], harness := (true, "6936599efd8060287293918b1ce89a4a43ab89ff1e560d5c9f0e9a6b03a8aac3"), looks := false }, kinds := [], alts := [], laidByText := true, laidKinds := [.data, .pinned], laidTests := true, laidLooks := .later }
def ChunkEndsUptoCardSaid : Prop := Claim7.holds Tryd.pinned (.plain (OpenSpec.upto chunkEndsSpec)) chunkEndsUptoCard

/-- THE SECOND FORM's CARD OF 'stowagelaw19.ChunkCuts'. -/
def chunkCutsUptoCard : Claim7 := { stood := { row := chunkCutsUptoRow, standIns := [], harness := (true, "6936599efd8060287293918b1ce89a4a43ab89ff1e560d5c9f0e9a6b03a8aac3"), looks := false }, kinds := [], alts := [], laidByText := true, laidKinds := [.data, .pinned], laidTests := true, laidLooks := .later }
def ChunkCutsUptoCardSaid : Prop := Claim7.holds Tryd.pinned (.plain (OpenSpec.upto chunkCutsSpec)) chunkCutsUptoCard

/-- THE SECOND FORM's CARD OF 'stowagelaw19.ChunkBodies'. -/
def chunkBodiesUptoCard : Claim7 := { stood := { row := chunkBodiesUptoRow, standIns := [], harness := (true, "6936599efd8060287293918b1ce89a4a43ab89ff1e560d5c9f0e9a6b03a8aac3"), looks := false }, kinds := [], alts := [], laidByText := true, laidKinds := [.data, .pinned], laidTests := true, laidLooks := .later }
def ChunkBodiesUptoCardSaid : Prop := Claim7.holds Tryd.pinned (.plain (OpenSpec.upto chunkBodiesSpec)) chunkBodiesUptoCard
end Rows
end Go.Proofs.YtncffbocmpmejaaDoor
