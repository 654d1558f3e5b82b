/- The numbers of the tree's types in this seat. -/
import Derived.Test.YtkgocfaajfaidaaKTreeA
namespace Go.Proofs.Ytkgocfaajfaidaa
/-- *leaf and *inner -/
abbrev lfT : Nat := 101
abbrev inT : Nat := 124
end Go.Proofs.Ytkgocfaajfaidaa
