/- The numbers of the tree's types in this seat. -/
import Derived.Test.YtopnljjfpfnhfaaPCat
namespace Go.Proofs.Ytopnljjfpfnhfaa
/-- *leaf and *inner -/
abbrev lfT : Nat := 56
abbrev inT : Nat := 66
end Go.Proofs.Ytopnljjfpfnhfaa
