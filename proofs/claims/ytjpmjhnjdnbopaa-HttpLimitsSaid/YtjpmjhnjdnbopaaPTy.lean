/- The numbers of some types in this seat. -/
import Derived.Test.YtjpmjhnjdnbopaaGBase
namespace Go.Proofs.Ytjpmjhnjdnbopaa
open Go
/-- strings.Builder; a header -/
abbrev bdT : TypeId := 78
abbrev hdT : TypeId := 37
end Go.Proofs.Ytjpmjhnjdnbopaa
