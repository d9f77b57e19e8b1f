/- The abstract machine: a new slice under another name; what lies besides is forgotten. -/
import Derived.Test.YtejlhgcheaimjaaGreatDoorAmAny
import Derived.Test.YtejlhgcheaimjaaGreatDoorAmSame
import Derived.Test.YtejlhgcheaimjaaGreatDoorAmOwn
namespace Go.AM
set_option linter.unusedVariables false
set_option linter.unusedSimpArgs false
end Go.AM
