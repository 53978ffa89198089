/- Numbers within bounds. Conditions: none. -/

import Derived.Test.YtgjdkhocnnoimaaProg
import Derived.KernelRfl
import Derived.Test.YtgjdkhocnnoimaaGb
import Derived.Test.YtgjdkhocnnoimaaPu4

set_option linter.unusedSimpArgs false

set_option linter.unusedVariables false

namespace Go.Sim

open Go Go.Proofs

end Go.Sim
