/- What the functions that MakeAgain and DrivePredictor reach compute. Conditions: none. -/

import Derived.Test.YtgjdkhocnnoimaaProg
import Derived.KernelRfl
import Derived.Test.YtgjdkhocnnoimaaQGpr
import Derived.Test.YtgjdkhocnnoimaaPu9

set_option linter.unusedSimpArgs false

set_option linter.unusedVariables false

namespace Go.Sim

open Go Go.Proofs

end Go.Sim
