/- Sums and crossings of small whole numbers. Conditions: none. -/
import Derived.Test.YtgjdkhocnnoimaaPvM
import Derived.Test.YtgjdkhocnnoimaaPu5
namespace Go.Sim
open Go

end Go.Sim
