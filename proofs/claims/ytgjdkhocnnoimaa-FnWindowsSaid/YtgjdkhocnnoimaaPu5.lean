/- Lists that loops write, by what stands in their places. Conditions: none. -/
import Derived.Test.YtgjdkhocnnoimaaPu4
namespace Go.Sim
open Go

end Go.Sim
