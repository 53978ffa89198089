/- Quotients up to one, numbers cut down, places of stretched sounds. Conditions: none. -/
import Derived.Test.YtgjdkhocnnoimaaPvE
namespace Go.Sim
open Go

end Go.Sim
