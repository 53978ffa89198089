/- A pure account of the values, floats and memory of a run, and how it stands to the model's (part 23: slices of structs of three float32). Conditions: none. -/
import Derived.Test.YtgjdkhocnnoimaaS22
namespace Go.Sim
open Go Go.Deep Go.RowKit Go.ChangeShapes Go.WideShapes

section
variable {Hh : Type} {enc : TypeId × Value → Hh} {P : Program} {W : World} {base : Nat} {held : Bool} {fuel : Nat} {t : TypeId} {x : DataW Hh × List MemPlace}

end
end Go.Sim
