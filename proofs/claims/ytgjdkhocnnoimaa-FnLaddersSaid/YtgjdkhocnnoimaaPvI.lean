/- The sine of a number of turns from 0 to 512. Conditions: none. -/
import Derived.Test.YtgjdkhocnnoimaaPvH
namespace Go.Sim
open Go

theorem self_sub {k : FloatKind} {x : Nat} (h : isFl k x) : fcmp .neq k (fop .sub k x x) 0 = false := by
  have z := zero_fl k
  have := (sub_Rd h h).exact z.1 (by rw [z.2]; grind)
  rw [fcmp_neq]
  have e : fcmp .eql k (fop .sub k x x) 0 = true := (eql_iff this.1 z.1).2 (by rw [this.2, z.2]; grind)
  rw [e]; rfl

/-! ### As the programs compute it -/

end Go.Sim
