/- Products of complex numbers, powers; numbers within bounds. Conditions: none. -/
import Derived.Test.YtgjdkhocnnoimaaPvK
namespace Go.Sim
open Go

def prW (a b c d : Nat) : Nat := fop .sub .f64 (fop .mul .f64 (fcv .f32 .f64 a) (fcv .f32 .f64 c)) (fop .mul .f64 (fcv .f32 .f64 b) (fcv .f32 .f64 d))
def piW (a b c d : Nat) : Nat := fop .add .f64 (fop .mul .f64 (fcv .f32 .f64 a) (fcv .f32 .f64 d)) (fop .mul .f64 (fcv .f32 .f64 b) (fcv .f32 .f64 c))
def poW (a b : Nat) : Nat := fop .add .f64 (fop .mul .f64 (fcv .f32 .f64 a) (fcv .f32 .f64 a)) (fop .mul .f64 (fcv .f32 .f64 b) (fcv .f32 .f64 b))

end Go.Sim
