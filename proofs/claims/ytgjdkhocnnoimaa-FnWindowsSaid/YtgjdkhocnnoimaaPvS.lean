/- Products of complex numbers, powers; numbers within bounds. Conditions: none. -/
import Derived.Test.YtgjdkhocnnoimaaPvK
namespace Go.Sim
open Go

def bndX (x : Nat) : Prop := Iv .f32 x 3279945728 1132462080
def bndP (x : Nat) : Prop := Iv .f32 x 3221225472 1073741824
def bndC (xs : List (Nat × Nat)) : Prop := ∀ k, bndX (List.getD xs k (0, 0)).1 ∧ bndX (List.getD xs k (0, 0)).2

theorem phas_bnd {t : Nat} (h : Iv .f64 t 0 4647714815446351872) : bndP (phasW t).1 ∧ bndP (phasW t).2 := by
  obtain ⟨a, b⟩ := ph_args h
  have a1 := (sin_down a).1; have b1 := (sin_down b).1
  have a2 := (sin_sub0_down a).1; have b2 := (sin_sub0_down b).1
  unfold phasW
  repeat' split
  all_goals exact ⟨by assumption, by assumption⟩

def prW (a b c d : Nat) : Nat := fop .sub .f64 (fop .mul .f64 (fcv .f32 .f64 a) (fcv .f32 .f64 c)) (fop .mul .f64 (fcv .f32 .f64 b) (fcv .f32 .f64 d))
def piW (a b c d : Nat) : Nat := fop .add .f64 (fop .mul .f64 (fcv .f32 .f64 a) (fcv .f32 .f64 d)) (fop .mul .f64 (fcv .f32 .f64 b) (fcv .f32 .f64 c))
def poW (a b : Nat) : Nat := fop .add .f64 (fop .mul .f64 (fcv .f32 .f64 a) (fcv .f32 .f64 a)) (fop .mul .f64 (fcv .f32 .f64 b) (fcv .f32 .f64 b))

theorem prW_ok {a b c d : Nat} (ha : bndP a) (hb : bndP b) (hc : bndX c) (hd : bndX d) : fconvOk .f64 .f32 (prW a b c d) :=
  (((ha.up.mul hc.up 13871086852301127680 4647714815446351872 (by decide +kernel)).sub (hb.up.mul hd.up 13871086852301127680 4647714815446351872 (by decide +kernel)) 13875590451928498176 4652218415073722368 (by decide +kernel)).down 3296722944 1149239296 (by decide +kernel)).2
theorem piW_ok {a b c d : Nat} (ha : bndP a) (hb : bndP b) (hc : bndX c) (hd : bndX d) : fconvOk .f64 .f32 (piW a b c d) :=
  (((ha.up.mul hd.up 13871086852301127680 4647714815446351872 (by decide +kernel)).add (hb.up.mul hc.up 13871086852301127680 4647714815446351872 (by decide +kernel)) 13875590451928498176 4652218415073722368 (by decide +kernel)).down 3296722944 1149239296 (by decide +kernel)).2
theorem poW_ok {a b : Nat} (ha : bndX a) (hb : bndX b) : fconvOk .f64 .f32 (poW a b) :=
  (((ha.up.mul ha.up 13902612049692721152 4679240012837945344 (by decide +kernel)).add (hb.up.mul hb.up 13902612049692721152 4679240012837945344 (by decide +kernel)) 13907115649320091648 4683743612465315840 (by decide +kernel)).down 3355443200 1207959552 (by decide +kernel)).2

end Go.Sim
