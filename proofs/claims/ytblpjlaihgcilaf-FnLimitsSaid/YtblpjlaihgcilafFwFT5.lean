
import Derived.Test.YtblpjlaihgcilafFwFT4
namespace Go.Fw
open Go
noncomputable section
theorem cmul_lerp (a b : R4) (c s k : Rat) : cmulR a (scaleR (lerpR a (scaleR b c) s) k) = ⟨k * ((1 - s) * innR a a + s * (c * (cmulR a b).w)), c * (k * s) * (cmulR a b).x, c * (k * s) * (cmulR a b).y, c * (k * s) * (cmulR a b).z⟩ := by
  unfold cmulR mulR conjR scaleR lerpR innR
  congr 1 <;> grind
end
end Go.Fw
