/- A part of the proof: Pq2. -/
import Derived.Test.YtnjcbogckfiamaaDoorPq0
namespace Go.Eng
set_option linter.unusedVariables false
set_option linter.unusedSimpArgs false
theorem G_any {ρ:Type} {p:Prop} {d:Decidable p} {k:Option ρ} (h:p):@G ρ p d k = k := by unfold G; exact if_pos h
end Go.Eng
