/- The abstract walker, part 24: a loop of few rounds, one behind the other. -/
import Derived.Test.YtniaeiikdgbnfaaAW23
import Derived.LoopNIn
namespace Go.Proofs.Ytniaeiikdgbnfaa.AW
open Go Go.RowKit
set_option linter.unusedVariables false

def awpRounds (P : Program) (C : Ctx) (T : Told) (body : Code) (Q : Exit → AState → Prop) : Nat → AState → Prop
  | 0, _ => False
  | n + 1, s => awp P C T body s (thenQ (awpRounds P C T body Q n) Q)

section
variable {P : Program} {C : Ctx} {s : AState} {T : Told}

theorem rounds_sound {body : Code} {Q : Exit → AState → Prop} : ∀ (n : Nat) {s : AState} {a : Act} {w : World}, ARel C s a w → awpRounds P C T body Q n s → Code.roundsIn (fence C.rd) 0 P body (liftQ C Q) n a w
  | 0, s, a, w, _, h => by simp only [awpRounds] at h
  | n + 1, s, a, w, hr, h => by
    simp only [awpRounds] at h
    simp only [Code.roundsIn]
    refine wpIn_mono (awp_sound body hr h) fun e a' w' ⟨s', h1, h2⟩ => ?_
    cases e <;> first | exact rounds_sound n h1 h2 | exact ⟨s', h1, h2⟩

theorem AWp.rounds {body : Code} {Q : Exit → AState → Prop} (T : Told) (n : Nat) (h : awpRounds P C T body Q n s) : AWp P C (.loop body) s Q :=
  ⟨fun a w hr => wpIn_mono (wpIn_loop_rounds n (rounds_sound n hr h)) fun e a' w' ⟨s', h1, h2⟩ => ⟨s', h1, h2⟩⟩

end
end Go.Proofs.Ytniaeiikdgbnfaa.AW
