/- The abstract walker, part 27: labels, and jumps back to them. -/
import Derived.Test.YtniaeiikdgbnfaaAW26
namespace Go.Proofs.Ytniaeiikdgbnfaa.AW
open Go Go.RowKit

section
variable {P : Program} {b : Frame} {a : Act} {k : List Item} {cs : List Frame} {w : World} {F : Fence} {n : Nat} {Q : Exit → Act → World → Prop}

theorem stepR_scope' {c : Code} : step P (lone (b.atR a (.code (.scope c) :: k)) cs w) = .next (lone (b.atR a (.code c :: .inScope c :: k)) cs w) :=
  step_lone_go (by simp [stepG, stepG.exec, Frame.atR])
theorem stepR_inScope' {c : Code} : step P (lone (b.atR a (.inScope c :: k)) cs w) = .next (lone (b.atR a k) cs w) :=
  step_lone_go (by simp [stepG, stepG.exec, Frame.atR])

def gotoPost (L : Nat) (N : Act → World → Prop) (Q : Exit → Act → World → Prop) : Exit → Act → World → Prop
  | .goto l, a, w => l = L ∧ N a w
  | .normal, a, w => Q .normal a w
  | .exit i, a, w => Q (.exit i) a w
  | .ret, a, w => Q .ret a w
  | .panic c, a, w => Q (.panic c) a w
  | .outgrown, a, w => Q .outgrown a w

theorem wpIn_scope {c rest : Code} {L : Nat} (hf : findLabel c L = some rest) (I : Nat → Act → World → Prop) (h0 : c.wpIn F n P (gotoPost L (fun a w => ∃ m, I m a w) Q) a w)
    (round : ∀ m a w, I m a w → rest.wpIn F n P (gotoPost L (fun a w => ∃ m', m' < m ∧ I m' a w) Q) a w) : (Code.scope c).wpIn F n P Q a w := by
  intro b k cs hro hb hr
  have fin : ∀ {M : Machine} {e : Exit} {a1 : Act} {w1 : World} {N : Act → World → Prop}, gotoPost L N Q e a1 w1 → ArrivesIn (Machine.fenced P F) P M b (.inScope c :: k) cs e a1 w1 →
      (Q e a1 w1 ∧ ArrivesIn (Machine.fenced P F) P M b k cs e a1 w1) ∨ (N a1 w1 ∧ StepsIn (Machine.fenced P F) P M (lone (b.atR a1 (.code rest :: .inScope c :: k)) cs w1)) := fun {M e a1 w1 N} hq harr => by
    cases e with
    | normal => exact .inl ⟨hq, StepsIn.trans harr (.one (fenced_calm (n := n) hb hr rfl) stepR_inScope')⟩
    | exit id => exact .inl ⟨hq, fun k' hk => harr.1 k' (by simpa [exitTo] using hk), fun hr' hk => harr.2 hr' (by simpa [exitTo] using hk)⟩
    | goto l =>
      obtain ⟨rfl, hN⟩ := hq
      exact .inr ⟨hN, harr.1 _ (by simp [gotoIn, hf])⟩
    | ret => exact .inl ⟨hq, harr⟩
    | panic ch => exact .inl ⟨hq, harr⟩
    | outgrown => exact .inl ⟨hq, harr⟩
  have key : ∀ m a w, I m a w → ∃ e a' w', Q e a' w' ∧ ArrivesIn (Machine.fenced P F) P (lone (b.atR a (.code rest :: .inScope c :: k)) cs w) b k cs e a' w' := by
    intro m
    induction m using Nat.strongRecOn with
    | _ m ih =>
      intro a w hI
      obtain ⟨e, a1, w1, hq, harr⟩ := round m a w hI b (.inScope c :: k) cs hro hb hr
      rcases fin hq harr with ⟨h1, h2⟩ | ⟨⟨m', hlt, hI'⟩, hs⟩
      · exact ⟨e, a1, w1, h1, h2⟩
      · obtain ⟨e2, a2, w2, hq2, harr2⟩ := ih m' hlt a1 w1 hI'
        exact ⟨e2, a2, w2, hq2, .of_steps hs harr2⟩
  have hs0 : StepsIn (Machine.fenced P F) P (lone (b.atR a (.code (.scope c) :: k)) cs w) (lone (b.atR a (.code c :: .inScope c :: k)) cs w) := .one (fenced_calm (n := n) hb hr rfl) stepR_scope'
  obtain ⟨e, a1, w1, hq, harr⟩ := h0 b (.inScope c :: k) cs hro hb hr
  rcases fin hq harr with ⟨h1, h2⟩ | ⟨⟨m', hI'⟩, hs⟩
  · exact ⟨e, a1, w1, h1, .of_steps hs0 h2⟩
  · obtain ⟨e2, a2, w2, hq2, harr2⟩ := key m' a1 w1 hI'
    exact ⟨e2, a2, w2, hq2, .of_steps hs0 (.of_steps hs harr2)⟩
end

/-- The end of a stretch within a scope. -/
def scopeQ (L : Nat) (N : AState → Prop) (Q : Exit → AState → Prop) : Exit → AState → Prop
  | .goto l, s => (l == L) = true ∧ N s
  | .normal, s => Q .normal s
  | .exit i, s => Q (.exit i) s
  | .ret, s => Q .ret s
  | .panic c, s => Q (.panic c) s
  | .outgrown, s => Q .outgrown s

structure Begin {ι : Type} (m n nx : Nat) (sl : ι → List (Nat × AVal)) (st : ι → List (Nat × Ob)) (φ : ι → Prop) (s' : AState) : Prop where
  out : ∃ i' l, φ i' ∧ l.length = nx ∧ Wk m s' n (sl i') (st i') l

section
variable {P : Program} {C : Ctx} {s : AState} {T : Told}

/-- A SCOPE WITH ONE LABEL, to which one jumps back. -/
theorem AWp.scope {ι : Type} {c rest : Code} {L : Nat} {Q : Exit → AState → Prop} (hf : findLabel c L = some rest) (sl : ι → List (Nat × AVal)) (st : ι → List (Nat × Ob)) (n0 nx : Nat) (μ : ι → Nat) (φ : ι → Prop)
    (start : awp P C T c s (scopeQ L (Begin C.m n0 nx sl st φ) Q))
    (round : ∀ i, φ i → awp P C T rest ⟨n0, frL (sl i), st i, nx⟩ (scopeQ L (Again C.m n0 nx sl st (μ i) μ φ) Q)) : AWp P C (.scope c) s Q := by
  refine ⟨fun a w h => ?_⟩
  have conv : ∀ {N : AState → Prop} {N' : Act → World → Prop} {e : Exit} {a' : Act} {w' : World} {s' : AState}, (∀ s a w, ARel C s a w → N s → N' a w) → ARel C s' a' w' → scopeQ L N Q e s' →
      gotoPost L N' (fun e a' w' => ∃ s', ARel C s' a' w' ∧ Q e s') e a' w' := fun {N N' e a' w' s'} hN hr hq => by
    cases e <;> simp only [scopeQ] at hq
    case goto l => exact ⟨by simpa using hq.1, hN _ _ _ hr hq.2⟩
    all_goals exact ⟨s', hr, hq⟩
  refine wpIn_scope hf (fun m a w => ∃ i, m = μ i ∧ φ i ∧ ARel C ⟨n0, frL (sl i), st i, nx⟩ a w) (wpIn_mono (awp_sound c h start) fun e a' w' ⟨s', h1, h2⟩ => conv (fun s a w hr ⟨i, l, hφ, hl, hw⟩ => ⟨μ i, i, rfl, hφ, by rw [← hl]; exact hw.rel hr⟩) h1 h2)
    fun m a w ⟨i, hm, hφ, hr⟩ => wpIn_mono (awp_sound rest hr (round i hφ)) fun e a' w' ⟨s', h1, h2⟩ => conv (fun s a w hr ⟨i', l, hlt, hφ', hl, hw⟩ => ⟨μ i', by rw [hm]; exact hlt, i', rfl, hφ', by rw [← hl]; exact hw.rel hr⟩) h1 h2
end
end Go.Proofs.Ytniaeiikdgbnfaa.AW
