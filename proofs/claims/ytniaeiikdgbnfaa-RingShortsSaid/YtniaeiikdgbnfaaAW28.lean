/- The abstract walker, part 28: words for the walk: which way a test goes. -/
import Derived.Test.YtniaeiikdgbnfaaAW27
namespace Go.Proofs.Ytniaeiikdgbnfaa.AW
open Go Go.RowKit

theorem pickT {b : Bool} {A B : Prop} (h : b = true) (ha : A) : (b = true → A) ∧ (b = false → B) := ⟨fun _ => ha, fun e => by rw [h] at e; cases e⟩
theorem pickF {b : Bool} {A B : Prop} (h : b = false) (hb : B) : (b = true → A) ∧ (b = false → B) := ⟨fun e => (by rw [h] at e; cases e), fun _ => hb⟩
theorem pickT2 {b : Bool} {A B : Prop} (h : b = true) (hb : B) : (b = false → A) ∧ (b = true → B) := ⟨fun e => (by rw [h] at e; cases e), fun _ => hb⟩
theorem pickF2 {b : Bool} {A B : Prop} (h : b = false) (ha : A) : (b = false → A) ∧ (b = true → B) := ⟨fun _ => ha, fun e => by rw [h] at e; cases e⟩
theorem splitB {b : Bool} {A B : Prop} (ha : b = true → A) (hb : b = false → B) : (b = true → A) ∧ (b = false → B) := ⟨ha, hb⟩
theorem splitB2 {b : Bool} {A B : Prop} (ha : b = false → A) (hb : b = true → B) : (b = false → A) ∧ (b = true → B) := ⟨ha, hb⟩
theorem dT {p : Prop} [Decidable p] (h : p) : decide p = true := decide_eq_true h
theorem dF {p : Prop} [Decidable p] (h : ¬ p) : decide p = false := decide_eq_false h
theorem nT {p : Prop} [Decidable p] (h : ¬ p) : (!decide p) = true := by rw [decide_eq_false h]; rfl
theorem nF {p : Prop} [Decidable p] (h : p) : (!decide p) = false := by rw [decide_eq_true h]; rfl
theorem nbT {b : Bool} (h : b = false) : (!b) = true := by rw [h]; rfl
theorem nbF {b : Bool} (h : b = true) : (!b) = false := by rw [h]; rfl

end Go.Proofs.Ytniaeiikdgbnfaa.AW
