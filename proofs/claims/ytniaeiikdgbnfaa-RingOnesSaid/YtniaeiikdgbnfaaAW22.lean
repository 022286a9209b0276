/- The abstract walker, part 22: an empty slice as an owned row. -/
import Derived.Test.YtniaeiikdgbnfaaAW21
namespace Go.Proofs.Ytniaeiikdgbnfaa.AW
open Go Go.RowKit
set_option linter.unusedVariables false

def told0 : Told := ⟨fun _ => false, fun _ _ => [], fun _ => .done⟩

/-- An empty row that lies nowhere yet. -/
def emptyOb (o : Ob) : Bool := match o with
  | .row _ _ [] => true
  | .rowD _ sz [] => decide (0 < sz)
  | _ => false

def AState.adopt : AState → Tmp → Ob → AState
  | ⟨n, fr, st, nx⟩, t, o => ⟨n, upd fr t (.own nx), (nx, o) :: st, nx + 1⟩

def isEm (x : AVal) : Bool := match x with
  | .em _ | .nls _ => true
  | _ => false

section
variable {P : Program} {C : Ctx} {s : AState} {T : Told} {β : Nat → Option Value} {S : Nat → Prop} {a : Act} {w : World}

theorem ARel.adopt (h : ARel C s a w) {t : Tmp} {o : Ob} (ho : emptyOb o = true) (ht : isEm (s.fr t) = true) : ARel C (s.adopt t o) a w := by
  obtain ⟨β, S, h⟩ := h
  have hx : ∃ A, a.tmps.getD t undef = .slice A 0 0 := by
    have := h.fr t
    unfold isEm at ht
    split at ht
    · rename_i y e; rw [e] at this; simp only [VRel] at this; exact this.1
    · rename_i y e; rw [e] at this; simp only [VRel] at this; exact ⟨none, this.1⟩
    · cases ht
  obtain ⟨A, hA⟩ := hx
  have hb : blk (.slice A 0 0) = none := blk_empty A
  have hr : ORel w (updO β s.nx (.slice A 0 0)) S (.slice A 0 0) o := by
    unfold emptyOb at ho
    split at ho
    · simp only [ORel]; exact ⟨.inl ⟨A, rfl, rfl, rfl⟩, by simp, by simp⟩
    · simp only [ORel]; exact ⟨[], .inl ⟨A, rfl, rfl, rfl⟩, by simp [RepAll], by simp, by simp, of_decide_eq_true ho⟩
    · cases ho
  have h1 := h.fresh (World.grownBy.refl w _) (o' := o) (v := .slice A 0 0) (by simp [hb]) hr
  obtain ⟨n, fr, st, nx⟩ := s
  refine ⟨_, S, fun u => ?_, h1.size, h1.st, h1.frame, h1.nx, h1.defers, h1.pin, h1.nxm⟩
  simp only [AState.adopt, upd]
  split
  · rename_i e; subst e; simp only [VRel, updO, if_true]; rw [hA]
  · exact h1.fr u

theorem AWp.adopt {c : Code} {Q : Exit → AState → Prop} (t : Tmp) (o : Ob) (ho : emptyOb o = true) (ht : isEm (s.fr t) = true) (h : AWp P C c (s.adopt t o) Q) : AWp P C c s Q :=
  ⟨fun a w hr => h.run a w (hr.adopt ho ht)⟩

theorem AWp.freeze {c : Code} {Q : Exit → AState → Prop} (ts : List Tmp) (h : qFreezes P ts s fun s => AWp P C c s Q) : AWp P C c s Q :=
  ⟨fun a w ⟨β, S, hr⟩ => let ⟨S', s', h1, h2⟩ := qFreezes_sound hr h; h2.run a w ⟨β, S', h1⟩⟩

theorem AWp.mono {c : Code} {Q Q' : Exit → AState → Prop} (h : AWp P C c s Q) (hq : ∀ e s, Q e s → Q' e s) : AWp P C c s Q' :=
  ⟨fun a w hr => wpIn_mono (h.run a w hr) fun e _ _ ⟨s', h1, h2⟩ => ⟨s', h1, hq e s' h2⟩⟩

/-- Two ways that come together again: 'M' is what holds there. -/
theorem AWp.join {x y : Code} {Q : Exit → AState → Prop} (M : AState → Prop) (hx : AWp P C x s (thenQ M Q)) (hy : ∀ s, M s → AWp P C y s Q) : AWp P C (.seq x y) s Q :=
  ⟨fun a w hr => wpIn_seq (wpIn_mono (hx.run a w hr) fun e a' w' ⟨s', h1, h2⟩ => by
    cases e <;> first | exact (hy s' h2).run a' w' h1 | exact ⟨s', h1, h2⟩)⟩

end
end Go.Proofs.Ytniaeiikdgbnfaa.AW
