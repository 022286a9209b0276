/- The abstract walker, part 17: regions whose order is drawn. -/
import Derived.Test.YtniaeiikdgbnfaaAW16
import Derived.OrdersHeld
namespace Go.Proofs.Ytniaeiikdgbnfaa.AW
open Go Go.RowKit

theorem Ext.trans {w1 w2 w3 : World} (h1 : Ext w1 w2) (h2 : Ext w2 w3) (hs : w1.heap.size ≤ w2.heap.size) : Ext w1 w3 :=
  fun b hb => (h2 b (Nat.lt_of_lt_of_le hb hs)).trans (h1 b hb)
/-- Nothing that stood there is gone or turned. -/
def ExtS (w w' : World) : Prop := Ext w w' ∧ w.heap.size ≤ w'.heap.size

/-- Whatever order is picked; 'mt': the operations behind which what stood there may have turned. -/
def wpAnyE (P : Program) (ops : Array Oper) (mt : Nat → Bool) (Q : Exit → Act → World → Prop) : Nat → Array Bool → Act → World → Prop
  | 0, listed, a, w => Region.ready .any ops listed = [] ∧ Q .normal a w
  | fuel + 1, listed, a, w =>
    (Region.ready .any ops listed = [] → Q .normal a w) ∧
    ∀ i ∈ Region.ready .any ops listed, wpOp P ops Q i (fun a' w' => (mt i = false → ExtS w w') ∧ wpAnyE P ops mt Q fuel (listed.setIfInBounds i true) a' w') a w

section
variable {P : Program} {ops : Array Oper} {mt : Nat → Bool} {Q : Exit → Act → World → Prop}

theorem wpAny_ofE : ∀ (fuel : Nat) (listed : Array Bool) (a : Act) (w : World), wpAnyE P ops mt Q fuel listed a w → wpAny P .any ops Q fuel listed a w
  | 0, _, _, _, h => h
  | fuel + 1, _, _, _, h => ⟨h.1, fun i hi => wpOp_mono (fun a' w' h' => wpAny_ofE fuel _ a' w' h'.2) (h.2 i hi)⟩

theorem ready_set {listed : Array Bool} {i j : Nat} (hj : j ∈ Region.ready .any ops listed) (hji : j ≠ i) : j ∈ Region.ready .any ops (listed.setIfInBounds i true) := ready_mono hj hji

/-- What has come up had all that it waits for before it. -/
def Closed (ops : Array Oper) (l : Array Bool) : Prop := ∀ k ok, ops[k]? = some ok → l.getD k false = true → ∀ e ∈ ok.after, Region.binds .any e = true → l.getD e.on false = true

/-- Does number j wait for number i, directly or by others? -/
def waitsFor (ops : Array Oper) : Nat → Nat → Nat → Bool
  | 0, _, _ => false
  | n + 1, j, i =>
    match ops[j]? with
    | some oj => oj.after.any fun e => Region.binds .any e && (e.on == i || waitsFor ops n e.on i)
    | none => false

theorem waitsFor_spec {l : Array Bool} {i : Nat} (hc : Closed ops l) : ∀ (n j : Nat) (oj : Oper), ops[j]? = some oj → waitsFor ops n j i = true → (∀ e ∈ oj.after, Region.binds .any e = true → l.getD e.on false = true) → l.getD i false = true
  | 0, j, oj, _, h, _ => by simp [waitsFor] at h
  | n + 1, j, oj, hj, h, hall => by
    simp only [waitsFor, hj] at h
    obtain ⟨e, he, hb⟩ := Array.any_eq_true'.1 h
    simp only [Bool.and_eq_true, Bool.or_eq_true, beq_iff_eq] at hb
    have h1 := hall e he hb.1
    rcases hb.2 with h2 | h2
    · rw [← h2]; exact h1
    · cases hk : ops[e.on]? with
      | none =>
        cases n with
        | zero => simp [waitsFor] at h2
        | succ n => simp [waitsFor, hk] at h2
      | some ok => exact waitsFor_spec hc n e.on ok hk h2 (hc e.on ok hk h1)

theorem getD_false_of {l : Array Bool} {i : Nat} (h : l.getD i true = false) : l.getD i false = false := by
  rw [Array.getD_eq_getD_getElem?] at h ⊢
  cases e : l[i]? with
  | none => rfl
  | some b => rw [e] at h; simpa using h

theorem Closed.set {l : Array Bool} (hc : Closed ops l) {j : Nat} (hj : j ∈ Region.ready .any ops l) : Closed ops (l.setIfInBounds j true) := by
  have mono : ∀ k, l.getD k false = true → (l.setIfInBounds j true).getD k false = true := fun k h => by
    rw [Array.getD_eq_getD_getElem?] at h ⊢
    rw [Array.getElem?_setIfInBounds]
    split
    · rename_i e; subst e
      split
      · rfl
      · rename_i hn; rw [Array.getElem?_eq_none (by omega)] at h; simp at h
    · exact h
  intro k ok hk hl e he hb
  by_cases hjk : j = k
  · subst hjk
    obtain ⟨_, oj, hoj, hall⟩ := mem_ready.1 hj
    rw [hoj] at hk; injection hk with hk; subst hk
    exact mono _ (hall e he hb)
  · refine mono _ (hc k ok hk ?_ e he hb)
    rw [Array.getD_eq_getD_getElem?] at hl ⊢
    rwa [Array.getElem?_setIfInBounds_ne hjk] at hl

/-- What 'oi' yields, if it reads ('rd'), in every world where all stands that stood in w. -/
def SE (rd : Bool) (w : World) : World → Prop := fun w' => rd = true → ExtS w w'

theorem wpAnyE_first {i : Nat} {oi : Oper} {v : Value} {rd : Bool} (hi : ops[i]? = some oi) (hsel : ∀ (j : Nat) (o : Oper) cs b, ops[j]? = some o → o.op ≠ .select cs b)
    (hQ : ∀ c a w, Q (.panic c) (a.put oi.dst v) w → Q (.panic c) a w) :
    ∀ (fuel : Nat) (listed : Array Bool) (a : Act) (w : World),
      (∀ j oj, ops[j]? = some oj → j ≠ i → listed.getD j true = false → (∀ e ∈ oj.after, Region.binds .any e = true → e.on ≠ i) → oi.apart ops oj = true) →
      (rd = true → ∀ j oj, ops[j]? = some oj → j ≠ i → listed.getD j true = false → mt j = true → ∃ n, waitsFor ops n j i = true) → Closed ops listed →
      i ∈ Region.ready .any ops listed → YieldsIf P ops (SE rd w) oi v a →
      wpAnyE P ops mt Q fuel (listed.setIfInBounds i true) (a.put oi.dst v) w → wpAnyE P ops mt Q (fuel + 1) listed a w := by
  have refl : ∀ w : World, ExtS w w := fun w => ⟨Ext.refl w, Nat.le_refl _⟩
  intro fuel
  induction fuel with
  | zero =>
    intro listed a w _ _ _ hr hy H
    refine ⟨fun h => (by rw [h] at hr; cases hr), fun j hj => ?_⟩
    by_cases hji : j = i
    · subst hji; exact hy.wpOp hi (fun _ => refl w) ⟨fun _ => refl w, H⟩
    · have := ready_mono hj hji
      rw [H.1] at this
      cases this
  | succ fuel ih =>
    intro listed a w hfree hmt hcl hr hy H
    refine ⟨fun h => (by rw [h] at hr; cases hr), fun j hj => ?_⟩
    by_cases hji : j = i
    · subst hji; exact hy.wpOp hi (fun _ => refl w) ⟨fun _ => refl w, H⟩
    · have h1 := H.2 j (ready_mono hj hji)
      obtain ⟨hjun, oj, hoj, hall⟩ := mem_ready.1 hj
      have hnot : ∀ e ∈ oj.after, Region.binds .any e = true → e.on ≠ i := fun e he hb heq => by
        have h1 := hall e he hb
        have h0 := (mem_ready.1 hr).1
        rw [heq] at h1
        rcases Nat.lt_or_ge i listed.size with h' | h'
        · simp [h'] at h0 h1; rw [h0] at h1; cases h1
        · simp [Array.getElem?_eq_none h'] at h1
      have hmj : rd = true → mt j = false := fun hrd => by
        cases hm : mt j with
        | false => rfl
        | true =>
          obtain ⟨n, hn⟩ := hmt hrd j oj hoj hji hjun hm
          have h1 := waitsFor_spec hcl n j oj hoj hn hall
          rw [getD_false_of (mem_ready.1 hr).1] at h1
          cases h1
      have h2 := wpOp_putIf hoj (hfree j oj hoj hji hjun hnot) (fun cs b => hsel i oi cs b hi) (fun cs b => hsel j oj cs b hoj) hQ hy h1
      have hset : ∀ {k}, (listed.setIfInBounds j true).getD k true = false → listed.getD k true = false := fun {k} hun => by
        by_cases hjk : j = k
        · subst hjk; exact hjun
        · rw [getD_set_ne true hjk] at hun; exact hun
      refine wpOp_mono (fun a' w' h3 => ⟨h3.2.1, ih (listed.setIfInBounds j true) a' w' (fun k ok hk hki hun hno => hfree k ok hk hki (hset hun) hno) (fun hrd k ok hk hki hun hm => hmt hrd k ok hk hki (hset hun) hm) (hcl.set hj) (ready_mono hr (Ne.symm hji)) ?_ ?_⟩) h2
      · refine h3.1.imp (fun ⟨hw, hv⟩ => ⟨hw, fun w'' hs => hv w'' fun hrd => ?_⟩) id
        have e1 := h3.2.1 (hmj hrd)
        have e2 := hs hrd
        exact ⟨e1.1.trans e2.1 e1.2, Nat.le_trans e1.2 e2.2⟩
      · rw [Array.setIfInBounds_comm _ _ hji]
        exact h3.2.2

end
end Go.Proofs.Ytniaeiikdgbnfaa.AW
