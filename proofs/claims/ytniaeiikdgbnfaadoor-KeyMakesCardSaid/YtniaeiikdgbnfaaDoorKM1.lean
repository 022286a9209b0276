/- Parts AW1, AW2, AW3, AW4, AW5, AW6, AW7, AW8, AW9, AW10, AW11, AW12, AW13, AW14. No condition of its own. -/
import Derived.Below
import Derived.OwnWalk
import Derived.Laws.MakeOwn
import Derived.Laws.OwnMore
import Derived.Deep.Quiet
import Derived.Deep.LoopGhost
import Derived.Deep.AppendLies
import Derived.Maps.AppendAt
import Derived.RangeFuncRecord
import Derived.RangeFuncSeq
import Derived.Laws.IdiomCopy
import Derived.Great.BuildSlice

namespace Go.Proofs.YtniaeiikdgbnfaaDoor.AW
open Go Go.RowKit

def LIM : Nat := 140737488355328

/-- Deep values: what never changes any more. -/
inductive D where
  | int (k : IntKind) (n : Int)
  | bool (b : Bool)
  | str (xs : List Int)
  | raw (v : Value)
  | ints (k : IntKind) (xs : List Int)
  | sl (sz : Nat) (es : List D)
  | ptr (d : D)
  | nilp
  | agg (ds : List D)
  | fn (f : FuncId) (caps : List D)

instance : Inhabited D := ⟨.bool false⟩

def bytesOf (s : ByteArray) : List Int := s.data.toList.map fun b => (b.toNat : Int)

def plainV : Value → Bool
  | .float .. | .complex .. | .nilIface | .nilFunc | .map none => true
  | _ => false

/-- The cells from an offset of a block on. -/
def Cells (w : World) (b o : Nat) (vs : List Value) : Prop := ∀ i v, vs[i]? = some v → w.cell? ⟨b, o + i, none⟩ = some v

mutual
def Rep (w : World) (S : Nat → Prop) : D → List Value → Prop
  | .int k n, cs => cs = [.int k n] ∧ k.wrap n = n
  | .bool b, cs => cs = [.bool b]
  | .str xs, cs => ∃ s, cs = [.string s] ∧ bytesOf s = xs ∧ s.size ≤ LIM
  | .raw v, cs => cs = [v] ∧ plainV v = true
  | .ints k xs, cs => ∃ A c, cs = [.slice A xs.length c] ∧ xs.length ≤ c ∧ xs.length ≤ LIM ∧ (∀ x ∈ xs, k.wrap x = x) ∧
      (xs ≠ [] → ∃ b o, A = some ⟨b, o, none⟩ ∧ S b ∧ Cells w b o (xs.map (Value.int k)))
  | .sl sz es, cs => ∃ A c, cs = [.slice A es.length c] ∧ es.length ≤ c ∧ es.length ≤ LIM ∧
      (es ≠ [] → ∃ b o, A = some ⟨b, o, none⟩ ∧ S b ∧ RepRow w S sz es b o)
  | .ptr d, cs => ∃ b o, cs = [.pointer (some ⟨b, o, none⟩)] ∧ S b ∧ ∃ vs, Cells w b o vs ∧ Rep w S d vs
  | .nilp, cs => cs = [.pointer none]
  | .agg ds, cs => RepAll w S ds cs
  | .fn f caps, cs => ∃ vs, cs = [.func (.func f) #[] vs] ∧ RepAll w S caps vs.toList
def RepAll (w : World) (S : Nat → Prop) : List D → List Value → Prop
  | [], cs => cs = []
  | d :: ds, cs => ∃ c1 c2, cs = c1 ++ c2 ∧ Rep w S d c1 ∧ RepAll w S ds c2
def RepRow (w : World) (S : Nat → Prop) (sz : Nat) : List D → Nat → Nat → Prop
  | [], _, _ => True
  | d :: ds, b, o => (∃ vs, vs.length = sz ∧ Cells w b o vs ∧ Rep w S d vs) ∧ RepRow w S sz ds b (o + sz)
end

mutual
def D.size : D → Nat
  | .agg ds => D.sizes ds
  | _ => 1
def D.sizes : List D → Nat
  | [] => 0
  | d :: ds => d.size + D.sizes ds
end

def D.isAgg : D → Bool
  | .agg _ => true
  | _ => false

theorem Cells.keep {w w' : World} {b o : Nat} {vs : List Value} (h : Cells w b o vs) (hw : w'.heap[b]? = w.heap[b]?) : Cells w' b o vs :=
  fun i v hv => (World.cell?_of_block (a := ⟨b, o + i, none⟩) hw).trans (h i v hv)

mutual
theorem Rep.keep {w w' : World} {S S' : Nat → Prop} (hS : ∀ b, S b → S' b ∧ w'.heap[b]? = w.heap[b]?) : ∀ (d : D) (cs : List Value), Rep w S d cs → Rep w' S' d cs
  | .int k n, cs, h => by simpa only [Rep] using h
  | .bool b, cs, h => by simpa only [Rep] using h
  | .str xs, cs, h => by simpa only [Rep] using h
  | .raw v, cs, h => by simpa only [Rep] using h
  | .ints k xs, cs, h => by
    simp only [Rep] at h ⊢
    obtain ⟨A, c, h1, h2, h3, h4, h5⟩ := h
    refine ⟨A, c, h1, h2, h3, h4, fun hne => ?_⟩
    obtain ⟨b, o, e, hb, hc⟩ := h5 hne
    exact ⟨b, o, e, (hS b hb).1, hc.keep (hS b hb).2⟩
  | .sl sz es, cs, h => by
    simp only [Rep] at h ⊢
    obtain ⟨A, c, h1, h2, h3, h5⟩ := h
    refine ⟨A, c, h1, h2, h3, fun hne => ?_⟩
    obtain ⟨b, o, e, hb, hc⟩ := h5 hne
    exact ⟨b, o, e, (hS b hb).1, RepRow.keep hS sz es b o (hS b hb).2 hc⟩
  | .ptr d, cs, h => by
    simp only [Rep] at h ⊢
    obtain ⟨b, o, h1, h2, vs, h3, h4⟩ := h
    exact ⟨b, o, h1, (hS b h2).1, vs, h3.keep (hS b h2).2, Rep.keep hS d vs h4⟩
  | .nilp, cs, h => by simpa only [Rep] using h
  | .agg ds, cs, h => by
    simp only [Rep] at h ⊢
    exact RepAll.keep hS ds cs h
  | .fn f caps, cs, h => by
    simp only [Rep] at h ⊢
    obtain ⟨vs, h1, h2⟩ := h
    exact ⟨vs, h1, RepAll.keep hS caps _ h2⟩
theorem RepAll.keep {w w' : World} {S S' : Nat → Prop} (hS : ∀ b, S b → S' b ∧ w'.heap[b]? = w.heap[b]?) : ∀ (ds : List D) (cs : List Value), RepAll w S ds cs → RepAll w' S' ds cs
  | [], cs, h => by simpa only [RepAll] using h
  | d :: ds, cs, h => by
    simp only [RepAll] at h ⊢
    obtain ⟨c1, c2, e, h1, h2⟩ := h
    exact ⟨c1, c2, e, Rep.keep hS d c1 h1, RepAll.keep hS ds c2 h2⟩
theorem RepRow.keep {w w' : World} {S S' : Nat → Prop} (hS : ∀ b, S b → S' b ∧ w'.heap[b]? = w.heap[b]?) (sz : Nat) : ∀ (ds : List D) (b o : Nat), w'.heap[b]? = w.heap[b]? → RepRow w S sz ds b o → RepRow w' S' sz ds b o
  | [], b, o, _, h => by simp only [RepRow]
  | d :: ds, b, o, hb, h => by
    simp only [RepRow] at h ⊢
    obtain ⟨⟨vs, e, h1, h2⟩, h3⟩ := h
    exact ⟨⟨vs, e, h1.keep hb, Rep.keep hS d vs h2⟩, RepRow.keep hS sz ds b (o + sz) hb h3⟩
end

mutual
theorem Rep.size {w : World} {S : Nat → Prop} : ∀ (d : D) (cs : List Value), Rep w S d cs → cs.length = d.size
  | .int k n, cs, h => by simp only [Rep] at h; simp [h.1, D.size]
  | .bool b, cs, h => by simp only [Rep] at h; simp [h, D.size]
  | .str xs, cs, h => by simp only [Rep] at h; obtain ⟨s, h1, _⟩ := h; simp [h1, D.size]
  | .raw v, cs, h => by simp only [Rep] at h; simp [h.1, D.size]
  | .ints k xs, cs, h => by simp only [Rep] at h; obtain ⟨A, c, h1, _⟩ := h; simp [h1, D.size]
  | .sl sz es, cs, h => by simp only [Rep] at h; obtain ⟨A, c, h1, _⟩ := h; simp [h1, D.size]
  | .ptr d, cs, h => by simp only [Rep] at h; obtain ⟨b, o, h1, _⟩ := h; simp [h1, D.size]
  | .nilp, cs, h => by simp only [Rep] at h; simp [h, D.size]
  | .agg ds, cs, h => by simp only [Rep] at h; simp only [D.size]; exact RepAll.size ds cs h
  | .fn f caps, cs, h => by simp only [Rep] at h; obtain ⟨vs, h1, _⟩ := h; simp [h1, D.size]
theorem RepAll.size {w : World} {S : Nat → Prop} : ∀ (ds : List D) (cs : List Value), RepAll w S ds cs → cs.length = D.sizes ds
  | [], cs, h => by simp only [RepAll] at h; simp [h, D.sizes]
  | d :: ds, cs, h => by
    simp only [RepAll] at h
    obtain ⟨c1, c2, e, h1, h2⟩ := h
    simp [e, D.sizes, Rep.size d c1 h1, RepAll.size ds c2 h2]
end

/-- What the package's variables hold that a statement lists. -/
class Globs where
  gl : Nat → Option D

set_option linter.unusedSectionVars false
variable [Globs]

/-- They hold it. -/
def GlobOk (w : World) (S : Nat → Prop) : Prop := ∀ g d, Globs.gl g = some d → S g ∧ ∃ vs, Cells w g 0 vs ∧ Rep w S d vs

theorem GlobOk.keep {w w' : World} {S S' : Nat → Prop} (hS : ∀ b, S b → S' b ∧ w'.heap[b]? = w.heap[b]?) (h : GlobOk w S) : GlobOk w' S' := fun g d hg =>
  let ⟨h1, vs, h2, h3⟩ := h g d hg
  ⟨(hS g h1).1, vs, h2.keep (hS g h1).2, Rep.keep hS d vs h3⟩

/-- A part of an aggregate. -/
theorem RepAll.get {w : World} {S : Nat → Prop} : ∀ (ds : List D) (cs : List Value), RepAll w S ds cs → ∀ (i : Nat) (d : D), ds[i]? = some d →
    Rep w S d ((cs.drop (D.sizes (ds.take i))).take d.size)
  | [], cs, h, i, d, hi => by simp at hi
  | e :: ds, cs, h, i, d, hi => by
    simp only [RepAll] at h
    obtain ⟨c1, c2, rfl, h1, h2⟩ := h
    cases i with
    | zero =>
      simp at hi; subst hi
      have := Rep.size _ _ h1
      simp [D.sizes, ← this, h1]
    | succ i =>
      simp at hi
      have ih := RepAll.get ds c2 h2 i d hi
      have hs := Rep.size _ _ h1
      simp only [List.take_succ_cons, D.sizes]
      rw [List.drop_append, List.drop_eq_nil_of_le (by omega), ← hs]
      simpa using ih

/-- An element of a row. -/
theorem RepRow.get {w : World} {S : Nat → Prop} {sz : Nat} : ∀ (ds : List D) (b o : Nat), RepRow w S sz ds b o → ∀ (i : Nat) (d : D), ds[i]? = some d →
    ∃ vs, vs.length = sz ∧ Cells w b (o + i * sz) vs ∧ Rep w S d vs
  | [], b, o, h, i, d, hi => by simp at hi
  | e :: ds, b, o, h, i, d, hi => by
    simp only [RepRow] at h
    obtain ⟨h1, h2⟩ := h
    cases i with
    | zero => simp at hi; subst hi; simpa using h1
    | succ i =>
      simp at hi
      have ih := RepRow.get ds b (o + sz) h2 i d hi
      rwa [show o + sz + i * sz = o + (i + 1) * sz by rw [Nat.add_mul]; omega] at ih

/-- Abstract values: what a slot of a frame holds. -/
inductive AVal where
  | any
  | un
  | d (x : D)
  | em (x : D)
  | nls (x : D)
  | own (j : Nat)
  | view (j off len : Nat)
  | optr (j off : Nat)
  | ag (t : TypeId) (cs : List AVal)
  | tup (vs : List AVal)
  | ofn (f : FuncId) (caps : List AVal)

instance : Inhabited AVal := ⟨.any⟩

/-- Owned objects. -/
inductive Ob where
  | row (k : IntKind) (t : TypeId) (xs : List Int)
  | rowD (t : TypeId) (sz : Nat) (es : List D)
  | cell (t : TypeId) (cs : List AVal)

def packD : D → List Value → Value
  | .agg _, cs => .agg cs.toArray
  | _, cs => cs.headD undef

def blk : Value → Option Nat
  | .slice (some a) _ c => if c = 0 then none else some a.block
  | .pointer (some a) => some a.block
  | _ => none

def emptyD : D → Bool
  | .ints _ [] | .sl _ [] => true
  | _ => false

mutual
def VRel (w : World) (β : Nat → Option Value) (S : Nat → Prop) : AVal → Value → Prop
  | .any, _ => True
  | .un, v => v = undef
  | .d x, v => ∃ cs, Rep w S x cs ∧ v = packD x cs
  | .em x, v => (∃ A, v = .slice A 0 0) ∧ emptyD x = true
  | .nls x, v => v = .slice none 0 0 ∧ emptyD x = true
  | .own j, v => β j = some v
  | .view j off len, v => ∃ A c, v = .slice A len c ∧ len ≤ c ∧ (0 < len → ∃ b, (β j).bind blk = some b ∧ A = some ⟨b, off, none⟩)
  | .optr j off, v => ∃ b, (β j).bind blk = some b ∧ v = .pointer (some ⟨b, off, none⟩)
  | .ag _ cs, v => ∃ vs, v = .agg vs ∧ VAll w β S cs vs.toList
  | .tup cs, v => ∃ vs, v = .tuple vs ∧ VAll w β S cs vs.toList
  | .ofn f caps, v => ∃ vs, v = .func (.func f) #[] vs ∧ VAll w β S caps vs.toList
def VAll (w : World) (β : Nat → Option Value) (S : Nat → Prop) : List AVal → List Value → Prop
  | [], vs => vs = []
  | x :: xs, vs => ∃ v r, vs = v :: r ∧ VRel w β S x v ∧ VAll w β S xs r
end

/-- A row of the call's own, or an empty slice without capacity. -/
def OwnsV (w : World) (t : TypeId) (sz : Nat) (v : Value) (n : Nat) (vs : List Value) : Prop :=
  (∃ A, v = .slice A 0 0 ∧ n = 0 ∧ vs = []) ∨
  ∃ g cap cur, v = .slice (some ⟨g, 0, none⟩) n cap ∧ 0 < cap ∧ w.heap[g]? = some (.cells cur t (0, 0)) ∧ n ≤ cap ∧ cap ≤ maxLen ∧ cur.size = cap * sz ∧ vs.length = n * sz ∧ cur.toList.take (n * sz) = vs

theorem OwnsV.keep {w w' : World} {t : TypeId} {sz : Nat} {v : Value} {n : Nat} {vs : List Value} (h : OwnsV w t sz v n vs) (hj : ∀ b, blk v = some b → w'.heap[b]? = w.heap[b]?) : OwnsV w' t sz v n vs := by
  rcases h with h | ⟨g, cap, cur, e, hc, hh, r⟩
  · exact .inl h
  · exact .inr ⟨g, cap, cur, e, hc, by rw [hj g (by rw [e]; simp [blk]; omega)]; exact hh, r⟩

def ORel (w : World) (β : Nat → Option Value) (S : Nat → Prop) (v : Value) : Ob → Prop
  | .row k t xs => OwnsV w t 1 v xs.length (xs.map (Value.int k)) ∧ (∀ x ∈ xs, k.wrap x = x) ∧ xs.length ≤ LIM
  | .rowD t sz es => ∃ vs, OwnsV w t sz v es.length vs ∧ RepAll w S es vs ∧ (∀ e ∈ es, e.size = sz) ∧ es.length ≤ LIM ∧ 0 < sz
  | .cell t cs => ∃ b vs, v = .pointer (some ⟨b, 0, none⟩) ∧ w.heap[b]? = some (.cells vs t (0, 0)) ∧ VAll w β S cs vs.toList

theorem keepB {β β' : Nat → Option Value} (hβ : ∀ j u, β j = some u → β' j = some u) {j b : Nat} (h : (β j).bind blk = some b) : (β' j).bind blk = some b := by
  cases e : β j with
  | none => simp [e] at h
  | some u => rw [e] at h; rw [hβ j u e]; exact h

mutual
theorem VRel.keep {w w' : World} {β β' : Nat → Option Value} {S S' : Nat → Prop} (hS : ∀ b, S b → S' b ∧ w'.heap[b]? = w.heap[b]?) (hβ : ∀ j u, β j = some u → β' j = some u) :
    ∀ (x : AVal) (v : Value), VRel w β S x v → VRel w' β' S' x v
  | .any, v, h => by simp only [VRel]
  | .un, v, h => by simpa only [VRel] using h
  | .d x, v, h => by
    simp only [VRel] at h ⊢
    obtain ⟨cs, h1, h2⟩ := h
    exact ⟨cs, h1.keep hS, h2⟩
  | .em x, v, h => by simpa only [VRel] using h
  | .nls x, v, h => by simpa only [VRel] using h
  | .own j, v, h => by simp only [VRel] at h ⊢; exact hβ _ _ h
  | .view j off len, v, h => by
    simp only [VRel] at h ⊢
    obtain ⟨A, c, e, hl, hA⟩ := h
    exact ⟨A, c, e, hl, fun hp => let ⟨b, hb, e'⟩ := hA hp; ⟨b, keepB hβ hb, e'⟩⟩
  | .optr j off, v, h => by
    simp only [VRel] at h ⊢
    obtain ⟨b, hb, e⟩ := h
    exact ⟨b, keepB hβ hb, e⟩
  | .ag _ cs, v, h => by
    simp only [VRel] at h ⊢
    obtain ⟨vs, h1, h2⟩ := h
    exact ⟨vs, h1, VAll.keep hS hβ cs _ h2⟩
  | .tup cs, v, h => by
    simp only [VRel] at h ⊢
    obtain ⟨vs, h1, h2⟩ := h
    exact ⟨vs, h1, VAll.keep hS hβ cs _ h2⟩
  | .ofn f cs, v, h => by
    simp only [VRel] at h ⊢
    obtain ⟨vs, h1, h2⟩ := h
    exact ⟨vs, h1, VAll.keep hS hβ cs _ h2⟩
theorem VAll.keep {w w' : World} {β β' : Nat → Option Value} {S S' : Nat → Prop} (hS : ∀ b, S b → S' b ∧ w'.heap[b]? = w.heap[b]?) (hβ : ∀ j u, β j = some u → β' j = some u) :
    ∀ (xs : List AVal) (vs : List Value), VAll w β S xs vs → VAll w' β' S' xs vs
  | [], vs, h => by simpa only [VAll] using h
  | x :: xs, vs, h => by
    simp only [VAll] at h ⊢
    obtain ⟨v, r, e, h1, h2⟩ := h
    exact ⟨v, r, e, VRel.keep hS hβ x v h1, VAll.keep hS hβ xs r h2⟩
end

theorem VAll.length {w : World} {β : Nat → Option Value} {S : Nat → Prop} : ∀ (xs : List AVal) (vs : List Value), VAll w β S xs vs → vs.length = xs.length
  | [], vs, h => by simp only [VAll] at h; simp [h]
  | x :: xs, vs, h => by
    simp only [VAll] at h
    obtain ⟨v, r, e, h1, h2⟩ := h
    simp [e, VAll.length xs r h2]

theorem VAll.get {w : World} {β : Nat → Option Value} {S : Nat → Prop} : ∀ (xs : List AVal) (vs : List Value), VAll w β S xs vs → ∀ (i : Nat) (x : AVal), xs[i]? = some x → ∃ v, vs[i]? = some v ∧ VRel w β S x v
  | [], vs, h, i, x, hi => by simp at hi
  | y :: xs, vs, h, i, x, hi => by
    simp only [VAll] at h
    obtain ⟨v, r, rfl, h1, h2⟩ := h
    cases i with
    | zero => simp at hi; subst hi; exact ⟨v, by simp, h1⟩
    | succ i => simp at hi; obtain ⟨u, hu, hr⟩ := VAll.get xs r h2 i x hi; exact ⟨u, by simpa using hu, hr⟩

theorem ORel.keep {w w' : World} {β β' : Nat → Option Value} {S S' : Nat → Prop} (hS : ∀ b, S b → S' b ∧ w'.heap[b]? = w.heap[b]?) (hβ : ∀ j u, β j = some u → β' j = some u) {v : Value}
    (hj : ∀ b, blk v = some b → w'.heap[b]? = w.heap[b]?) : ∀ {o : Ob}, ORel w β S v o → ORel w' β' S' v o
  | .row k t xs, h => by
    simp only [ORel] at h ⊢
    obtain ⟨h1, h2, h3⟩ := h
    exact ⟨h1.keep hj, h2, h3⟩
  | .rowD t sz es, h => by
    simp only [ORel] at h ⊢
    obtain ⟨vs, h1, h2, h3, h4⟩ := h
    exact ⟨vs, h1.keep hj, RepAll.keep hS es vs h2, h3, h4⟩
  | .cell t cs, h => by
    simp only [ORel] at h ⊢
    obtain ⟨b, vs, h1, h2, h3⟩ := h
    exact ⟨b, vs, h1, by rw [hj b (by rw [h1]; rfl)]; exact h2, VAll.keep hS hβ cs _ h3⟩

end Go.Proofs.YtniaeiikdgbnfaaDoor.AW
namespace Go.Proofs.YtniaeiikdgbnfaaDoor.AW
open Go Go.RowKit
set_option linter.unusedSectionVars false
variable [Globs]

structure Ctx where
  w0 : World
  S0 : Nat → Prop
  E0 : Nat → Prop
  /-- Objects below 'm' are the caller's: they stay where they are. -/
  m : Nat
  B0 : Nat → Option Value
  /-- The loop over a function in whose round this is, if any. -/
  rd : Option Nat

structure AState where
  n : Nat
  fr : Nat → AVal
  st : List (Nat × Ob)
  nx : Nat

def upd (f : Nat → AVal) (t : Nat) (v : AVal) : Nat → AVal := fun u => if u = t then v else f u

def AState.put : AState → Option Tmp → AVal → AState
  | ⟨n, fr, st, nx⟩, some t, v => ⟨n, upd fr t v, st, nx⟩
  | s, none, _ => s
def AState.withSt : AState → List (Nat × Ob) → AState
  | ⟨n, fr, _, nx⟩, st => ⟨n, fr, st, nx⟩

/-! ### A walk by reduction: values and states are taken apart and put together again, so that no reckoning is left standing in them. -/
mutual
def forceV : AVal → (AVal → Prop) → Prop
  | .any, K => K .any
  | .un, K => K .un
  | .d (.int k n), K => K (.d (.int k n))
  | .d (.bool b), K => K (.d (.bool b))
  | .d (.str xs), K => K (.d (.str xs))
  | .d (.raw v), K => K (.d (.raw v))
  | .d (.ints k xs), K => K (.d (.ints k xs))
  | .d (.sl n es), K => K (.d (.sl n es))
  | .d (.ptr x), K => K (.d (.ptr x))
  | .d .nilp, K => K (.d .nilp)
  | .d (.agg ds), K => K (.d (.agg ds))
  | .d (.fn f cs), K => K (.d (.fn f cs))
  | .em (.ints k xs), K => K (.em (.ints k xs))
  | .em (.sl n es), K => K (.em (.sl n es))
  | .em x, K => K (.em x)
  | .nls (.ints k xs), K => K (.nls (.ints k xs))
  | .nls (.sl n es), K => K (.nls (.sl n es))
  | .nls x, K => K (.nls x)
  | .own j, K => K (.own j)
  | .view j o l, K => K (.view j o l)
  | .optr j o, K => K (.optr j o)
  | .ag t cs, K => forceL cs fun cs => K (.ag t cs)
  | .tup cs, K => forceL cs fun cs => K (.tup cs)
  | .ofn f cs, K => forceL cs fun cs => K (.ofn f cs)
def forceL : List AVal → (List AVal → Prop) → Prop
  | [], K => K []
  | x :: r, K => forceV x fun x => forceL r fun r => K (x :: r)
end
mutual
theorem forceV_of : ∀ (x : AVal) {K : AVal → Prop}, forceV x K → K x
  | .any, K, h => by simpa only [forceV] using h
  | .un, K, h => by simpa only [forceV] using h
  | .d x, K, h => by cases x <;> simpa only [forceV] using h
  | .em x, K, h => by cases x <;> simpa only [forceV] using h
  | .nls x, K, h => by cases x <;> simpa only [forceV] using h
  | .own j, K, h => by simpa only [forceV] using h
  | .view j o l, K, h => by simpa only [forceV] using h
  | .optr j o, K, h => by simpa only [forceV] using h
  | .ag t cs, K, h => by simp only [forceV] at h; exact forceL_of cs h
  | .tup cs, K, h => by simp only [forceV] at h; exact forceL_of cs h
  | .ofn f cs, K, h => by simp only [forceV] at h; exact forceL_of cs h
theorem forceL_of : ∀ (xs : List AVal) {K : List AVal → Prop}, forceL xs K → K xs
  | [], K, h => by simpa only [forceL] using h
  | x :: r, K, h => by
    simp only [forceL] at h
    exact forceL_of r (forceV_of x h)
end
mutual
theorem forceV_to : ∀ (x : AVal) {K : AVal → Prop}, K x → forceV x K
  | .any, K, h => by simpa only [forceV] using h
  | .un, K, h => by simpa only [forceV] using h
  | .d x, K, h => by cases x <;> simpa only [forceV] using h
  | .em x, K, h => by cases x <;> simpa only [forceV] using h
  | .nls x, K, h => by cases x <;> simpa only [forceV] using h
  | .own j, K, h => by simpa only [forceV] using h
  | .view j o l, K, h => by simpa only [forceV] using h
  | .optr j o, K, h => by simpa only [forceV] using h
  | .ag t cs, K, h => by simp only [forceV]; exact forceL_to cs h
  | .tup cs, K, h => by simp only [forceV]; exact forceL_to cs h
  | .ofn f cs, K, h => by simp only [forceV]; exact forceL_to cs h
theorem forceL_to : ∀ (xs : List AVal) {K : List AVal → Prop}, K xs → forceL xs K
  | [], K, h => by simpa only [forceL] using h
  | x :: r, K, h => by
    simp only [forceL]
    exact forceV_to x (forceL_to r h)
end
def forceOb : Ob → (Ob → Prop) → Prop
  | .row k t xs, K => K (.row k t xs)
  | .rowD t sz es, K => K (.rowD t sz es)
  | .cell t cs, K => forceL cs fun cs => K (.cell t cs)
theorem forceOb_of (o : Ob) {K : Ob → Prop} (h : forceOb o K) : K o := by
  cases o with
  | row k t xs => exact h
  | rowD t sz es => exact h
  | cell t cs => exact forceL_of cs h
def forceSt : List (Nat × Ob) → (List (Nat × Ob) → Prop) → Prop
  | [], K => K []
  | (i, o) :: r, K => forceOb o fun o => forceSt r fun r => K ((i, o) :: r)
theorem forceSt_of : ∀ (st : List (Nat × Ob)) {K : List (Nat × Ob) → Prop}, forceSt st K → K st
  | [], K, h => h
  | (i, o) :: r, K, h => by
    simp only [forceSt] at h
    have := forceOb_of o h
    exact forceSt_of r this
def forceS : AState → (AState → Prop) → Prop
  | ⟨n, fr, st, nx⟩, K => forceSt st fun st => K ⟨n, fr, st, nx⟩
theorem forceS_of (s : AState) {K : AState → Prop} (h : forceS s K) : K s := forceSt_of s.st h

def Owned (β : Nat → Option Value) (st : List (Nat × Ob)) (b : Nat) : Prop := ∃ j o, (j, o) ∈ st ∧ (β j).bind blk = some b

structure SRel (w : World) (β : Nat → Option Value) (S : Nat → Prop) (st : List (Nat × Ob)) : Prop where
  obj : ∀ j o, (j, o) ∈ st → ∃ v, β j = some v ∧ ORel w β S v o
  nodup : (st.map (·.1)).Nodup
  apart : ∀ i o j o', (i, o) ∈ st → (j, o') ∈ st → i ≠ j → ∀ b, (β i).bind blk = some b → (β j).bind blk ≠ some b
  own : ∀ b, Owned β st b → ¬ S b ∧ b < w.heap.size
  inS : ∀ b, S b → b < w.heap.size
  gl : GlobOk w S

/-- The frame: what has not turned since the call began. -/
structure Fr (C : Ctx) (w : World) (S own : Nat → Prop) : Prop where
  size : C.w0.heap.size ≤ w.heap.size
  os : w.os = C.w0.os
  tape : w.tape = C.w0.tape
  output : w.output = C.w0.output
  old : ∀ b, b < C.w0.heap.size → ¬ C.E0 b → w.heap[b]? = C.w0.heap[b]?
  inS : ∀ b, S b → C.S0 b ∨ C.E0 b ∨ C.w0.heap.size ≤ b
  own : ∀ b, own b → C.E0 b ∨ C.w0.heap.size ≤ b

/-- What is laid aside for the activation's end: the marks of its loops over functions, alone. -/
def Marks (C : Ctx) (S : Nat → Prop) (a : Act) (w : World) : Prop :=
  (∀ d ∈ a.defers, ∃ D, d = { target := .collected D, args := #[] } ∧ w.heap[D]? = some (.deferred (some [])) ∧ ¬ S D ∧ C.w0.heap.size ≤ D) ∧ a.defers.Nodup ∧ (C.rd ≠ none → a.defers = [])

structure ARelB (C : Ctx) (s : AState) (β : Nat → Option Value) (S : Nat → Prop) (a : Act) (w : World) : Prop where
  fr : ∀ t, VRel w β S (s.fr t) (a.tmps.getD t undef)
  size : a.tmps.size = s.n
  st : SRel w β S s.st
  frame : Fr C w S (Owned β s.st)
  nx : ∀ j, s.nx ≤ j → β j = none
  defers : Marks C S a w
  pin : ∀ j, j < C.m → β j = C.B0 j
  nxm : C.m ≤ s.nx

def ARel (C : Ctx) (s : AState) (a : Act) (w : World) : Prop := ∃ β S, ARelB C s β S a w

/-- What stood there stands there. -/
def Ext (w w' : World) : Prop := ∀ b, b < w.heap.size → w'.heap[b]? = w.heap[b]?
theorem Ext.refl (w : World) : Ext w w := fun _ _ => rfl

/-! ### Types -/
def aggD : TypeDesc → Bool
  | .struct _ | .array _ _ => true
  | _ => false
def aggT (P : Program) (t : TypeId) : Option Bool := (P.underlying t).map aggD

def szT (P : Program) (t : TypeId) : Option Nat := (P.info? t).map (·.size)

/-! ### Constants -/
def loK : IntKind → Int
  | .i8 => -128 | .i16 => -32768 | .i32 => -2147483648 | .i64 => -9223372036854775808
  | _ => 0
def hiK : IntKind → Int
  | .i8 => 127 | .i16 => 32767 | .i32 => 2147483647 | .i64 => 9223372036854775807
  | .u8 => 255 | .u16 => 65535 | .u32 => 4294967295 | .u64 => 18446744073709551615

theorem wrap_in {k : IntKind} {n : Int} : k.wrap n = n ↔ loK k ≤ n ∧ n ≤ hiK k := by
  cases k <;> simp [IntKind.wrap, IntKind.bits, IntKind.signed, loK, hiK] <;> (try split) <;> omega
theorem wrap_wrap (k : IntKind) (n : Int) : k.wrap (k.wrap n) = k.wrap n := by
  cases k <;> simp [IntKind.wrap, IntKind.bits, IntKind.signed] <;> (repeat' split) <;> omega

/-- A constant's deep value, by its type. -/
def constT (P : Program) : Nat → TypeId → List Value → D
  | 0, _, _ => .nilp
  | n + 1, t, cs =>
    match P.underlying t with
    | some (.struct fs) => .agg (fs.toList.map fun f => constT P n f.type ((cs.drop f.offset).take ((szT P f.type).getD 0)))
    | some (.array len e) => .agg ((List.range len).map fun i => constT P n e ((cs.drop (i * (szT P e).getD 0)).take ((szT P e).getD 0)))
    | some (.slice e) =>
      match P.underlying e with
      | some (.int k) => .ints k []
      | _ => .sl ((szT P e).getD 0) []
    | _ =>
      match cs with
      | [.int k n] => .int k n
      | [.bool b] => .bool b
      | [.string s] => .str (bytesOf s)
      | [.pointer none] => .nilp
      | [v] => .raw v
      | _ => .nilp

mutual
/-- Does a deep value stand for these constant cells? -/
def RepC : D → List Value → Prop
  | .int k n, cs => cs = [.int k n] ∧ loK k ≤ n ∧ n ≤ hiK k
  | .bool b, cs => cs = [.bool b]
  | .str xs, cs => ∃ s, cs = [.string s] ∧ bytesOf s = xs ∧ s.size ≤ 100000
  | .raw v, cs => cs = [v] ∧ plainV v = true
  | .ints _ xs, cs => xs = [] ∧ cs = [.slice none 0 0]
  | .sl _ es, cs => es = [] ∧ cs = [.slice none 0 0]
  | .nilp, cs => cs = [.pointer none]
  | .agg ds, cs => RepCs ds cs
  | .ptr _, _ => False
  | .fn f caps, cs => caps = [] ∧ cs = [.func (.func f) #[] #[]]
def RepCs : List D → List Value → Prop
  | [], cs => cs = []
  | d :: ds, cs => RepC d (cs.take d.size) ∧ RepCs ds (cs.drop d.size)
end

mutual
theorem RepC.rep {w : World} {S : Nat → Prop} : ∀ (d : D) (cs : List Value), RepC d cs → Rep w S d cs
  | .int k n, cs, h => by simp only [RepC] at h; simp only [Rep]; exact ⟨h.1, wrap_in.2 h.2⟩
  | .bool b, cs, h => by simp only [RepC] at h; simp only [Rep]; exact h
  | .str xs, cs, h => by
    simp only [RepC] at h; simp only [Rep]
    obtain ⟨s, h1, h2, h3⟩ := h
    exact ⟨s, h1, h2, by unfold LIM; omega⟩
  | .raw v, cs, h => by simp only [RepC] at h; simp only [Rep]; exact h
  | .ints k xs, cs, h => by
    simp only [RepC] at h; simp only [Rep]
    obtain ⟨rfl, rfl⟩ := h
    exact ⟨none, 0, rfl, by simp, by simp, by simp, fun h => (h rfl).elim⟩
  | .sl sz es, cs, h => by
    simp only [RepC] at h; simp only [Rep]
    obtain ⟨rfl, rfl⟩ := h
    exact ⟨none, 0, rfl, by simp, by simp, fun h => (h rfl).elim⟩
  | .ptr d, cs, h => by simp only [RepC] at h
  | .nilp, cs, h => by simp only [RepC] at h; simp only [Rep]; exact h
  | .agg ds, cs, h => by
    simp only [RepC] at h; simp only [Rep]
    exact RepCs.rep ds cs h
  | .fn f caps, cs, h => by
    simp only [RepC] at h; simp only [Rep]
    obtain ⟨rfl, rfl⟩ := h
    exact ⟨#[], rfl, by simp only [RepAll]⟩
theorem RepCs.rep {w : World} {S : Nat → Prop} : ∀ (ds : List D) (cs : List Value), RepCs ds cs → RepAll w S ds cs
  | [], cs, h => by simp only [RepCs] at h; simp only [RepAll]; exact h
  | d :: ds, cs, h => by
    simp only [RepCs] at h; simp only [RepAll]
    exact ⟨_, _, (List.take_append_drop d.size cs).symm, RepC.rep d _ h.1, RepCs.rep ds _ h.2⟩
end


def getO : List (Nat × Ob) → Nat → Option Ob
  | [], _ => none
  | (i, o) :: r, j => if i = j then some o else getO r j

theorem getO_mem : ∀ {st : List (Nat × Ob)} {j : Nat} {o : Ob}, getO st j = some o → (j, o) ∈ st
  | [], _, _, h => by simp [getO] at h
  | (i, p) :: r, j, o, h => by
    simp only [getO] at h
    split at h
    · rename_i e; subst e; injection h with h; subst h; simp
    · exact List.mem_cons_of_mem _ (getO_mem h)

/-- An operand's abstract value; 'ty': the type that it has there. -/
def aev (P : Program) (s : AState) (ty : TypeId) : Operand → AVal
  | .tmp t => s.fr t
  | .const (.slice none 0 0) => .nls (constT P 1 ty [])
  | .const v => .d (constT P 6 ty v.cells.toList)
  | .func f => .d (.fn f [])
  | .global g => match Globs.gl g with
    | some d => .d (.ptr d)
    | none => .any

/-- Is the type one whose values are single cells, and no slice? -/
def scalarT (P : Program) (ty : TypeId) : Bool := match P.underlying ty with
  | some (.struct _) | some (.array _ _) | some (.slice _) => false
  | _ => true

mutual
def repCB : D → List Value → Bool
  | .int k n, [.int k' n'] => k == k' && n == n' && decide (loK k ≤ n) && decide (n ≤ hiK k)
  | .bool b, [.bool b'] => b == b'
  | .ints _ [], [.slice none 0 0] => true
  | .sl _ [], [.slice none 0 0] => true
  | .nilp, [.pointer none] => true
  | .str [], [.string s] => s.size == 0
  | .raw .nilFunc, [.nilFunc] => true
  | .raw .nilIface, [.nilIface] => true
  | .raw (.map none), [.map none] => true
  | .agg ds, cs => repCBs ds cs
  | _, _ => false
def repCBs : List D → List Value → Bool
  | [], cs => cs.isEmpty
  | d :: ds, cs => repCB d (cs.take d.size) && repCBs ds (cs.drop d.size)
end

def constB (P : Program) (ty : TypeId) : Operand → Bool
  | .const (.slice none 0 0) => match constT P 1 ty [] with
    | .ints _ [] => true
    | .sl _ [] => true
    | _ => false
  | .const (.int k n) => scalarT P ty && decide (loK k ≤ n) && decide (n ≤ hiK k)
  | .const (.bool _) => scalarT P ty
  | .const (.string s) => scalarT P ty && decide (s.size ≤ 100000)
  | .const (.pointer none) => scalarT P ty
  | .const .nilFunc => scalarT P ty
  | .const .nilIface => scalarT P ty
  | .const (.agg cs) => (constT P 6 ty cs.toList).isAgg && repCB (constT P 6 ty cs.toList) cs.toList
  | .const _ => false
  | _ => true

def constOk (P : Program) (ty : TypeId) (x : Operand) : Prop := constB P ty x = true

mutual
theorem repCB_ok : ∀ (d : D) (cs : List Value), repCB d cs = true → RepC d cs
  | .int k n, cs, h => by
    unfold repCB at h
    split at h <;> simp_all [RepC]
    rename_i h2
    obtain ⟨⟨⟨rfl, rfl⟩, h3⟩, h4⟩ := h
    exact ⟨h3, h4⟩
  | .bool b, cs, h => by
    unfold repCB at h
    split at h <;> simp_all [RepC]
  | .str xs, cs, h => by
    unfold repCB at h
    split at h <;> simp_all [RepC]
    rfl
  | .raw v, cs, h => by
    unfold repCB at h
    split at h <;> simp_all [RepC, plainV]
  | .ints k xs, cs, h => by
    unfold repCB at h
    split at h <;> simp_all [RepC]
  | .sl sz es, cs, h => by
    unfold repCB at h
    split at h <;> simp_all [RepC]
  | .ptr d, cs, h => by unfold repCB at h; simp at h
  | .nilp, cs, h => by
    unfold repCB at h
    split at h <;> simp_all [RepC]
  | .agg ds, cs, h => by
    simp only [repCB] at h
    simp only [RepC]
    exact repCBs_ok ds cs h
  | .fn f caps, cs, h => by unfold repCB at h; simp at h
theorem repCBs_ok : ∀ (ds : List D) (cs : List Value), repCBs ds cs = true → RepCs ds cs
  | [], cs, h => by simp only [repCBs, List.isEmpty_iff] at h; simp only [RepCs]; exact h
  | d :: ds, cs, h => by
    simp only [repCBs, Bool.and_eq_true] at h
    simp only [RepCs]
    exact ⟨repCB_ok d _ h.1, repCBs_ok ds _ h.2⟩
end

theorem constT_scalar {P : Program} {ty : TypeId} (h : scalarT P ty = true) (n : Nat) (cs : List Value) : constT P (n + 1) ty cs = match cs with
    | [.int k n] => .int k n
    | [.bool b] => .bool b
    | [.string s] => .str (bytesOf s)
    | [.pointer none] => .nilp
    | [v] => .raw v
    | _ => .nilp := by
  unfold scalarT at h
  unfold constT
  split at h <;> first | (cases h; done) | rfl | skip
  all_goals
    rename_i h1 h2 h3
    split
    · rename_i e; exact (h1 _ e).elim
    · rename_i e; exact (h2 _ _ e).elim
    · rename_i e; exact (h3 _ e).elim
    · rfl

theorem constOk.spec {P : Program} {ty : TypeId} {v : Value} (h : constOk P ty (.const v)) (hne : v ≠ .slice none 0 0) : RepC (constT P 6 ty v.cells.toList) v.cells.toList ∧ packD (constT P 6 ty v.cells.toList) v.cells.toList = v := by
  unfold constOk constB at h
  split at h
  · rename_i e; injection e with e; exact (hne e).elim
  · rename_i k n e; injection e with e; subst e
    simp only [Bool.and_eq_true, decide_eq_true_eq] at h
    simp only [Value.cells, constT_scalar h.1.1, RepC, packD, List.headD, and_true, true_and]
    exact ⟨h.1.2, h.2⟩
  · rename_i b e; injection e with e; subst e
    simp only [Value.cells, constT_scalar h, RepC, packD, List.headD, and_true]
  · rename_i s e; injection e with e; subst e
    simp only [Bool.and_eq_true, decide_eq_true_eq] at h
    simp only [Value.cells, constT_scalar h.1, RepC, packD, List.headD, and_true]
    exact ⟨s, rfl, rfl, h.2⟩
  · rename_i e; injection e with e; subst e
    simp only [Value.cells, constT_scalar h, RepC, packD, List.headD, and_true]
  · rename_i e; injection e with e; subst e
    simp only [Value.cells, constT_scalar h, RepC, packD, List.headD, and_true, plainV]
  · rename_i e; injection e with e; subst e
    simp only [Value.cells, constT_scalar h, RepC, packD, List.headD, and_true, plainV]
  · rename_i cs e; injection e with e; subst e
    simp only [Bool.and_eq_true] at h
    refine ⟨repCB_ok _ _ h.2, ?_⟩
    simp only [Value.cells]
    have := h.1
    revert this
    cases constT P 6 ty cs.toList <;> simp [D.isAgg, packD]
  · cases h
  · rename_i h1 h2 h3 h4 h5 h6 h7 h8 h9; exact (h9 v rfl).elim

theorem aev_rel {P : Program} {C : Ctx} {s : AState} {β : Nat → Option Value} {S : Nat → Prop} {a : Act} {w : World} (h : ARelB C s β S a w) {ty : TypeId} {x : Operand} (hc : constOk P ty x) :
    VRel w β S (aev P s ty x) (a.eval x) := by
  cases x with
  | tmp t => simpa [Act.eval, aev] using h.fr t
  | func f => simp only [aev, VRel, Act.eval]; exact ⟨[.func (.func f) #[] #[]], by simp only [Rep]; exact ⟨#[], rfl, by simp only [RepAll]⟩, rfl⟩
  | global g =>
    simp only [aev]
    split
    · rename_i d hd
      obtain ⟨h1, vs, h2, h3⟩ := h.st.gl g d hd
      exact ⟨_, by simp only [Rep]; exact ⟨g, 0, rfl, h1, vs, h2, h3⟩, rfl⟩
    · simp only [VRel]
  | const v =>
    unfold aev
    split
    · rename_i e; cases e
    · rename_i e; injection e with e; subst e
      unfold constOk constB at hc
      simp only [VRel, Act.eval, true_and]
      split at hc
      · revert hc
        cases constT P 1 ty [] <;> simp [emptyD] <;> intro hc <;> (split at hc <;> simp_all)
      all_goals simp_all
    · rename_i v' hne e; injection e with e; subst e
      have := hc.spec fun e => hne (by rw [e])
      simp only [VRel, Act.eval]
      exact ⟨v.cells.toList, RepC.rep _ _ this.1, this.2.symm⟩
    · rename_i e; cases e
    · rename_i e; cases e

/-- A slot's deep value, if it is one. -/
def dv : AVal → Option D
  | .d x => some x
  | .em x => some x
  | .nls x => some x
  | _ => none

theorem dv_rel {w : World} {β : Nat → Option Value} {S : Nat → Prop} {x : AVal} {v : Value} {y : D} (h : VRel w β S x v) (hd : dv x = some y) : ∃ cs, Rep w S y cs ∧ v = packD y cs := by
  cases x <;> simp [dv] at hd
  case d z => subst hd; simpa only [VRel] using h
  case em z =>
    subst hd
    simp only [VRel] at h
    obtain ⟨⟨A, rfl⟩, he⟩ := h
    refine ⟨[.slice A 0 0], ?_, ?_⟩
    · unfold emptyD at he
      split at he <;> simp_all [Rep]
    · unfold emptyD at he
      split at he <;> simp_all [packD]
  case nls z =>
    subst hd
    simp only [VRel] at h
    obtain ⟨rfl, he⟩ := h
    refine ⟨[.slice none 0 0], ?_, ?_⟩
    · unfold emptyD at he
      split at he <;> simp_all [Rep]
    · unfold emptyD at he
      split at he <;> simp_all [packD]

/-! ### What each operation asks and gives -/
def qLoad (P : Program) (s : AState) (t : TypeId) (x : AVal) (K : AVal → Prop) : Prop :=
  match x with
  | .d (.ptr y) => aggT P t = some y.isAgg ∧ (y.isAgg = true → szT P t = some y.size) ∧ K (.d y)
  | .optr j off =>
    match getO s.st j with
    | some (.cell _ cs) =>
      (match aggT P t with
      | some true => off + (szT P t).getD 0 ≤ cs.length ∧ (szT P t).isSome = true ∧ K (.ag t ((cs.drop off).take ((szT P t).getD 0)))
      | some false => match cs[off]? with
        | some v => K v
        | none => False
      | none => False)
    | some (.row k _ xs) =>
      (match aggT P t with
      | some true => off + (szT P t).getD 0 ≤ xs.length ∧ 0 < (szT P t).getD 0 ∧ K (.d (.agg (((xs.drop off).take ((szT P t).getD 0)).map (D.int k))))
      | some false => off < xs.length ∧ K (.d (.int k (xs.getD off 0)))
      | none => False)
    | some (.rowD _ sz es) => sz = 1 ∧ aggT P t = some false ∧ off < es.length ∧ (es.getD off default).isAgg = false ∧ K (.d (es.getD off default))
    | none => False
  | _ => False

def qNil (x : AVal) (K : AVal → Prop) : Prop :=
  match x with
  | .d (.ptr y) => K (.d (.ptr y))
  | .d (.fn f cs) => K (.d (.fn f cs))
  | .optr j o => K (.optr j o)
  | .ofn f cs => K (.ofn f cs)
  | _ => False

def qField (P : Program) (t : TypeId) (x : AVal) (f : Nat) (K : AVal → Prop) : Prop :=
  match P.underlying t with
  | some (.struct fs) =>
    match fs[f]? with
    | some fd =>
      match x with
      | .d (.agg ds) =>
        match ds[f]? with
        | some y => D.sizes (ds.take f) = fd.offset ∧ aggT P fd.type = some y.isAgg ∧ (y.isAgg = true → szT P fd.type = some y.size) ∧ K (.d y)
        | none => False
      | .ag _ cs => aggT P fd.type = some false ∧ (match cs[fd.offset]? with | some v => K v | none => False)
      | _ => False
    | none => False
  | _ => False

def posB : Option Nat → Bool
  | some (_ + 1) => true
  | _ => false
theorem posB_spec {x : Option Nat} (h : posB x = true) : ∃ n, x = some (n + 1) := by
  unfold posB at h
  split at h
  · exact ⟨_, rfl⟩
  · cases h

def qFieldAddr (P : Program) (t : TypeId) (x : AVal) (f : Nat) (K : AVal → Prop) : Prop :=
  match P.underlying t with
  | some (.struct fs) =>
    match fs[f]? with
    | some fd =>
      posB (szT P fd.type) = true ∧
      match x with
      | .d (.ptr (.agg ds)) =>
        match ds[f]? with
        | some y => D.sizes (ds.take f) = fd.offset ∧ K (.d (.ptr y))
        | none => False
      | .optr j off => K (.optr j (off + fd.offset))
      | _ => False
    | none => False
  | _ => False

def qIndexAddr (P : Program) (s : AState) (t : TypeId) (x i : AVal) (K : AVal → Prop) : Prop :=
  match dv i with
  | some (.int _ n) =>
    match P.underlying t with
    | some (.slice e) =>
      match x with
      | .d (.ints k xs) => szT P e = some 1 ∧ 0 ≤ n ∧ n < xs.length ∧ K (.d (.ptr (.int k (xs.getD n.toNat 0))))
      | .d (.sl sz es) => szT P e = some sz ∧ 0 ≤ n ∧ n < es.length ∧ K (.d (.ptr (es.getD n.toNat default)))
      | .own j =>
        match getO s.st j with
        | some (.row _ _ xs) => szT P e = some 1 ∧ 0 ≤ n ∧ n < xs.length ∧ K (.optr j n.toNat)
        | some (.rowD _ sz es) => szT P e = some sz ∧ 0 ≤ n ∧ n < es.length ∧ K (.optr j (n.toNat * sz))
        | _ => False
      | .view j off len => szT P e = some 1 ∧ 0 ≤ n ∧ n < len ∧ K (.optr j (off + n.toNat))
      | _ => False
    | some (.array len e) =>
      match x with
      | .optr j off => szT P e = some 1 ∧ 0 ≤ n ∧ n < len ∧ K (.optr j (off + n.toNat))
      | _ => False
    | _ => False
  | _ => False

/-- Are these numbers of one kind? -/
def agInts : List D → Option (IntKind × List Int)
  | [] => none
  | [.int k n] => some (k, [n])
  | .int k n :: r => (match agInts r with
    | some (k', xs) => if k = k' then some (k, n :: xs) else none
    | none => none)
  | _ => none

def allD : List AVal → Option (List D)
  | [] => some []
  | .d x :: r => (match allD r with
    | some ds => some (x :: ds)
    | none => none)
  | _ :: _ => none

def qIndex (P : Program) (t : TypeId) (x i : AVal) (K : AVal → Prop) : Prop :=
  match dv i with
  | some (.int _ n) =>
    match P.underlying t with
    | some .string =>
      (match x with
      | .d (.str xs) => 0 ≤ n ∧ n < xs.length ∧ K (.d (.int .u8 (xs.getD n.toNat 0)))
      | _ => False)
    | some (.array len e) =>
      (match x with
      | .d (.agg ds) =>
        (match agInts ds with
        | some (k, xs) => aggT P e = some false ∧ szT P e = some 1 ∧ xs.length = len ∧ 0 ≤ n ∧ n < len ∧ K (.d (.int k (xs.getD n.toNat 0)))
        | none => False)
      | .ag _ cs =>
        (match (allD cs).bind agInts with
        | some (k, xs) => aggT P e = some false ∧ szT P e = some 1 ∧ xs.length = len ∧ 0 ≤ n ∧ n < len ∧ K (.d (.int k (xs.getD n.toNat 0)))
        | none => aggT P e = some false ∧ szT P e = some 1 ∧ 0 ≤ n ∧ n < len ∧ (match cs[n.toNat]? with | some v => K v | none => False))
      | _ => False)
    | _ => False
  | _ => False

def qExtract (x : AVal) (i : Nat) (K : AVal → Prop) : Prop :=
  match x with
  | .tup vs => match vs[i]? with
    | some v => K v
    | none => False
  | _ => False

def qLen (P : Program) (s : AState) (t : TypeId) (x : AVal) (K : AVal → Prop) : Prop :=
  match P.underlying t with
  | some (.slice _) =>
    match x with
    | .d (.ints _ xs) => K (.d (.int .i64 xs.length))
    | .d (.sl _ es) => K (.d (.int .i64 es.length))
    | .em _ | .nls _ => K (.d (.int .i64 0))
    | .own j =>
      match getO s.st j with
      | some (.row _ _ xs) => K (.d (.int .i64 xs.length))
      | some (.rowD _ _ es) => K (.d (.int .i64 es.length))
      | _ => False
    | .view _ _ len => len ≤ LIM ∧ K (.d (.int .i64 len))
    | _ => False
  | some .string =>
    match x with
    | .d (.str xs) => K (.d (.int .i64 xs.length))
    | _ => False
  | some (.array n _) => n ≤ LIM ∧ K (.d (.int .i64 n))
  | _ => False

/-- Bits, as the model has them. -/
def bitsK (op : BinOp) (k : IntKind) (x y : Int) : Int :=
  let a := BitVec.ofInt k.bits x
  let b := BitVec.ofInt k.bits y
  match op with
  | .and => k.wrap (a &&& b).toNat
  | .or => k.wrap (a ||| b).toNat
  | .xor => k.wrap (a ^^^ b).toNat
  | _ => k.wrap (a &&& ~~~b).toNat

def qInts (op : BinOp) (k : IntKind) (a b : Int) (K : AVal → Prop) : Prop :=
  match op with
  | .add => K (.d (.int k (k.wrap (a + b))))
  | .sub => K (.d (.int k (k.wrap (a - b))))
  | .mul => K (.d (.int k (k.wrap (a * b))))
  | .quo => b ≠ 0 ∧ K (.d (.int k (k.wrap (a.tdiv b))))
  | .rem => b ≠ 0 ∧ K (.d (.int k (a.tmod b)))
  | .and => K (.d (.int k (bitsK .and k a b)))
  | .or => K (.d (.int k (bitsK .or k a b)))
  | .xor => K (.d (.int k (bitsK .xor k a b)))
  | .andNot => K (.d (.int k (bitsK .andNot k a b)))
  | .eql => K (.d (.bool (decide (a = b))))
  | .neq => K (.d (.bool (!decide (a = b))))
  | .lss => K (.d (.bool (decide (a < b))))
  | .leq => K (.d (.bool (decide (a ≤ b))))
  | .gtr => K (.d (.bool (decide (b < a))))
  | .geq => K (.d (.bool (decide (b ≤ a))))
  | _ => False

def isNilPtr : AVal → Bool
  | .d .nilp => true
  | _ => false

/-- A slice held against nil: an empty one may be, or not. -/
def qNilSl (x : AVal) (s : AState) (K : Bool → Prop) : Prop :=
  match x with
  | .em _ => K true ∧ K false
  | .nls _ => K true
  | .d (.ints _ xs) => (xs = [] → K true) ∧ K false
  | .d (.sl _ es) => (es = [] → K true) ∧ K false
  | .own j =>
    match getO s.st j with
    | some (.row _ _ xs) => (xs = [] → K true) ∧ K false
    | some (.rowD _ _ es) => (es = [] → K true) ∧ K false
    | _ => False
  | _ => False

/-- Which text stands ahead of which. -/
def strLt : List Int → List Int → Bool
  | _, [] => false
  | [], _ :: _ => true
  | a :: x, b :: y => decide (a < b) || (decide (a = b) && strLt x y)

def qBin (P : Program) (s : AState) (op : BinOp) (t : TypeId) (x y : AVal) (K : AVal → Prop) : Prop :=
  match op, x, y with
  | .shl, .d (.int k a), .d (.int _ b) => 0 ≤ b ∧ K (.d (.int k (k.wrap (a * 2 ^ (min b.toNat k.bits)))))
  | .shr, .d (.int k a), .d (.int _ b) => 0 ≤ b ∧ K (.d (.int k (a / 2 ^ (min b.toNat k.bits))))
  | op, .d (.int k a), .d (.int k' b) => k = k' ∧ qInts op k a b K
  | .eql, .d (.str a), .d (.str b) => K (.d (.bool (decide (a = b))))
  | .neq, .d (.str a), .d (.str b) => K (.d (.bool (!decide (a = b))))
  | .lss, .d (.str a), .d (.str b) => K (.d (.bool (strLt a b)))
  | .leq, .d (.str a), .d (.str b) => K (.d (.bool (strLt a b || decide (a = b))))
  | .gtr, .d (.str a), .d (.str b) => K (.d (.bool (!(strLt a b || decide (a = b)))))
  | .geq, .d (.str a), .d (.str b) => K (.d (.bool (!strLt a b)))
  | .add, .d (.str a), .d (.str b) => a.length + b.length ≤ LIM ∧ K (.d (.str (a ++ b)))
  | .eql, .d (.bool a), .d (.bool b) => P.underlying t = some .bool ∧ K (.d (.bool (decide (a = b))))
  | .neq, .d (.bool a), .d (.bool b) => P.underlying t = some .bool ∧ K (.d (.bool (!decide (a = b))))
  | .eql, x, y =>
    match P.underlying t with
    | some (.slice _) => (match y with | .nls _ => qNilSl x s fun b => K (.d (.bool b)) | _ => False)
    | some (.pointer _) =>
      (match x, y with
      | .d .nilp, .d .nilp => K (.d (.bool true))
      | .d (.ptr _), .d .nilp | .d .nilp, .d (.ptr _) | .optr _ _, .d .nilp | .d .nilp, .optr _ _ => K (.d (.bool false))
      | _, _ => False)
    | _ => False
  | .neq, x, y =>
    match P.underlying t with
    | some (.slice _) => (match y with | .nls _ => qNilSl x s fun b => K (.d (.bool (!b))) | _ => False)
    | some (.pointer _) =>
      (match x, y with
      | .d .nilp, .d .nilp => K (.d (.bool false))
      | .d (.ptr _), .d .nilp | .d .nilp, .d (.ptr _) | .optr _ _, .d .nilp | .d .nilp, .optr _ _ => K (.d (.bool true))
      | _, _ => False)
    | _ => False
  | _, _, _ => False

def qUn (op : UnOp) (x : AVal) (K : AVal → Prop) : Prop :=
  match op, x with
  | .not, .d (.bool b) => K (.d (.bool (!b)))
  | .neg, .d (.int k n) => K (.d (.int k (k.wrap (0 - n))))
  | .xor, .d (.int k n) => K (.d (.int k (bitsK .xor k (if k.signed then -1 else k.max) n)))
  | _, _ => False

def qConv (P : Program) (src dst : TypeId) (x : AVal) (K : AVal → Prop) : Prop :=
  match P.underlying src, P.underlying dst, x with
  | some (.int _), some (.int k), .d (.int _ n) => K (.d (.int k (k.wrap n)))
  | some .string, some .string, .d (.str xs) => K (.d (.str xs))
  | some (.slice e), some .string, .d (.ints .u8 xs) => P.underlying e = some (.int .u8) ∧ K (.d (.str xs))
  | some (.slice e), some .string, .em _ => P.underlying e = some (.int .u8) ∧ K (.d (.str []))
  | some (.slice e), some .string, .nls _ => P.underlying e = some (.int .u8) ∧ K (.d (.str []))
  | _, _, _ => False

/-- A bound of a cut, where there is one. -/
def qBound (v : Option AVal) (dflt : Int) (K : Int → Prop) : Prop :=
  match v with
  | none => K dflt
  | some (.d (.int _ n)) => K n
  | _ => False

def qSlice (P : Program) (s : AState) (t : TypeId) (x : AVal) (lo hi mx : Option AVal) (K : AVal → Prop) : Prop :=
  match P.underlying t with
  | some (.slice e) =>
    match mx with
    | none =>
      (match x with
      | .d (.ints k xs) => qBound hi xs.length fun h => qBound lo 0 fun l => 0 ≤ l ∧ l ≤ h ∧ h ≤ xs.length ∧ szT P e = some 1 ∧ K (.d (.ints k ((xs.take h.toNat).drop l.toNat)))
      | .d (.sl sz es) => qBound hi es.length fun h => qBound lo 0 fun l => 0 ≤ l ∧ l ≤ h ∧ h ≤ es.length ∧ szT P e = some sz ∧ K (.d (.sl sz ((es.take h.toNat).drop l.toNat)))
      | .own j =>
        match getO s.st j with
        | some (.row _ _ xs) => qBound hi xs.length fun h => qBound lo 0 fun l => 0 ≤ l ∧ l ≤ h ∧ h ≤ xs.length ∧ szT P e = some 1 ∧ K (.view j l.toNat (h.toNat - l.toNat))
        | _ => False
      | .view j off len => qBound hi len fun h => qBound lo 0 fun l => 0 ≤ l ∧ l ≤ h ∧ h ≤ len ∧ szT P e = some 1 ∧ K (.view j (off + l.toNat) (h.toNat - l.toNat))
      | .em y => qBound hi 0 fun h => qBound lo 0 fun l => l = 0 ∧ h = 0 ∧ (szT P e).isSome = true ∧ K (.em y)
      | .nls y => qBound hi 0 fun h => qBound lo 0 fun l => l = 0 ∧ h = 0 ∧ (szT P e).isSome = true ∧ K (.nls y)
      | _ => False)
    | some (.d (.int _ 0)) =>
      (match x with
      | .d (.ints k _) => qBound hi 1 fun h => qBound lo 0 fun l => l = 0 ∧ h = 0 ∧ (szT P e).isSome = true ∧ K (.em (.ints k []))
      | .d (.sl sz _) => qBound hi 1 fun h => qBound lo 0 fun l => l = 0 ∧ h = 0 ∧ (szT P e).isSome = true ∧ K (.em (.sl sz []))
      | .em y => qBound hi 1 fun h => qBound lo 0 fun l => l = 0 ∧ h = 0 ∧ (szT P e).isSome = true ∧ K (.em y)
      | .nls y => qBound hi 1 fun h => qBound lo 0 fun l => l = 0 ∧ h = 0 ∧ (szT P e).isSome = true ∧ K (.nls y)
      | _ => False)
    | _ => False
  | some (.array n e) =>
    match mx, x with
    | none, .d (.ptr (.agg ds)) =>
      (match agInts ds with
      | some (k, xs) => xs.length = n ∧ n ≤ LIM ∧ qBound hi n fun h => qBound lo 0 fun l => 0 ≤ l ∧ l ≤ h ∧ h ≤ n ∧ szT P e = some 1 ∧ K (.d (.ints k ((xs.take h.toNat).drop l.toNat)))
      | none => False)
    | _, _ => False
  | some .string =>
    match mx, x with
    | none, .d (.str xs) => qBound hi xs.length fun h => qBound lo 0 fun l => 0 ≤ l ∧ l ≤ h ∧ h ≤ xs.length ∧ K (.d (.str ((xs.take h.toNat).drop l.toNat)))
    | _, _ => False
  | _ => False

def noAgg : List D → Bool
  | [] => true
  | d :: r => !d.isAgg && noAgg r
theorem noAgg_spec : ∀ {ds : List D}, noAgg ds = true → ∀ d ∈ ds, d.isAgg = false
  | [], _, d, h => by simp at h
  | x :: r, h, d, hd => by
    simp only [noAgg, Bool.and_eq_true, Bool.not_eq_true'] at h
    rcases List.mem_cons.1 hd with rfl | hd
    · exact h.1
    · exact noAgg_spec h.2 d hd

def qFunc (f : Fn) (first caps : List AVal) (K : AVal → Prop) : Prop :=
  match f, first with
  | .func f, [] => match allD caps with
    | some ds => noAgg ds = true ∧ K (.d (.fn f ds))
    | none => K (.ofn f caps)
  | _, _ => False

def qMinMax (isMax : Bool) (xs : List AVal) (K : AVal → Prop) : Prop :=
  match isMax, xs with
  | true, [.d (.int k a), .d (.int k' b)] => k = k' ∧ K (.d (.int k (max a b)))
  | true, [.d (.int k a), .d (.int k' b), .d (.int k'' c)] => k = k' ∧ k = k'' ∧ K (.d (.int k (max (max a b) c)))
  | true, [.d (.int k a), .d (.int k' b), .d (.int k'' c), .d (.int k3 e)] => k = k' ∧ k = k'' ∧ k = k3 ∧ K (.d (.int k (max (max (max a b) c) e)))
  | false, [.d (.int k a), .d (.int k' b)] => k = k' ∧ K (.d (.int k (min a b)))
  | false, [.d (.int k a), .d (.int k' b), .d (.int k'' c)] => k = k' ∧ k = k'' ∧ K (.d (.int k (min (min a b) c)))
  | false, [.d (.int k a), .d (.int k' b), .d (.int k'' c), .d (.int k3 e)] => k = k' ∧ k = k'' ∧ k = k3 ∧ K (.d (.int k (min (min (min a b) c) e)))
  | _, _ => False


theorem VAll.sub {w : World} {β : Nat → Option Value} {S : Nat → Prop} : ∀ (xs : List AVal) (vs : List Value), VAll w β S xs vs → ∀ off n, VAll w β S ((xs.drop off).take n) ((vs.drop off).take n)
  | [], vs, h, off, n => by simp only [VAll] at h; subst h; simp [VAll]
  | x :: xs, vs, h, off, n => by
    simp only [VAll] at h
    obtain ⟨v, r, rfl, h1, h2⟩ := h
    cases off with
    | succ off => simpa using VAll.sub xs r h2 off n
    | zero =>
      cases n with
      | zero => simp [VAll]
      | succ n =>
        have := VAll.sub xs r h2 0 n
        simp only [List.drop_zero] at this ⊢
        simp only [List.take_succ_cons, VAll]
        exact ⟨v, _, rfl, h1, this⟩

theorem sizes_one : ∀ (es : List D), (∀ e ∈ es, e.size = 1) → D.sizes es = es.length
  | [], _ => by simp [D.sizes]
  | e :: es, h => by simp [D.sizes, h e (by simp), sizes_one es fun x hx => h x (List.mem_cons_of_mem _ hx)]; omega

theorem take_one_drop {α : Type} {l : List α} {i : Nat} (h : i < l.length) : (l.drop i).take 1 = [l[i]] := by
  rw [List.drop_eq_getElem_cons h, List.take_succ_cons, List.take_zero]

section
variable {P : Program} {C : Ctx} {s : AState} {β : Nat → Option Value} {S : Nat → Prop} {a : Act} {w : World}

/-- What an operation comes to, in each world that has all that stood there. -/
def Runs (P : Program) (w : World) (m : Sem Value) (v : Value) : Prop := ∀ w', Ext w w' → m.run P w' = .ok v w'
/-- Whatever the world. -/
def Runs0 (P : Program) (_ : World) (m : Sem Value) (v : Value) : Prop := ∀ w' : World, True → m.run P w' = .ok v w'

theorem Ext.cell {w w' : World} (h : Ext w w') {b o : Nat} (hb : b < w.heap.size) : w'.cell? ⟨b, o, none⟩ = w.cell? ⟨b, o, none⟩ :=
  World.cell?_of_block (a := ⟨b, o, none⟩) (h b hb)

theorem run_isAggT {w : World} {t : TypeId} {b : Bool} (h : aggT P t = some b) : (isAgg t).run P w = .ok b w := by
  unfold aggT at h
  cases hd : P.underlying t with
  | none => simp [hd] at h
  | some d =>
    simp only [isAgg, Sem.run_bind, run_underlying hd, Result.andThen_ok]
    rw [hd] at h
    cases d <;> simp_all [aggD]

theorem run_sizeT {w : World} {t : TypeId} {n : Nat} (h : szT P t = some n) : (sizeOf t).run P w = .ok n w := by
  unfold szT at h
  simp only [sizeOf, typeInfo, Sem.run_bind, run_program, Result.andThen_ok]
  cases hi : P.info? t with
  | none => simp [hi] at h
  | some i => simp [hi] at h; simp [h]

theorem addr_add (b o n : Nat) : (⟨b, o, none⟩ : Addr).add n = ⟨b, o + n, none⟩ := by
  unfold Addr.add; split <;> simp_all

theorem loadCells_run {w : World} {b o : Nat} {cs : List Value} (h : Cells w b o cs) : (loadCells ⟨b, o, none⟩ cs.length).run P w = .ok cs.toArray w := by
  refine run_loadCells_list w ⟨b, o, none⟩ cs ?_
  intro j v hv
  rw [addr_add]
  exact h j v hv

/-- A load out of memory that holds these cells. -/
theorem loadVar_run {w : World} {t : TypeId} {b o : Nat} {x : D} {cs : List Value} (h1 : aggT P t = some x.isAgg) (h2 : x.isAgg = true → szT P t = some x.size)
    (hr : cs.length = x.size) (hc : Cells w b o cs) : (loadVar t ⟨b, o, none⟩).run P w = .ok (packD x cs) w := by
  unfold loadVar
  simp only [Sem.run_bind, run_isAggT h1, Result.andThen_ok]
  cases x with
  | agg ds =>
    have h3 := h2 rfl
    simp only [D.isAgg, if_true, Sem.run_bind, run_sizeT h3, Result.andThen_ok]
    rw [← hr, loadCells_run hc]
    simp [packD]
  | _ =>
    simp only [D.size] at hr
    match cs, hr with
    | [u], _ =>
      have := hc 0 u rfl
      simp only [Nat.add_zero] at this
      simp [D.isAgg, packD, this]

theorem elem_sz {t : TypeId} {n : Nat} (h : szT P t = some n) : (P.info? t).isSome = true := by
  unfold szT at h
  cases hi : P.info? t <;> simp_all

theorem packD_one {x : D} {cs : List Value} (hx : x.isAgg = false) : packD x cs = cs.headD undef := by cases x <;> simp_all [D.isAgg, packD]

theorem ownsV_cell {w : World} {t : TypeId} {sz : Nat} {v : Value} {n : Nat} {vs : List Value} (h : OwnsV w t sz v n vs) (hn : 0 < n) :
    ∃ g cap, v = .slice (some ⟨g, 0, none⟩) n cap ∧ blk v = some g ∧ n ≤ cap ∧ Cells w g 0 vs ∧ vs.length = n * sz ∧ g < w.heap.size ∧ ∀ o, w.frozen? ⟨g, o, none⟩ = false := by
  rcases h with ⟨A, _, h0, _⟩ | ⟨g, cap, cur, e, hc, hh, hle, hm, hz, hl, ht⟩
  · omega
  · refine ⟨g, cap, e, by rw [e]; simp [blk]; omega, hle, ?_, hl, ?_, fun o => by simp [World.frozen?, hh]⟩
    · intro i u hu
      simp only [World.cell?, hh, Option.isSome_none, Bool.false_eq_true, if_false, Nat.zero_add]
      rw [← ht] at hu
      have hi : i < n * sz := by
        have := (List.getElem?_eq_some_iff.1 hu).1
        simp at this; omega
      rw [List.getElem?_take_of_lt hi] at hu
      simpa using hu
    · rcases Nat.lt_or_ge g w.heap.size with h | h
      · exact h
      · rw [Array.getElem?_eq_none h] at hh; cases hh

/-- The block of an object lies in the world. -/
theorem ARelB.blk_lt (h : ARelB C s β S a w) {j : Nat} {o : Ob} (ho : getO s.st j = some o) {b : Nat} (hb : (β j).bind blk = some b) : b < w.heap.size :=
  (h.st.own b ⟨j, o, getO_mem ho, hb⟩).2

theorem repInts {w : World} {S : Nat → Prop} {k : IntKind} : ∀ {xs : List Int}, (∀ x ∈ xs, k.wrap x = x) → RepAll w S (xs.map (D.int k)) (xs.map (Value.int k))
  | [], _ => by simp [RepAll]
  | x :: xs, h => by
    simp only [List.map_cons, RepAll, Rep]
    exact ⟨[_], _, rfl, ⟨rfl, h x (by simp)⟩, repInts fun y hy => h y (by simp [hy])⟩

theorem qLoad_sound (h : ARelB C s β S a w) {t : TypeId} {x : AVal} {v : Value} {K : AVal → Prop} (hx : VRel w β S x v) (hq : qLoad P s t x K) :
    ∃ u r, Runs P w (Instr.loadAt t v) u ∧ VRel w β S r u ∧ K r := by
  unfold qLoad at hq
  split at hq
  · rename_i y
    obtain ⟨h1, h2, hK⟩ := hq
    simp only [VRel, Rep] at hx
    obtain ⟨cs, ⟨b, o, rfl, hb, vs, hc, hr⟩, rfl⟩ := hx
    refine ⟨packD y vs, .d y, fun w' hw => ?_, by simp only [VRel]; exact ⟨vs, hr, rfl⟩, hK⟩
    have hc' : Cells w' b o vs := hc.keep (hw b (h.st.inS b hb))
    simp only [packD, List.headD_cons, Instr.loadAt, Instr.sureAddr, Sem.run_bind, Sem.run_pure, Result.andThen_ok]
    exact loadVar_run h1 h2 (Rep.size _ _ hr) hc'
  · rename_i j off
    split at hq
    · rename_i t' cs ho
      obtain ⟨bv, hβ0, hob⟩ := h.st.obj j _ (getO_mem ho)
      simp only [ORel] at hob
      obtain ⟨g, vs, hβ, hh, hv⟩ := hob
      simp only [VRel] at hx
      obtain ⟨b, hb, rfl⟩ := hx
      have hbg : b = g := by rw [hβ0, hβ] at hb; simpa [blk] using hb.symm
      subst hbg
      have hlt : b < w.heap.size := h.blk_lt ho hb
      have hlen := VAll.length _ _ hv
      split at hq
      · rename_i hagg
        obtain ⟨h1, h2, hK⟩ := hq
        obtain ⟨n, hn⟩ := Option.isSome_iff_exists.1 h2
        rw [hn] at h1 hK
        simp only [Option.getD_some] at h1 hK
        have hcells : Cells w b off ((vs.toList.drop off).take n) := by
          intro i u hu
          simp only [World.cell?, hh, Option.isSome_none, Bool.false_eq_true, if_false]
          have hi : i < n := by
            have := (List.getElem?_eq_some_iff.1 hu).1
            simp at this; omega
          rw [List.getElem?_take_of_lt hi, List.getElem?_drop] at hu
          simpa using hu
        have hl2 : ((vs.toList.drop off).take n).length = n := by simp at hlen ⊢; omega
        refine ⟨.agg ((vs.toList.drop off).take n).toArray, .ag t ((cs.drop off).take n), fun w' hw => ?_, ?_, hK⟩
        · have hc' := hcells.keep (hw b hlt)
          simp only [Instr.loadAt, Instr.sureAddr, Sem.run_bind, Sem.run_pure, Result.andThen_ok, loadVar, run_isAggT hagg, if_true, run_sizeT hn]
          have := loadCells_run (P := P) hc'
          rw [hl2] at this
          rw [this]; rfl
        · simp only [VRel]
          refine ⟨_, rfl, ?_⟩
          exact VAll.sub _ _ hv off n
      · rename_i hagg
        split at hq
        · rename_i u hu
          obtain ⟨val, hval, hr⟩ := VAll.get _ _ hv off u hu
          refine ⟨val, u, fun w' hw => ?_, hr, hq⟩
          have hc : w'.cell? ⟨b, off, none⟩ = some val := by
            rw [hw.cell hlt]
            simp only [World.cell?, hh, Option.isSome_none, Bool.false_eq_true, if_false]
            simpa using hval
          simp only [Instr.loadAt, Instr.sureAddr, Sem.run_bind, Sem.run_pure, Result.andThen_ok, loadVar, run_isAggT hagg, Bool.false_eq_true, if_false]
          simp [hc]
        · exact hq.elim
      · exact hq.elim
    · rename_i k t' xs ho
      split at hq
      · rename_i hagg
        obtain ⟨h1, h2, hK⟩ := hq
        obtain ⟨n, hn⟩ : ∃ n, szT P t = some n := by
          cases hs : szT P t with
          | none => rw [hs] at h2; simp at h2
          | some n => exact ⟨n, rfl⟩
        rw [hn] at h1 h2 hK
        simp only [Option.getD_some] at h1 h2 hK
        obtain ⟨bv, hβ0, hob⟩ := h.st.obj j _ (getO_mem ho)
        simp only [ORel] at hob
        obtain ⟨hown, hwf, _⟩ := hob
        obtain ⟨g, cap, hβ, hbg, hle, hc, hl, hlt, _⟩ := ownsV_cell hown (by omega)
        simp only [VRel] at hx
        obtain ⟨b, hb, rfl⟩ := hx
        rw [hβ0, Option.bind_some, hbg] at hb; injection hb with hb; subst hb
        have hl2 : (((xs.drop off).take n).map (Value.int k)).length = n := by simp; omega
        have hcells : Cells w g off (((xs.drop off).take n).map (Value.int k)) := by
          intro i u hu
          have hi : i < n := by
            have := (List.getElem?_eq_some_iff.1 hu).1
            omega
          have := hc (off + i) u (by
            rw [List.getElem?_map, List.getElem?_take_of_lt hi, List.getElem?_drop] at hu
            rw [List.getElem?_map]
            exact hu)
          rwa [Nat.zero_add] at this
        refine ⟨.agg (((xs.drop off).take n).map (Value.int k)).toArray, _, fun w' hw => ?_, ?_, hK⟩
        · have hc' := hcells.keep (hw g hlt)
          simp only [Instr.loadAt, Instr.sureAddr, Sem.run_bind, Sem.run_pure, Result.andThen_ok, loadVar, run_isAggT hagg, if_true, run_sizeT hn]
          have := loadCells_run (P := P) hc'
          rw [hl2] at this
          rw [this]; rfl
        · simp only [VRel, Rep]
          exact ⟨_, repInts (fun x hx => hwf x (List.mem_of_mem_drop (List.mem_of_mem_take hx))), rfl⟩
      rotate_left
      · exact hq.elim
      rename_i hagg
      obtain ⟨hlt0, hK⟩ := hq
      obtain ⟨bv, hβ0, hob⟩ := h.st.obj j _ (getO_mem ho)
      simp only [ORel] at hob
      obtain ⟨hown, hwf, _⟩ := hob
      obtain ⟨g, cap, hβ, hbg, hle, hc, hl, hlt, _⟩ := ownsV_cell hown (by omega)
      simp only [VRel] at hx
      obtain ⟨b, hb, rfl⟩ := hx
      rw [hβ0, Option.bind_some, hbg] at hb; injection hb with hb; subst hb
      have hget : xs[off]? = some (xs.getD off 0) := by simp [List.getD, List.getElem?_eq_getElem hlt0]
      refine ⟨.int k (xs.getD off 0), _, fun w' hw => ?_, ?_, hK⟩
      · have hc1 := hc off (.int k (xs.getD off 0)) (by simp [hlt0])
        simp only [Nat.zero_add] at hc1
        rw [← hw.cell hlt] at hc1
        simp only [Instr.loadAt, Instr.sureAddr, Sem.run_bind, Sem.run_pure, Result.andThen_ok, loadVar, run_isAggT hagg, Bool.false_eq_true, if_false]
        simp [hc1]
      · simp only [VRel, Rep]
        exact ⟨_, ⟨rfl, hwf _ (List.mem_of_getElem? hget)⟩, rfl⟩
    · rename_i t' sz es ho
      obtain ⟨rfl, hagg, hlt0, hone, hK⟩ := hq
      obtain ⟨bv, hβ0, hob⟩ := h.st.obj j _ (getO_mem ho)
      simp only [ORel] at hob
      obtain ⟨vs, hown, hall, hsz, _⟩ := hob
      obtain ⟨g, cap, hβ, hbg, hle, hc, hl, hlt, _⟩ := ownsV_cell hown (by omega)
      simp only [VRel] at hx
      obtain ⟨b, hb, rfl⟩ := hx
      rw [hβ0, Option.bind_some, hbg] at hb; injection hb with hb; subst hb
      have hget : es[off]? = some (es.getD off default) := by simp [List.getD, List.getElem?_eq_getElem hlt0]
      have hrep := RepAll.get es vs hall off _ hget
      have hsize1 : ∀ (m : Nat), m ≤ es.length → D.sizes (es.take m) = m := by
        intro m hm
        exact sizes_one (es.take m) (fun e he => hsz e (List.mem_of_mem_take he)) |>.trans (by simp; omega)
      rw [hsize1 off (by omega), hsz _ (List.mem_of_getElem? hget)] at hrep
      have hvl : off < vs.length := by rw [hl]; omega
      rw [take_one_drop hvl] at hrep
      refine ⟨vs[off], _, fun w' hw => ?_, ?_, hK⟩
      · have hc1 := hc off vs[off] (List.getElem?_eq_getElem hvl)
        simp only [Nat.zero_add] at hc1
        rw [← hw.cell hlt] at hc1
        simp only [Instr.loadAt, Instr.sureAddr, Sem.run_bind, Sem.run_pure, Result.andThen_ok, loadVar, run_isAggT hagg, Bool.false_eq_true, if_false]
        simp [hc1]
      · simp only [VRel]
        exact ⟨_, hrep, by rw [packD_one hone]; rfl⟩
    · exact hq.elim
  · exact hq.elim

end

section
variable {P : Program} {C : Ctx} {s : AState} {β : Nat → Option Value} {S : Nat → Prop} {a : Act} {w : World}

theorem RunsP.pure {v : Value} : Runs0 P w (Pure.pure v) v := fun _ _ => rfl

theorem qNil_sound {x : AVal} {v : Value} {K : AVal → Prop} (hx : VRel w β S x v) (hq : qNil x K) {o : Oper} {y : Operand} (ho : o.op = .nilCheck y) (hy : a.eval y = v) :
    ∃ r, (∀ w', (execOp a.eval o).run P w' = .ok (.value v) w') ∧ VRel w β S r v ∧ K r := by
  unfold qNil at hq
  split at hq
  · refine ⟨_, fun w' => ?_, hx, hq⟩
    simp only [VRel, Rep] at hx
    obtain ⟨cs, ⟨b, o', rfl, _⟩, rfl⟩ := hx
    simp [execOp, ho, hy, packD]
  · refine ⟨_, fun w' => ?_, hx, hq⟩
    simp only [VRel, Rep] at hx
    obtain ⟨cs, ⟨vs, rfl, _⟩, rfl⟩ := hx
    simp [execOp, ho, hy, packD]
  · refine ⟨_, fun w' => ?_, hx, hq⟩
    simp only [VRel] at hx
    obtain ⟨b, _, rfl⟩ := hx
    simp [execOp, ho, hy]
  · refine ⟨_, fun w' => ?_, hx, hq⟩
    simp only [VRel] at hx
    obtain ⟨vs, rfl, _⟩ := hx
    simp [execOp, ho, hy]
  · exact hq.elim

theorem part_run {w : World} {t : TypeId} {cs : List Value} {off : Nat} {y : D} (h1 : aggT P t = some y.isAgg) (h2 : y.isAgg = true → szT P t = some y.size)
    (hsz : ((cs.drop off).take y.size).length = y.size) : (part t cs.toArray off).run P w = .ok (packD y ((cs.drop off).take y.size)) w := by
  unfold part
  simp only [Sem.run_bind, run_isAggT h1, Result.andThen_ok]
  cases hy : y.isAgg with
  | true =>
    simp only [if_true, Sem.run_bind, run_sizeT (h2 hy), Result.andThen_ok, Sem.run_pure]
    cases y <;> simp_all [D.isAgg, packD]
  | false =>
    simp only [Bool.false_eq_true, if_false]
    rw [packD_one hy]
    have h1 : y.size = 1 := by cases y <;> simp_all [D.isAgg, D.size]
    rw [h1] at hsz ⊢
    have hlt : off < cs.length := by simp at hsz; omega
    have : cs.toArray[off]? = some cs[off] := by simp [hlt]
    rw [this]
    simp only [Sem.run_pure]
    rw [take_one_drop hlt]
    simp

theorem qField_sound {t : TypeId} {x : AVal} {v : Value} {f : Nat} {K : AVal → Prop} (hx : VRel w β S x v) (hq : qField P t x f K) :
    ∃ u r, (∀ w' : World, True → (Instr.field t v f).run P w' = .ok u w') ∧ VRel w β S r u ∧ K r := by
  unfold qField at hq
  split at hq
  · rename_i fs hu
    split at hq
    · rename_i fd hf
      split at hq
      · rename_i ds
        split at hq
        · rename_i y hy
          obtain ⟨h1, h2, h3, hK⟩ := hq
          simp only [VRel, Rep] at hx
          obtain ⟨cs, hall, rfl⟩ := hx
          have hr := RepAll.get ds cs hall f y hy
          rw [h1] at hr
          refine ⟨packD y ((cs.drop fd.offset).take y.size), .d y, fun w' _ => ?_, by simp only [VRel]; exact ⟨_, hr, rfl⟩, hK⟩
          have h' := part_run (P := P) (w := w') (cs := cs) (off := fd.offset) h2 h3 (Rep.size _ _ hr)
          simp only [Instr.field, Sem.run_bind, run_underlying hu, Result.andThen_ok, hf, packD, asAgg, Sem.run_pure, h']
        · exact hq.elim
      · rename_i cs
        obtain ⟨h1, hq⟩ := hq
        split at hq
        · rename_i r hr
          simp only [VRel] at hx
          obtain ⟨vs, rfl, hall⟩ := hx
          obtain ⟨u, hu', hru⟩ := VAll.get _ _ hall _ _ hr
          refine ⟨u, r, fun w' _ => ?_, hru, hq⟩
          have : vs[fd.offset]? = some u := by simpa using hu'
          simp only [Instr.field, Sem.run_bind, run_underlying hu, Result.andThen_ok, hf, asAgg, Sem.run_pure, part, run_isAggT h1, Bool.false_eq_true, if_false, this]
        · exact hq.elim
      · exact hq.elim
    · exact hq.elim
  · exact hq.elim

theorem Cells.sub {w : World} {b o : Nat} {vs : List Value} (h : Cells w b o vs) (i n : Nat) : Cells w b (o + i) ((vs.drop i).take n) := by
  intro k u hu
  have hk : k < n := by
    have := (List.getElem?_eq_some_iff.1 hu).1
    simp at this; omega
  rw [List.getElem?_take_of_lt hk, List.getElem?_drop] at hu
  rw [Nat.add_assoc]
  exact h _ u hu

theorem qFieldAddr_sound {t : TypeId} {x : AVal} {v : Value} {f : Nat} {K : AVal → Prop} (hx : VRel w β S x v) (hq : qFieldAddr P t x f K) :
    ∃ u r, Runs0 P w (Instr.fieldAt t v f) u ∧ VRel w β S r u ∧ K r := by
  unfold qFieldAddr at hq
  split at hq
  · rename_i fs hu
    split at hq
    · rename_i fd hf
      obtain ⟨hn0, hq⟩ := hq
      obtain ⟨n, hn⟩ := posB_spec hn0
      have hrun : ∀ (b o : Nat) (w' : World), (Instr.fieldAt t (.pointer (some ⟨b, o, none⟩)) f).run P w' = .ok (.pointer (some ⟨b, o + fd.offset, none⟩)) w' := fun b o w' => by
        simp only [Instr.fieldAt, Sem.run_bind, run_underlying hu, Result.andThen_ok, hf, Instr.sureAddr, Sem.run_pure, fieldPlace, run_sizeT hn, Nat.add_eq_zero_iff, Nat.one_ne_zero, and_false, if_false, addr_add]
      split at hq
      · rename_i ds
        split at hq
        · rename_i y hy
          obtain ⟨h1, hK⟩ := hq
          simp only [VRel, Rep] at hx
          obtain ⟨cs, ⟨b, o, rfl, hb, vs, hc, hall⟩, rfl⟩ := hx
          have hr := RepAll.get ds vs hall f y hy
          rw [h1] at hr
          refine ⟨.pointer (some ⟨b, o + fd.offset, none⟩), .d (.ptr y), fun w' _ => by simpa [packD] using hrun b o w', ?_, hK⟩
          simp only [VRel, Rep]
          exact ⟨_, ⟨b, _, rfl, hb, _, hc.sub fd.offset y.size, hr⟩, rfl⟩
        · exact hq.elim
      · rename_i j off
        simp only [VRel] at hx
        obtain ⟨b, hb, rfl⟩ := hx
        exact ⟨_, _, fun w' _ => hrun b off w', by simp only [VRel]; exact ⟨b, hb, rfl⟩, hq⟩
      · exact hq.elim
    · exact hq.elim
  · exact hq.elim

theorem dv_int {x : AVal} {v : Value} {k : IntKind} {n : Int} (hx : VRel w β S x v) (hd : dv x = some (.int k n)) : v = .int k n ∧ k.wrap n = n := by
  obtain ⟨cs, hr, rfl⟩ := dv_rel hx hd
  simp only [Rep] at hr
  obtain ⟨rfl, hw⟩ := hr
  exact ⟨rfl, hw⟩

theorem d_int {v : Value} {k : IntKind} {n : Int} (hx : VRel w β S (.d (.int k n)) v) : v = .int k n ∧ k.wrap n = n := dv_int hx rfl

theorem qIndexAddr_sound (h : ARelB C s β S a w) {t : TypeId} {x i : AVal} {v u : Value} {K : AVal → Prop} (hx : VRel w β S x v) (hi : VRel w β S i u) (hq : qIndexAddr P s t x i K) :
    ∃ y r, Runs0 P w (Instr.indexAt t v u) y ∧ VRel w β S r y ∧ K r := by
  unfold qIndexAddr at hq
  split at hq
  · rename_i k n hd
    obtain ⟨rfl, hkn⟩ := dv_int hi hd
    split at hq
    · rename_i e hu
      have hrun : ∀ (b o len c sz : Nat) (w' : World), szT P e = some sz → 0 ≤ n → n < len →
          (Instr.indexAt t (.slice (some ⟨b, o, none⟩) len c) (.int k n)).run P w' = .ok (.pointer (some ⟨b, o + n.toNat * sz, none⟩)) w' := fun b o len c sz w' hsz h0 h1 => by
        simp only [Instr.indexAt, asIntOf, Sem.run_bind, Sem.run_pure, Result.andThen_ok, run_underlying hu, h0, h1, and_self, if_true, run_sizeT hsz, addr_add]
      split at hq
      · rename_i kk xs
        obtain ⟨h1, h0, hlt, hK⟩ := hq
        simp only [VRel, Rep] at hx
        obtain ⟨cs, ⟨A, c, rfl, _, _, hwf, hne⟩, rfl⟩ := hx
        have hlt' : n.toNat < xs.length := by omega
        obtain ⟨b, o, rfl, hb, hc⟩ := hne (by intro e; subst e; simp at hlt')
        have hget : xs[n.toNat]? = some (xs.getD n.toNat 0) := by simp [List.getD, List.getElem?_eq_getElem hlt']
        refine ⟨.pointer (some ⟨b, o + n.toNat, none⟩), _, fun w' _ => by simpa [packD] using hrun b o xs.length c 1 w' h1 h0 hlt, ?_, hK⟩
        simp only [VRel, Rep]
        refine ⟨[.pointer (some ⟨b, o + n.toNat, none⟩)], ⟨b, o + n.toNat, rfl, hb, [.int kk (xs.getD n.toNat 0)], ?_, rfl, hwf _ (List.mem_of_getElem? hget)⟩, rfl⟩
        intro i w hw
        cases i with
        | zero =>
          simp at hw; subst hw
          simpa using hc n.toNat (.int kk (xs.getD n.toNat 0)) (by simp [hlt'])
        | succ i => simp at hw
      · rename_i sz es
        obtain ⟨h1, h0, hlt, hK⟩ := hq
        simp only [VRel, Rep] at hx
        obtain ⟨cs, ⟨A, c, rfl, _, _, hne⟩, rfl⟩ := hx
        have hlt' : n.toNat < es.length := by omega
        obtain ⟨b, o, rfl, hb, hrow⟩ := hne (by intro e; subst e; simp at hlt')
        have hget : es[n.toNat]? = some (es.getD n.toNat default) := by simp [List.getD, List.getElem?_eq_getElem hlt']
        obtain ⟨vs, hl, hc, hr⟩ := RepRow.get es b o hrow _ _ hget
        refine ⟨.pointer (some ⟨b, o + n.toNat * sz, none⟩), _, fun w' _ => by simpa [packD] using hrun b o es.length c sz w' h1 h0 hlt, ?_, hK⟩
        simp only [VRel, Rep]
        exact ⟨[.pointer (some ⟨b, o + n.toNat * sz, none⟩)], ⟨b, o + n.toNat * sz, rfl, hb, vs, hc, hr⟩, rfl⟩
      · rename_i j
        split at hq
        · rename_i kk t' xs ho
          obtain ⟨h1, h0, hlt, hK⟩ := hq
          obtain ⟨bv, hβ0, hob⟩ := h.st.obj j _ (getO_mem ho)
          simp only [ORel] at hob
          obtain ⟨g, cap, hβ, hbg, _⟩ := ownsV_cell hob.1 (by omega)
          simp only [VRel] at hx
          rw [hβ0] at hx; injection hx with hx; subst hx
          refine ⟨.pointer (some ⟨g, n.toNat, none⟩), _, fun w' _ => ?_, ?_, hK⟩
          · rw [hβ]; simpa using hrun g 0 xs.length cap 1 w' h1 h0 hlt
          · simp only [VRel]; exact ⟨g, by rw [hβ0]; exact hbg, rfl⟩
        · rename_i t' sz es ho
          obtain ⟨h1, h0, hlt, hK⟩ := hq
          obtain ⟨bv, hβ0, hob⟩ := h.st.obj j _ (getO_mem ho)
          simp only [ORel] at hob
          obtain ⟨vs, hown, _⟩ := hob
          obtain ⟨g, cap, hβ, hbg, _⟩ := ownsV_cell hown (by omega)
          simp only [VRel] at hx
          rw [hβ0] at hx; injection hx with hx; subst hx
          refine ⟨.pointer (some ⟨g, n.toNat * sz, none⟩), _, fun w' _ => ?_, ?_, hK⟩
          · rw [hβ]; simpa using hrun g 0 es.length cap sz w' h1 h0 hlt
          · simp only [VRel]; exact ⟨g, by rw [hβ0]; exact hbg, rfl⟩
        · exact hq.elim
      · rename_i j off len
        obtain ⟨h1, h0, hlt, hK⟩ := hq
        simp only [VRel] at hx
        obtain ⟨A, c, rfl, hle, hA⟩ := hx
        obtain ⟨b, hb, rfl⟩ := hA (by omega)
        refine ⟨.pointer (some ⟨b, off + n.toNat, none⟩), _, fun w' _ => by simpa using hrun b off len c 1 w' h1 h0 hlt, ?_, hK⟩
        simp only [VRel]; exact ⟨b, hb, rfl⟩
      · exact hq.elim
    · rename_i len e hu
      split at hq
      · rename_i j off
        obtain ⟨h1, h0, hlt, hK⟩ := hq
        simp only [VRel] at hx
        obtain ⟨b, hb, rfl⟩ := hx
        refine ⟨.pointer (some ⟨b, off + n.toNat, none⟩), _, fun w' _ => ?_, by simp only [VRel]; exact ⟨b, hb, rfl⟩, hK⟩
        simp only [Instr.indexAt, asIntOf, Sem.run_bind, Sem.run_pure, Result.andThen_ok, run_underlying hu, Instr.sureAddr, h0, hlt, and_self, if_true, run_sizeT h1, addr_add, Nat.mul_one]
      · exact hq.elim
    · exact hq.elim
  · exact hq.elim

end
end Go.Proofs.YtniaeiikdgbnfaaDoor.AW
namespace Go.Proofs.YtniaeiikdgbnfaaDoor.AW
open Go Go.RowKit
set_option linter.unusedSectionVars false
set_option linter.unusedSimpArgs false
variable [Globs]

section
variable {P : Program} {C : Ctx} {s : AState} {β : Nat → Option Value} {S : Nat → Prop} {a : Act} {w : World}

theorem vrel_int {k : IntKind} {n : Int} (h : k.wrap n = n) : VRel w β S (.d (.int k n)) (.int k n) := by
  simp only [VRel, Rep]; exact ⟨_, ⟨rfl, h⟩, rfl⟩
theorem vrel_bool {b : Bool} : VRel w β S (.d (.bool b)) (.bool b) := by simp only [VRel, Rep]; exact ⟨_, rfl, rfl⟩
theorem d_bool {v : Value} {b : Bool} (hx : VRel w β S (.d (.bool b)) v) : v = .bool b := by
  simp only [VRel, Rep] at hx; obtain ⟨cs, rfl, rfl⟩ := hx; rfl
theorem d_str {v : Value} {xs : List Int} (hx : VRel w β S (.d (.str xs)) v) : ∃ s, v = .string s ∧ bytesOf s = xs ∧ s.size ≤ LIM := by
  simp only [VRel, Rep] at hx; obtain ⟨cs, ⟨s, rfl, h⟩, rfl⟩ := hx; exact ⟨s, rfl, h⟩
theorem d_nilp {v : Value} (hx : VRel w β S (.d .nilp) v) : v = .pointer none := by
  simp only [VRel, Rep] at hx; obtain ⟨cs, rfl, rfl⟩ := hx; rfl
theorem d_ptr {v : Value} {x : D} (hx : VRel w β S (.d (.ptr x)) v) : ∃ a, v = .pointer (some a) := by
  simp only [VRel, Rep] at hx; obtain ⟨cs, ⟨b, o, rfl, _⟩, rfl⟩ := hx; exact ⟨_, rfl⟩
theorem o_ptr {v : Value} {j o : Nat} (hx : VRel w β S (.optr j o) v) : ∃ a, v = .pointer (some a) := by
  simp only [VRel] at hx; obtain ⟨b, _, rfl⟩ := hx; exact ⟨_, rfl⟩
theorem d_ints {v : Value} {k : IntKind} {xs : List Int} (hx : VRel w β S (.d (.ints k xs)) v) : ∃ A c, v = .slice A xs.length c ∧ xs.length ≤ c ∧ xs.length ≤ LIM ∧ (∀ x ∈ xs, k.wrap x = x) ∧
      (xs ≠ [] → ∃ b o, A = some ⟨b, o, none⟩ ∧ S b ∧ Cells w b o (xs.map (Value.int k))) := by
  simp only [VRel, Rep] at hx; obtain ⟨cs, ⟨A, c, rfl, h⟩, rfl⟩ := hx; exact ⟨A, c, rfl, h⟩
theorem d_sl {v : Value} {sz : Nat} {es : List D} (hx : VRel w β S (.d (.sl sz es)) v) : ∃ A c, v = .slice A es.length c ∧ es.length ≤ c ∧ es.length ≤ LIM ∧
      (es ≠ [] → ∃ b o, A = some ⟨b, o, none⟩ ∧ S b ∧ RepRow w S sz es b o) := by
  simp only [VRel, Rep] at hx; obtain ⟨cs, ⟨A, c, rfl, h⟩, rfl⟩ := hx; exact ⟨A, c, rfl, h⟩

theorem len_wrap {n : Nat} (h : n ≤ LIM) : IntKind.i64.wrap (n : Int) = n := by
  rw [wrap_in]; unfold LIM at h; simp [loK, hiK]; omega

theorem bytesOf_length (s : ByteArray) : (bytesOf s).length = s.size := by simp [bytesOf]
theorem bytesOf_get (s : ByteArray) (i : Nat) (h : i < s.size) : (bytesOf s)[i]? = some (s[i].toNat : Int) := by
  simp [bytesOf, h]; rfl

theorem agInts_rep {w : World} {S : Nat → Prop} : ∀ (ds : List D) (cs : List Value) {k : IntKind} {xs : List Int}, agInts ds = some (k, xs) → RepAll w S ds cs → cs = xs.map (Value.int k) ∧ (∀ x ∈ xs, k.wrap x = x) ∧ xs ≠ []
  | [], cs, k, xs, h, _ => by simp [agInts] at h
  | [.int k0 n], cs, k, xs, h, hr => by
    simp only [agInts, Option.some.injEq, Prod.mk.injEq] at h
    obtain ⟨rfl, rfl⟩ := h
    simp only [RepAll, Rep] at hr
    obtain ⟨c1, c2, rfl, ⟨rfl, h2⟩, rfl⟩ := hr
    simp [h2]
  | .int k0 n :: d :: r, cs, k, xs, h, hr => by
    simp only [agInts] at h
    split at h
    · rename_i k' xs' h'
      split at h
      · rename_i e
        subst e
        simp only [Option.some.injEq, Prod.mk.injEq] at h
        obtain ⟨rfl, rfl⟩ := h
        rw [RepAll] at hr
        obtain ⟨c1, c2, rfl, h1, h2⟩ := hr
        simp only [Rep] at h1
        obtain ⟨rfl, h1⟩ := h1
        have ih := agInts_rep (d :: r) c2 h' h2
        refine ⟨by simp [ih.1], fun x hx => ?_, by simp⟩
        rcases List.mem_cons.1 hx with rfl | hx
        · exact h1
        · exact ih.2.1 x hx
      · cases h
    · cases h
  | .bool _ :: _, _, _, _, h, _ => by simp [agInts] at h
  | .str _ :: _, _, _, _, h, _ => by simp [agInts] at h
  | .raw _ :: _, _, _, _, h, _ => by simp [agInts] at h
  | .ints _ _ :: _, _, _, _, h, _ => by simp [agInts] at h
  | .sl _ _ :: _, _, _, _, h, _ => by simp [agInts] at h
  | .ptr _ :: _, _, _, _, h, _ => by simp [agInts] at h
  | .nilp :: _, _, _, _, h, _ => by simp [agInts] at h
  | .agg _ :: _, _, _, _, h, _ => by simp [agInts] at h
  | .fn _ _ :: _, _, _, _, h, _ => by simp [agInts] at h

theorem allD_spec : ∀ {xs : List AVal} {ds : List D}, allD xs = some ds → xs = ds.map AVal.d
  | [], ds, h => by simp [allD] at h; subst h; rfl
  | .d x :: r, ds, h => by
    simp only [allD] at h
    split at h
    · rename_i ds' h1
      injection h with h; subst h
      rw [allD_spec h1]; rfl
    · cases h
  | .any :: r, ds, h | .un :: r, ds, h | .em _ :: r, ds, h | .nls _ :: r, ds, h | .own _ :: r, ds, h | .view _ _ _ :: r, ds, h | .optr _ _ :: r, ds, h | .ag _ _ :: r, ds, h | .tup _ :: r, ds, h | .ofn _ _ :: r, ds, h => by simp [allD] at h

theorem agInts_vals : ∀ (ds : List D) (vs : List Value) {k : IntKind} {xs : List Int}, agInts ds = some (k, xs) → VAll w β S (ds.map AVal.d) vs → vs = xs.map (Value.int k) ∧ ∀ x ∈ xs, k.wrap x = x
  | [], vs, k, xs, h, _ => by simp [agInts] at h
  | [.int k0 n], vs, k, xs, h, hv => by
    simp only [agInts, Option.some.injEq, Prod.mk.injEq] at h
    obtain ⟨rfl, rfl⟩ := h
    simp only [List.map_cons, List.map_nil, VAll] at hv
    obtain ⟨v, r, rfl, h1, rfl⟩ := hv
    obtain ⟨rfl, h2⟩ := d_int h1
    simp [h2]
  | .int k0 n :: d :: r, vs, k, xs, h, hv => by
    simp only [agInts] at h
    split at h
    · rename_i k' xs' h'
      split at h
      · rename_i e
        subst e
        simp only [Option.some.injEq, Prod.mk.injEq] at h
        obtain ⟨rfl, rfl⟩ := h
        rw [List.map_cons, VAll] at hv
        obtain ⟨v, q, rfl, h1, h2⟩ := hv
        obtain ⟨rfl, h3⟩ := d_int h1
        have ih := agInts_vals (d :: r) q h' h2
        refine ⟨by simp [ih.1], fun x hx => ?_⟩
        rcases List.mem_cons.1 hx with rfl | hx
        · exact h3
        · exact ih.2 x hx
      · cases h
    · cases h
  | .bool _ :: _, _, _, _, h, _ => by simp [agInts] at h
  | .str _ :: _, _, _, _, h, _ => by simp [agInts] at h
  | .raw _ :: _, _, _, _, h, _ => by simp [agInts] at h
  | .ints _ _ :: _, _, _, _, h, _ => by simp [agInts] at h
  | .sl _ _ :: _, _, _, _, h, _ => by simp [agInts] at h
  | .ptr _ :: _, _, _, _, h, _ => by simp [agInts] at h
  | .nilp :: _, _, _, _, h, _ => by simp [agInts] at h
  | .agg _ :: _, _, _, _, h, _ => by simp [agInts] at h
  | .fn _ _ :: _, _, _, _, h, _ => by simp [agInts] at h

theorem qIndex_sound {t : TypeId} {x i : AVal} {v u : Value} {K : AVal → Prop} (hx : VRel w β S x v) (hi : VRel w β S i u) (hq : qIndex P t x i K) :
    ∃ y r, Runs0 P w (Instr.index t v u) y ∧ VRel w β S r y ∧ K r := by
  unfold qIndex at hq
  split at hq
  · rename_i k n hd
    obtain ⟨rfl, hkn⟩ := dv_int hi hd
    split at hq
    · rename_i hu
      split at hq
      · rename_i xs
        obtain ⟨h0, hlt, hK⟩ := hq
        obtain ⟨s, rfl, rfl, hl⟩ := d_str hx
        rw [bytesOf_length] at hlt
        have hlt' : n.toNat < s.size := by omega
        have hg := bytesOf_get s n.toNat hlt'
        refine ⟨.int .u8 s[n.toNat].toNat, _, fun w' _ => ?_, ?_, hK⟩
        · have : s[n.toNat]? = some s[n.toNat] := by simp [hlt']
          simp only [Instr.index, asIntOf, Sem.run_bind, Sem.run_pure, Result.andThen_ok, run_underlying hu, h0, if_true, this]
        · rw [List.getD, hg, Option.getD_some]
          refine vrel_int ?_
          rw [wrap_in]; simp [loK, hiK]; have := s[n.toNat].toNat_lt; omega
      · exact hq.elim
    · rename_i len e hu
      split at hq
      · rename_i ds
        split at hq
        · rename_i k' xs hag
          obtain ⟨h1, h2, hlen, h0, hlt, hK⟩ := hq
          simp only [VRel, Rep] at hx
          obtain ⟨cs, hall, rfl⟩ := hx
          obtain ⟨rfl, hwf, _⟩ := agInts_rep ds cs hag hall
          have hb : n.toNat < xs.length := by omega
          refine ⟨.int k' (xs.getD n.toNat 0), _, fun w' _ => ?_, vrel_int (hwf _ ?_), hK⟩
          · have hc : (0 ≤ n ∧ n < (len : Int)) = True := eq_true ⟨h0, by omega⟩
            have hg : (xs.map (Value.int k'))[n.toNat]? = some (.int k' (xs.getD n.toNat 0)) := by
              simp [hb]
            simp only [Instr.index, asIntOf, Sem.run_bind, Sem.run_pure, Result.andThen_ok, run_underlying hu, packD, hc, if_true, part, run_isAggT h1, run_sizeT h2, Bool.false_eq_true, if_false, Nat.mul_one]
            simp [hg]
          · rw [List.getD_eq_getElem?_getD, List.getElem?_eq_getElem hb, Option.getD_some]
            exact List.getElem_mem hb
        · exact hq.elim
      · rename_i cs
        split at hq
        · rename_i k' xs hag
          obtain ⟨h1, h2, hlen, h0, hlt, hK⟩ := hq
          obtain ⟨ds, hds, hag2⟩ := Option.bind_eq_some_iff.1 hag
          clear hag
          have hcs := allD_spec hds
          subst hcs
          simp only [VRel] at hx
          obtain ⟨vs, rfl, hall⟩ := hx
          obtain ⟨hvs, hwf⟩ := agInts_vals ds _ hag2 hall
          have hb : n.toNat < xs.length := by omega
          refine ⟨.int k' (xs.getD n.toNat 0), _, fun w' _ => ?_, vrel_int (hwf _ ?_), hK⟩
          · have hc : (0 ≤ n ∧ n < (len : Int)) = True := eq_true ⟨h0, by omega⟩
            have hg : vs[n.toNat]? = some (.int k' (xs.getD n.toNat 0)) := by
              rw [← Array.getElem?_toList, hvs]
              simp [hb]
            simp only [Instr.index, asIntOf, Sem.run_bind, Sem.run_pure, Result.andThen_ok, run_underlying hu, hc, if_true, part, run_isAggT h1, run_sizeT h2, Bool.false_eq_true, if_false, Nat.mul_one, hg]
          · rw [List.getD_eq_getElem?_getD, List.getElem?_eq_getElem hb, Option.getD_some]
            exact List.getElem_mem hb
        obtain ⟨h1, h2, h0, hlt, hq⟩ := hq
        split at hq
        · rename_i r hr
          simp only [VRel] at hx
          obtain ⟨vs, rfl, hall⟩ := hx
          obtain ⟨u, hu', hru⟩ := VAll.get _ _ hall _ _ hr
          refine ⟨u, r, fun w' _ => ?_, hru, hq⟩
          have hg : vs[n.toNat]? = some u := by simpa using hu'
          have hc : (0 ≤ n ∧ n < (len : Int)) = True := eq_true ⟨h0, by omega⟩
          simp only [Instr.index, asIntOf, Sem.run_bind, Sem.run_pure, Result.andThen_ok, run_underlying hu, hc, if_true, part, run_isAggT h1, run_sizeT h2, Bool.false_eq_true, if_false, Nat.mul_one, hg]
        · exact hq.elim
      · exact hq.elim
    · exact hq.elim
  · exact hq.elim

theorem qExtract_sound {x : AVal} {v : Value} {i : Nat} {K : AVal → Prop} (hx : VRel w β S x v) (hq : qExtract x i K) :
    ∃ y r, Runs0 P w (Instr.extract v i) y ∧ VRel w β S r y ∧ K r := by
  unfold qExtract at hq
  split at hq
  · rename_i vs
    split at hq
    · rename_i r hr
      simp only [VRel] at hx
      obtain ⟨us, rfl, hall⟩ := hx
      obtain ⟨u, hu, hru⟩ := VAll.get _ _ hall _ _ hr
      have : us[i]? = some u := by simpa using hu
      exact ⟨u, r, fun w' _ => by simp [Instr.extract, this], hru, hq⟩
    · exact hq.elim
  · exact hq.elim

theorem qLen_sound (h : ARelB C s β S a w) {t ty : TypeId} {x : AVal} {v : Value} {K : AVal → Prop} (hx : VRel w β S x v) (hq : qLen P s t x K) :
    ∃ y r, Runs0 P w (Builtin.len_ #[t] ty #[v]) y ∧ VRel w β S r y ∧ K r := by
  unfold qLen at hq
  split at hq
  · rename_i e hu
    have hrun : ∀ A n c w', (Builtin.len_ #[t] ty #[.slice A n c]).run P w' = .ok (.int .i64 n) w' := fun A n c w' => by
      simp [Builtin.len_, run_underlying hu, goInt]
    split at hq
    · obtain ⟨A, c, rfl, _, hl, _⟩ := d_ints hx
      exact ⟨_, _, fun w' _ => hrun A _ c w', vrel_int (len_wrap hl), hq⟩
    · obtain ⟨A, c, rfl, _, hl, _⟩ := d_sl hx
      exact ⟨_, _, fun w' _ => hrun A _ c w', vrel_int (len_wrap hl), hq⟩
    · simp only [VRel] at hx
      obtain ⟨⟨A, rfl⟩, _⟩ := hx
      exact ⟨_, _, fun w' _ => hrun A 0 0 w', vrel_int (by decide), hq⟩
    · simp only [VRel] at hx
      obtain ⟨rfl, _⟩ := hx
      exact ⟨_, _, fun w' _ => hrun none 0 0 w', vrel_int (by decide), hq⟩
    · rename_i j
      split at hq
      · rename_i k t' xs ho
        obtain ⟨bv, hβ0, hob⟩ := h.st.obj j _ (getO_mem ho)
        simp only [ORel] at hob
        simp only [VRel] at hx
        rw [hβ0] at hx; injection hx with hx; subst hx
        obtain ⟨A, c, hv⟩ : ∃ A c, bv = .slice A xs.length c := by
          rcases hob.1 with ⟨A, e1, e2, _⟩ | ⟨g, cap, cur, e1, _⟩
          · exact ⟨A, 0, by rw [e1, e2]⟩
          · exact ⟨_, cap, e1⟩
        rw [hv]
        exact ⟨_, _, fun w' _ => hrun A _ c w', vrel_int (len_wrap hob.2.2), hq⟩
      · rename_i t' sz es ho
        obtain ⟨bv, hβ0, hob⟩ := h.st.obj j _ (getO_mem ho)
        simp only [ORel] at hob
        obtain ⟨vs, hown, _, _, hl, _⟩ := hob
        simp only [VRel] at hx
        rw [hβ0] at hx; injection hx with hx; subst hx
        obtain ⟨A, c, hv⟩ : ∃ A c, bv = .slice A es.length c := by
          rcases hown with ⟨A, e1, e2, _⟩ | ⟨g, cap, cur, e1, _⟩
          · exact ⟨A, 0, by rw [e1, e2]⟩
          · exact ⟨_, cap, e1⟩
        rw [hv]
        exact ⟨_, _, fun w' _ => hrun A _ c w', vrel_int (len_wrap hl), hq⟩
      · exact hq.elim
    · rename_i j off len
      obtain ⟨hl, hK⟩ := hq
      simp only [VRel] at hx
      obtain ⟨A, c, rfl, _⟩ := hx
      exact ⟨_, _, fun w' _ => hrun A _ c w', vrel_int (len_wrap hl), hK⟩
    · exact hq.elim
  · rename_i hu
    split at hq
    · obtain ⟨s, rfl, rfl, hl⟩ := d_str hx
      rw [bytesOf_length] at hq
      exact ⟨_, _, fun w' _ => by simp [Builtin.len_, run_underlying hu, goInt], vrel_int (len_wrap hl), hq⟩
    · exact hq.elim
  · rename_i n e hu
    obtain ⟨hl, hK⟩ := hq
    exact ⟨_, _, fun w' _ => by cases v <;> simp [Builtin.len_, run_underlying hu, goInt] <;> rfl, vrel_int (len_wrap hl), hK⟩
  · exact hq.elim

theorem shr_in {k : IntKind} {n : Int} (m : Nat) (h : k.wrap n = n) : k.wrap (n / 2 ^ m) = n / 2 ^ m := by
  rw [wrap_in] at h ⊢
  have hp : (0 : Int) < 2 ^ m := Int.pow_pos (by decide)
  constructor
  · rw [Int.le_ediv_iff_mul_le hp]
    have : loK k ≤ 0 := by cases k <;> simp [loK]
    have h1 : (1 : Int) ≤ 2 ^ m := hp
    calc loK k * 2 ^ m ≤ loK k * 1 := Int.mul_le_mul_of_nonpos_left this h1
      _ ≤ n := by omega
  · rcases Int.lt_or_le n 0 with hn | hn
    · have : n / 2 ^ m < 0 := Int.ediv_neg_of_neg_of_pos hn hp
      have : 0 ≤ hiK k := by cases k <;> simp [hiK]
      omega
    · exact Int.le_trans (Int.ediv_le_self _ hn) h.2

theorem emod_le_self {a b : Int} (h : 0 ≤ a) : a % b ≤ a := by
  obtain ⟨n, rfl⟩ := Int.eq_ofNat_of_zero_le h
  show ((n % b.natAbs : Nat) : Int) ≤ n
  exact Int.ofNat_le.2 (Nat.mod_le _ _)

theorem tmod_in {k : IntKind} {a b : Int} (h : k.wrap a = a) : k.wrap (a.tmod b) = a.tmod b := by
  rw [wrap_in] at h ⊢
  have hlo : loK k ≤ 0 := by cases k <;> simp [loK]
  have hhi : 0 ≤ hiK k := by cases k <;> simp [hiK]
  rcases Int.lt_or_le a 0 with hn | hn
  · have e : a.tmod b = -((-a).tmod b) := by rw [Int.neg_tmod]; omega
    have h1 : 0 ≤ (-a).tmod b := Int.tmod_nonneg _ (by omega)
    have h2 : (-a).tmod b ≤ -a := by rw [Int.tmod_eq_emod_of_nonneg (by omega)]; exact emod_le_self (by omega)
    omega
  · have h1 : 0 ≤ a.tmod b := Int.tmod_nonneg _ hn
    have h2 : a.tmod b ≤ a := by rw [Int.tmod_eq_emod_of_nonneg hn]; exact emod_le_self hn
    omega

theorem run_eqGuard {w : World} {op : BinOp} {t : TypeId} {x y : Operand} {u v : Value} (h1 : ∀ c, u = .agg c → False) (h2 : u = .nilIface → False) : (eqGuard op t x y u v).run P w = .ok () w := by
  unfold eqGuard
  cases u <;> simp_all <;> cases op <;> simp

theorem qInts_sound {op : BinOp} {k : IntKind} {x y : Int} {K : AVal → Prop} (hx : k.wrap x = x) (hs : op ≠ .shl ∧ op ≠ .shr) (hq : qInts op k x y K) (t : TypeId) :
    ∃ u r, (∀ w' : World, (binOp op t (.int k x) (.int k y)).run P w' = .ok u w') ∧ VRel w β S r u ∧ K r := by
  unfold qInts at hq
  split at hq
  case h_1 => exact ⟨_, _, fun w' => by simp [binOp, Op.intArith], vrel_int (wrap_wrap _ _), hq⟩
  case h_2 => exact ⟨_, _, fun w' => by simp [binOp, Op.intArith], vrel_int (wrap_wrap _ _), hq⟩
  case h_3 => exact ⟨_, _, fun w' => by simp [binOp, Op.intArith], vrel_int (wrap_wrap _ _), hq⟩
  case h_4 => exact ⟨_, _, fun w' => by simp [binOp, Op.intDiv, hq.1], vrel_int (wrap_wrap _ _), hq.2⟩
  case h_5 => exact ⟨_, _, fun w' => by simp [binOp, Op.intDiv, hq.1], vrel_int (tmod_in hx), hq.2⟩
  case h_6 => exact ⟨_, _, fun w' => by simp [binOp, Op.intBits]; rfl, vrel_int (by simp [bitsK, wrap_wrap]), hq⟩
  case h_7 => exact ⟨_, _, fun w' => by simp [binOp, Op.intBits]; rfl, vrel_int (by simp [bitsK, wrap_wrap]), hq⟩
  case h_8 => exact ⟨_, _, fun w' => by simp [binOp, Op.intBits]; rfl, vrel_int (by simp [bitsK, wrap_wrap]), hq⟩
  case h_9 => exact ⟨_, _, fun w' => by simp only [binOp, Op.intBits, ne_eq, not_true_eq_false, if_false]; rfl, vrel_int (by simp [bitsK, wrap_wrap]), hq⟩
  case h_10 => exact ⟨.bool (decide (x = y)), _, fun w' => by simp [binOp, Op.intCmp]; rfl, vrel_bool, hq⟩
  case h_11 => exact ⟨.bool (!decide (x = y)), _, fun w' => by simp [binOp, Op.intCmp, bne]; rfl, vrel_bool, hq⟩
  case h_12 => exact ⟨_, _, fun w' => by simp [binOp, Op.intCmp], vrel_bool, hq⟩
  case h_13 => exact ⟨_, _, fun w' => by simp [binOp, Op.intCmp], vrel_bool, hq⟩
  case h_14 => exact ⟨_, _, fun w' => by simp [binOp, Op.intCmp], vrel_bool, hq⟩
  case h_15 => exact ⟨_, _, fun w' => by simp [binOp, Op.intCmp], vrel_bool, hq⟩
  case h_16 => exact hq.elim

theorem toList_data (z : ByteArray) : z.toList = z.data.toList := by
  unfold ByteArray.toList
  have : ∀ i r, ByteArray.toList.loop z i r = r.reverse ++ z.data.toList.drop i := by
    intro i r
    induction h : z.size - i generalizing i r with
    | zero =>
      rw [ByteArray.toList.loop, if_neg (by omega), List.drop_eq_nil_of_le (by simpa using (by omega : z.size ≤ i))]; simp
    | succ n ih =>
      rw [ByteArray.toList.loop, if_pos (by omega), ih (i+1) _ (by omega)]
      have hi : i < z.data.toList.length := by simpa using (by omega : i < z.size)
      rw [List.drop_eq_getElem_cons hi]
      simp [ByteArray.get!, getElem!_pos, show i < z.size by omega]
  simpa using this 0 []

theorem bytes_inj {x y : ByteArray} (h : bytesOf x = bytesOf y) : x.toList = y.toList := by
  have e : ∀ z : ByteArray, z.toList = z.data.toList := toList_data
  rw [e, e]
  unfold bytesOf at h
  exact List.map_inj_right (fun a b hab => by exact UInt8.toNat_inj.1 (by omega)) |>.1 h

theorem str_eq (x y : ByteArray) : (x.toList == y.toList) = decide (bytesOf x = bytesOf y) := by
  rw [Bool.eq_iff_iff]
  simp only [beq_iff_eq, decide_eq_true_eq]
  constructor
  · intro h
    have e : ∀ z : ByteArray, z.toList = z.data.toList := toList_data
    rw [e, e] at h
    simp [bytesOf, h]
  · exact bytes_inj

theorem bytesLess_eq : ∀ (x y : List UInt8), Op.bytesLess x y = strLt (x.map fun b => (b.toNat : Int)) (y.map fun b => (b.toNat : Int))
  | [], [] => rfl
  | _ :: _, [] => rfl
  | [], _ :: _ => rfl
  | a :: x, b :: y => by
    simp only [Op.bytesLess, List.map_cons, strLt, bytesLess_eq x y]
    congr 1
    · rw [decide_eq_decide, UInt8.lt_iff_toNat_lt]; omega
    · congr 1
      rw [Bool.eq_iff_iff]
      simp only [beq_iff_eq, decide_eq_true_eq, ← UInt8.toNat_inj]
      omega
theorem str_lt (x y : ByteArray) : Op.bytesLess x.toList y.toList = strLt (bytesOf x) (bytesOf y) := by
  rw [bytesLess_eq, toList_data, toList_data]; rfl

theorem samePtr_none {w : World} {x : Option Addr} : (samePointer x none).run P w = .ok x.isNone w := by cases x <;> simp [samePointer]
theorem samePtr_none' {w : World} {x : Option Addr} : (samePointer none x).run P w = .ok x.isNone w := by cases x <;> simp [samePointer]

theorem eqIn_bool {w : World} {t : TypeId} (hu : P.underlying t = some .bool) (x y : Bool) (d : Nat) : (Op.equalIn (d + 1) t (.bool x) (.bool y)).run P w = .ok (x == y) w := by
  simp [Op.equalIn, run_underlying hu]
theorem eqIn_nil {w : World} {t e : TypeId} (hu : P.underlying t = some (.slice e)) (A : Option Addr) (n c : Nat) (d : Nat) : (Op.equalIn (d + 1) t (.slice A n c) (.slice none 0 0)).run P w = .ok A.isNone w := by
  cases A <;> simp [Op.equalIn, run_underlying hu]
theorem eqIn_ptr {w : World} {t e : TypeId} (hu : P.underlying t = some (.pointer e)) (A : Option Addr) (d : Nat) : (Op.equalIn (d + 1) t (.pointer A) (.pointer none)).run P w = .ok A.isNone w := by
  cases A <;> simp [Op.equalIn, run_underlying hu]
theorem eqIn_ptr' {w : World} {t e : TypeId} (hu : P.underlying t = some (.pointer e)) (A : Option Addr) (d : Nat) : (Op.equalIn (d + 1) t (.pointer none) (.pointer A)).run P w = .ok A.isNone w := by
  cases A <;> simp [Op.equalIn, run_underlying hu]

theorem run_eql {w : World} {t : TypeId} {x y : Value} {b : Bool} (hb : ∀ d, (Op.equalIn (d + 1) t x y).run P w = .ok b w) : (Op.equal t x y).run P w = .ok b w := hb 9999

theorem qNilSl_sound (h : ARelB C s β S a w) {x : AVal} {u : Value} {K : Bool → Prop} (hx : VRel w β S x u) (hq : qNilSl x s K) : ∃ A n c, u = .slice A n c ∧ K A.isNone := by
  have own : ∀ {t : TypeId} {sz : Nat} {v : Value} {n : Nat} {vs : List Value}, OwnsV w t sz v n vs → ∃ A c, v = .slice A n c ∧ (A = none → n = 0) := fun hv => by
    rcases hv with ⟨A, e1, e2, _⟩ | ⟨g, cap, cur, e1, _⟩
    · exact ⟨A, 0, by rw [e1, e2], fun _ => e2⟩
    · exact ⟨_, cap, e1, by simp⟩
  unfold qNilSl at hq
  split at hq
  · simp only [VRel] at hx
    obtain ⟨⟨A, rfl⟩, _⟩ := hx
    refine ⟨A, 0, 0, rfl, ?_⟩
    cases A
    · exact hq.1
    · exact hq.2
  · simp only [VRel] at hx
    obtain ⟨rfl, _⟩ := hx
    exact ⟨none, 0, 0, rfl, hq⟩
  · obtain ⟨A, c, rfl, _, _, _, hne⟩ := d_ints hx
    refine ⟨A, _, c, rfl, ?_⟩
    cases A with
    | none =>
      refine hq.1 (Classical.byContradiction fun e => ?_)
      obtain ⟨b, o, e, _⟩ := hne e
      cases e
    | some A => exact hq.2
  · obtain ⟨A, c, rfl, _, _, hne⟩ := d_sl hx
    refine ⟨A, _, c, rfl, ?_⟩
    cases A with
    | none =>
      refine hq.1 (Classical.byContradiction fun e => ?_)
      obtain ⟨b, o, e, _⟩ := hne e
      cases e
    | some A => exact hq.2
  · rename_i j
    split at hq
    · rename_i k t' xs ho
      obtain ⟨bv, hβ0, hob⟩ := h.st.obj j _ (getO_mem ho)
      simp only [ORel] at hob
      simp only [VRel] at hx
      rw [hβ0] at hx; injection hx with hx; subst hx
      obtain ⟨A, c, e, hA⟩ := own hob.1
      refine ⟨A, _, c, e, ?_⟩
      cases A with
      | none => exact hq.1 (List.eq_nil_of_length_eq_zero (hA rfl))
      | some A => exact hq.2
    · rename_i t' sz es ho
      obtain ⟨bv, hβ0, hob⟩ := h.st.obj j _ (getO_mem ho)
      simp only [ORel] at hob
      obtain ⟨vs, hown, _⟩ := hob
      simp only [VRel] at hx
      rw [hβ0] at hx; injection hx with hx; subst hx
      obtain ⟨A, c, e, hA⟩ := own hown
      refine ⟨A, _, c, e, ?_⟩
      cases A with
      | none => exact hq.1 (List.eq_nil_of_length_eq_zero (hA rfl))
      | some A => exact hq.2
    · exact hq.elim
  · exact hq.elim

theorem qBin_sound (h : ARelB C s β S a w) {op : BinOp} {t : TypeId} {x y : AVal} {u v : Value} {K : AVal → Prop} (hx : VRel w β S x u) (hy : VRel w β S y v) (hq : qBin P s op t x y K) (ox oy : Operand) :
    ∃ z r, Runs0 P w (do eqGuard op t ox oy u v; binOp op t u v) z ∧ VRel w β S r z ∧ K r := by
  have guard : ∀ {w' : World}, (∀ c, u = .agg c → False) → (u = .nilIface → False) → (do eqGuard op t ox oy u v; binOp op t u v : Sem Value).run P w' = (binOp op t u v).run P w' := fun h1 h2 => by
    simp only [Sem.run_bind, run_eqGuard h1 h2, Result.andThen_ok]
  suffices H : (∀ c, u = .agg c → False) ∧ (u = .nilIface → False) ∧ ∃ z r, Runs0 P w (binOp op t u v) z ∧ VRel w β S r z ∧ K r by
    obtain ⟨h1, h2, z, r, h3, h4⟩ := H
    exact ⟨z, r, fun w' hw => by rw [guard h1 h2]; exact h3 w' hw, h4⟩
  unfold qBin at hq
  split at hq
  · obtain ⟨rfl, hk⟩ := d_int hx
    obtain ⟨rfl, hk'⟩ := d_int hy
    obtain ⟨h0, hK⟩ := hq
    refine ⟨by simp, by simp, _, _, fun w' _ => ?_, vrel_int (wrap_wrap _ _), hK⟩
    simp [binOp, Op.shift, Int.not_lt.2 h0]
  · rename_i k n k' m
    obtain ⟨rfl, hk⟩ := d_int hx
    obtain ⟨rfl, hk'⟩ := d_int hy
    obtain ⟨h0, hK⟩ := hq
    refine ⟨by simp, by simp, .int k (n / 2 ^ (min m.toNat k.bits)), _, fun w' _ => ?_, vrel_int (shr_in _ hk), hK⟩
    have : (0 : Int) ≤ 2 ^ (min m.toNat k.bits) := Int.le_of_lt (Int.pow_pos (by decide))
    simp [binOp, Op.shift, Int.not_lt.2 h0, Int.fdiv_eq_ediv_of_nonneg _ this]
  · rename_i k n k' m h1 h2
    obtain ⟨rfl, hk⟩ := d_int hx
    obtain ⟨rfl, hk'⟩ := d_int hy
    obtain ⟨rfl, hK⟩ := hq
    have hs : op ≠ .shl ∧ op ≠ .shr := by
      constructor
      · intro e; first | exact h1 e | exact h1 _ _ e rfl | exact h1 _ _ _ _ e rfl rfl | exact h1 _ _ _ e rfl rfl
      · intro e; first | exact h2 e | exact h2 _ _ e rfl | exact h2 _ _ _ _ e rfl rfl | exact h2 _ _ _ e rfl rfl
    obtain ⟨z, r, h3, h4, h5⟩ := qInts_sound (P := P) (w := w) (β := β) (S := S) hk hs hK t
    exact ⟨by simp, by simp, z, r, fun w' _ => h3 w', h4, h5⟩
  · obtain ⟨x', rfl, rfl, _⟩ := d_str hx
    obtain ⟨y', rfl, rfl, _⟩ := d_str hy
    exact ⟨by simp, by simp, _, _, fun w' _ => by simp only [binOp, Op.stringOp, str_eq, Sem.run_pure], vrel_bool, hq⟩
  · obtain ⟨x', rfl, rfl, _⟩ := d_str hx
    obtain ⟨y', rfl, rfl, _⟩ := d_str hy
    exact ⟨by simp, by simp, _, _, fun w' _ => by simp only [binOp, Op.stringOp, str_eq, Sem.run_pure], vrel_bool, hq⟩
  · obtain ⟨x', rfl, rfl, _⟩ := d_str hx
    obtain ⟨y', rfl, rfl, _⟩ := d_str hy
    exact ⟨by simp, by simp, _, _, fun w' _ => by simp only [binOp, Op.stringOp, str_eq, str_lt, Sem.run_pure], vrel_bool, hq⟩
  · obtain ⟨x', rfl, rfl, _⟩ := d_str hx
    obtain ⟨y', rfl, rfl, _⟩ := d_str hy
    exact ⟨by simp, by simp, _, _, fun w' _ => by simp only [binOp, Op.stringOp, str_eq, str_lt, Sem.run_pure], vrel_bool, hq⟩
  · obtain ⟨x', rfl, rfl, _⟩ := d_str hx
    obtain ⟨y', rfl, rfl, _⟩ := d_str hy
    exact ⟨by simp, by simp, _, _, fun w' _ => by simp only [binOp, Op.stringOp, str_eq, str_lt, Sem.run_pure], vrel_bool, hq⟩
  · obtain ⟨x', rfl, rfl, _⟩ := d_str hx
    obtain ⟨y', rfl, rfl, _⟩ := d_str hy
    exact ⟨by simp, by simp, _, _, fun w' _ => by simp only [binOp, Op.stringOp, str_eq, str_lt, Sem.run_pure], vrel_bool, hq⟩
  · obtain ⟨x', rfl, rfl, hl⟩ := d_str hx
    obtain ⟨y', rfl, rfl, hl'⟩ := d_str hy
    obtain ⟨hlen, hK⟩ := hq
    rw [bytesOf_length, bytesOf_length] at hlen
    have hmax : ¬ ((x'.size + y'.size : Nat) : Int) > IntKind.i64.max := by
      unfold LIM at hlen
      simp only [IntKind.max, IntKind.signed, IntKind.bits]; simp; omega
    refine ⟨by simp, by simp, .string (x' ++ y'), _, fun w' _ => ?_, ?_, hK⟩
    · simp only [binOp, Op.stringOp, hmax, if_false, Sem.run_pure]
    · simp only [VRel, Rep]
      refine ⟨_, ⟨_, rfl, by simp [bytesOf], ?_⟩, rfl⟩
      simp; exact hlen
  · obtain ⟨hu, hK⟩ := hq
    have e1 := d_bool hx; have e2 := d_bool hy
    subst e1; subst e2
    refine ⟨by simp, by simp, _, _, fun w' _ => ?_, vrel_bool, hK⟩
    simp only [binOp, Sem.run_bind, run_eql (eqIn_bool hu _ _), Result.andThen_ok, Sem.run_pure]
    rfl
  · obtain ⟨hu, hK⟩ := hq
    have e1 := d_bool hx; have e2 := d_bool hy
    subst e1; subst e2
    refine ⟨by simp, by simp, _, _, fun w' _ => ?_, vrel_bool, hK⟩
    simp only [binOp, Sem.run_bind, run_eql (eqIn_bool hu _ _), Result.andThen_ok, Sem.run_pure]
    rfl
  · split at hq
    · rename_i e hu
      split at hq
      · simp only [VRel] at hy
        obtain ⟨rfl, _⟩ := hy
        obtain ⟨A, n, c, rfl, hK⟩ := qNilSl_sound h hx hq
        refine ⟨by simp, by simp, .bool (A.isNone), _, fun w' _ => ?_, vrel_bool, hK⟩
        simp only [binOp, Sem.run_bind, run_eql (eqIn_nil hu A n c), Result.andThen_ok, Sem.run_pure]
      · exact hq.elim
    · rename_i e hu
      split at hq
      · have e1 := d_nilp hx; have e2 := d_nilp hy
        subst e1; subst e2
        refine ⟨by simp, by simp, _, _, fun w' _ => ?_, vrel_bool, hq⟩
        simp only [binOp, Sem.run_bind, run_eql (eqIn_ptr hu _), Result.andThen_ok, Sem.run_pure]; rfl
      · have e2 := d_nilp hy; obtain ⟨p, e1⟩ := d_ptr hx
        subst e1; subst e2
        refine ⟨by simp, by simp, _, _, fun w' _ => ?_, vrel_bool, hq⟩
        simp only [binOp, Sem.run_bind, run_eql (eqIn_ptr hu _), Result.andThen_ok, Sem.run_pure]; rfl
      · have e2 := d_nilp hx; obtain ⟨p, e1⟩ := d_ptr hy
        subst e1; subst e2
        refine ⟨by simp, by simp, _, _, fun w' _ => ?_, vrel_bool, hq⟩
        simp only [binOp, Sem.run_bind, run_eql (eqIn_ptr' hu _), Result.andThen_ok, Sem.run_pure]; rfl
      · have e2 := d_nilp hy; obtain ⟨p, e1⟩ := o_ptr hx
        subst e1; subst e2
        refine ⟨by simp, by simp, _, _, fun w' _ => ?_, vrel_bool, hq⟩
        simp only [binOp, Sem.run_bind, run_eql (eqIn_ptr hu _), Result.andThen_ok, Sem.run_pure]; rfl
      · have e2 := d_nilp hx; obtain ⟨p, e1⟩ := o_ptr hy
        subst e1; subst e2
        refine ⟨by simp, by simp, _, _, fun w' _ => ?_, vrel_bool, hq⟩
        simp only [binOp, Sem.run_bind, run_eql (eqIn_ptr' hu _), Result.andThen_ok, Sem.run_pure]; rfl
      · exact hq.elim
    · exact hq.elim
  · split at hq
    · rename_i e hu
      split at hq
      · simp only [VRel] at hy
        obtain ⟨rfl, _⟩ := hy
        obtain ⟨A, n, c, rfl, hK⟩ := qNilSl_sound h hx hq
        refine ⟨by simp, by simp, .bool (!A.isNone), _, fun w' _ => ?_, vrel_bool, hK⟩
        simp only [binOp, Sem.run_bind, run_eql (eqIn_nil hu A n c), Result.andThen_ok, Sem.run_pure]
      · exact hq.elim
    · rename_i e hu
      split at hq
      · have e1 := d_nilp hx; have e2 := d_nilp hy
        subst e1; subst e2
        refine ⟨by simp, by simp, _, _, fun w' _ => ?_, vrel_bool, hq⟩
        simp only [binOp, Sem.run_bind, run_eql (eqIn_ptr hu _), Result.andThen_ok, Sem.run_pure]; rfl
      · have e2 := d_nilp hy; obtain ⟨p, e1⟩ := d_ptr hx
        subst e1; subst e2
        refine ⟨by simp, by simp, _, _, fun w' _ => ?_, vrel_bool, hq⟩
        simp only [binOp, Sem.run_bind, run_eql (eqIn_ptr hu _), Result.andThen_ok, Sem.run_pure]; rfl
      · have e2 := d_nilp hx; obtain ⟨p, e1⟩ := d_ptr hy
        subst e1; subst e2
        refine ⟨by simp, by simp, _, _, fun w' _ => ?_, vrel_bool, hq⟩
        simp only [binOp, Sem.run_bind, run_eql (eqIn_ptr' hu _), Result.andThen_ok, Sem.run_pure]; rfl
      · have e2 := d_nilp hy; obtain ⟨p, e1⟩ := o_ptr hx
        subst e1; subst e2
        refine ⟨by simp, by simp, _, _, fun w' _ => ?_, vrel_bool, hq⟩
        simp only [binOp, Sem.run_bind, run_eql (eqIn_ptr hu _), Result.andThen_ok, Sem.run_pure]; rfl
      · have e2 := d_nilp hx; obtain ⟨p, e1⟩ := o_ptr hy
        subst e1; subst e2
        refine ⟨by simp, by simp, _, _, fun w' _ => ?_, vrel_bool, hq⟩
        simp only [binOp, Sem.run_bind, run_eql (eqIn_ptr' hu _), Result.andThen_ok, Sem.run_pure]; rfl
      · exact hq.elim
    · exact hq.elim
  · exact hq.elim

end
end Go.Proofs.YtniaeiikdgbnfaaDoor.AW
namespace Go.Proofs.YtniaeiikdgbnfaaDoor.AW
open Go Go.RowKit
set_option linter.unusedSectionVars false
variable [Globs]

section
variable {P : Program} {C : Ctx} {s : AState} {β : Nat → Option Value} {S : Nat → Prop} {a : Act} {w : World}

theorem qUn_sound {op : UnOp} {x : AVal} {v : Value} {K : AVal → Prop} (hx : VRel w β S x v) (hq : qUn op x K) :
    ∃ z r, Runs0 P w (Op.unary op v) z ∧ VRel w β S r z ∧ K r := by
  unfold qUn at hq
  split at hq
  · have e := d_bool hx; subst e
    exact ⟨_, _, fun w' _ => by simp only [Op.unary, Sem.run_pure], vrel_bool, hq⟩
  · obtain ⟨rfl, hk⟩ := d_int hx
    exact ⟨_, _, fun w' _ => by simp only [Op.unary, Op.intArith, Sem.run_pure], vrel_int (wrap_wrap _ _), hq⟩
  · obtain ⟨rfl, hk⟩ := d_int hx
    exact ⟨_, _, fun w' _ => by simp only [Op.unary, Op.intBits, Sem.run_pure]; rfl, vrel_int (by simp [bitsK, wrap_wrap]), hq⟩
  · exact hq.elim

theorem loadCells_list {w : World} {b o : Nat} {cs : List Value} (h : Cells w b o cs) {n : Nat} (hn : cs.length = n) : (loadCells ⟨b, o, none⟩ n).run P w = .ok cs.toArray w := by
  subst hn; exact loadCells_run h

theorem bytes_fold {w : World} (f : Value → ByteArray → Sem (ForInStep ByteArray)) (hf : ∀ n r, f (.int .u8 n) r = pure (ForInStep.yield (r.push (UInt8.ofNat n.toNat)))) :
    ∀ (xs : List Int) (s : ByteArray), (∀ x ∈ xs, IntKind.u8.wrap x = x) → ∃ r : ByteArray, (forIn (xs.map (Value.int .u8)) s f : Sem ByteArray).run P w = .ok r w ∧ bytesOf r = bytesOf s ++ xs
  | [], s, _ => ⟨s, by simp, by simp⟩
  | x :: xs, s, h => by
    obtain ⟨r, h1, h2⟩ := bytes_fold f hf xs (s.push (UInt8.ofNat x.toNat)) (fun y hy => h y (List.mem_cons_of_mem _ hy))
    refine ⟨r, ?_, ?_⟩
    · simp only [List.map_cons, List.forIn_cons, hf, Sem.run_bind, Sem.run_pure, Result.andThen_ok]
      exact h1
    · rw [h2]
      have := (wrap_in.1 (h x (by simp)))
      simp [loK, hiK] at this
      simp [bytesOf, ByteArray.push]
      omega

theorem bytesToString_run {w : World} {b o n c : Nat} {xs : List Int} (hl : xs.length = n) (hwf : ∀ x ∈ xs, IntKind.u8.wrap x = x) (hc : Cells w b o (xs.map (Value.int .u8))) :
    ∃ r : ByteArray, (Conv.bytesToString (.slice (some ⟨b, o, none⟩) n c)).run P w = .ok (.string r) w ∧ bytesOf r = xs := by
  unfold Conv.bytesToString
  simp only [Sem.run_bind, loadCells_list hc (by simpa using hl), Result.andThen_ok]
  simp only [← Array.forIn_toList]
  generalize hf : (fun (c : Value) (r : ByteArray) => (_ : Sem (ForInStep ByteArray))) = f
  obtain ⟨r, h1, h2⟩ := bytes_fold (P := P) (w := w) f (fun n r => by rw [← hf]) xs .empty hwf
  refine ⟨r, ?_, by rw [h2]; simp [bytesOf]⟩
  rw [h1]
  simp

theorem qConv_sound (h : ARelB C s β S a w) {src dst : TypeId} {x : AVal} {v : Value} {K : AVal → Prop} (hx : VRel w β S x v) (hq : qConv P src dst x K) :
    ∃ z r, Runs P w (convert src dst v) z ∧ VRel w β S r z ∧ K r := by
  unfold qConv at hq
  split at hq
  · rename_i k' k k'' n h1 h2
    obtain ⟨rfl, hk⟩ := d_int hx
    exact ⟨_, _, fun w' _ => by simp only [convert, Sem.run_bind, run_underlying h1, run_underlying h2, Result.andThen_ok, Conv.intToInt, Sem.run_pure], vrel_int (wrap_wrap _ _), hq⟩
  · rename_i xs h1 h2
    obtain ⟨s', rfl, hs⟩ := d_str hx
    refine ⟨.string s', _, fun w' _ => by simp only [convert, Sem.run_bind, run_underlying h1, run_underlying h2, Result.andThen_ok, Sem.run_pure], ?_, hq⟩
    simp only [VRel, Rep]; exact ⟨_, ⟨s', rfl, hs⟩, rfl⟩
  · rename_i e xs h1 h2
    obtain ⟨hu, hK⟩ := hq
    obtain ⟨A, c, rfl, hle, hl, hwf, hne⟩ := d_ints hx
    by_cases hxs : xs = []
    · subst hxs
      cases A with
      | none =>
        refine ⟨.string .empty, _, fun w' _ => ?_, ?_, hK⟩
        · simp only [convert, Sem.run_bind, run_underlying h1, run_underlying h2, run_underlying hu, Result.andThen_ok, Conv.bytesToString, Sem.run_pure]
        · simp only [VRel, Rep]; exact ⟨_, ⟨_, rfl, rfl, by simp⟩, rfl⟩
      | some A =>
        refine ⟨.string .empty, _, fun w' _ => ?_, ?_, hK⟩
        · simp [convert, run_underlying h1, run_underlying h2, run_underlying hu, Conv.bytesToString, loadCells, loadCellsFrom]
        · simp only [VRel, Rep]; exact ⟨_, ⟨_, rfl, rfl, by simp⟩, rfl⟩
    · obtain ⟨b, o, rfl, hb, hc⟩ := hne hxs
      have hrun : ∀ w', Ext w w' → ∃ r : ByteArray, (Conv.bytesToString (.slice (some ⟨b, o, none⟩) xs.length c)).run P w' = .ok (.string r) w' ∧ bytesOf r = xs := fun w' hw =>
        bytesToString_run rfl hwf (hc.keep (hw b (h.st.inS b hb)))
      obtain ⟨r, h3, h4⟩ := hrun w (Ext.refl w)
      refine ⟨.string r, _, fun w' hw => ?_, ?_, hK⟩
      · obtain ⟨r', h5, h6⟩ := hrun w' hw
        have hr : r' = r := by
          have := bytes_inj (h6.trans h4.symm)
          rw [toList_data, toList_data] at this
          cases r; cases r'; simp_all [Array.toList_inj]
        subst hr
        simp only [convert, Sem.run_bind, run_underlying h1, run_underlying h2, run_underlying hu, Result.andThen_ok, h5]
      · simp only [VRel, Rep]
        exact ⟨_, ⟨r, rfl, h4, by rw [← bytesOf_length, h4]; exact hl⟩, rfl⟩
  · rename_i e y h1 h2
    obtain ⟨hu, hK⟩ := hq
    simp only [VRel] at hx
    obtain ⟨⟨A, rfl⟩, _⟩ := hx
    cases A with
    | none =>
      refine ⟨.string .empty, _, fun w' _ => ?_, ?_, hK⟩
      · simp only [convert, Sem.run_bind, run_underlying h1, run_underlying h2, run_underlying hu, Result.andThen_ok, Conv.bytesToString, Sem.run_pure]
      · simp only [VRel, Rep]; exact ⟨_, ⟨_, rfl, rfl, by simp⟩, rfl⟩
    | some A =>
      refine ⟨.string .empty, _, fun w' _ => ?_, ?_, hK⟩
      · simp [convert, run_underlying h1, run_underlying h2, run_underlying hu, Conv.bytesToString, loadCells, loadCellsFrom]
      · simp only [VRel, Rep]; exact ⟨_, ⟨_, rfl, rfl, by simp⟩, rfl⟩
  · rename_i e y h1 h2
    obtain ⟨hu, hK⟩ := hq
    simp only [VRel] at hx
    obtain ⟨rfl, _⟩ := hx
    refine ⟨.string .empty, _, fun w' _ => ?_, ?_, hK⟩
    · simp only [convert, Sem.run_bind, run_underlying h1, run_underlying h2, run_underlying hu, Result.andThen_ok, Conv.bytesToString, Sem.run_pure]
    · simp only [VRel, Rep]; exact ⟨_, ⟨_, rfl, rfl, by simp⟩, rfl⟩
  · exact hq.elim

/-- A bound's value. -/
def ORelV (w : World) (β : Nat → Option Value) (S : Nat → Prop) : Option AVal → Option Value → Prop
  | none, none => True
  | some x, some v => VRel w β S x v
  | _, _ => False

theorem qBound_sound {x : Option AVal} {v : Option Value} {d : Int} {K : Int → Prop} (hx : ORelV w β S x v) (hq : qBound x d K) :
    ∃ n, K n ∧ ((v = none ∧ n = d) ∨ ∃ k, v = some (.int k n)) := by
  unfold qBound at hq
  split at hq
  · cases v <;> simp [ORelV] at hx
    exact ⟨d, hq, .inl ⟨rfl, rfl⟩⟩
  · rename_i k n
    cases v <;> simp only [ORelV] at hx
    obtain ⟨rfl, _⟩ := d_int hx
    exact ⟨n, hq, .inr ⟨k, rfl⟩⟩
  · exact hq.elim

theorem sliceBound_run {w : World} {k : IntKind} {n : Int} {y : Nat} {c : BoundsCode} (h : 0 ≤ n ∧ n ≤ y) : (Instr.sliceBound (.int k n) y c).run P w = .ok n.toNat w := by
  simp [Instr.sliceBound, asIntOf, h]

theorem sliceBounds_run {w : World} {b : Bool} {len cap : Nat} {lo hi : Option Value} {l h : Int} (hcap : h ≤ cap) (hl : (lo = none ∧ l = 0) ∨ ∃ k, lo = some (.int k l)) (hh : (hi = none ∧ h = len) ∨ ∃ k, hi = some (.int k h))
    (h0 : 0 ≤ l) (h1 : l ≤ h) : (Instr.sliceBounds b len cap lo hi none).run P w = .ok (l.toNat, h.toNat, cap) w := by
  have e1 : (0 ≤ h ∧ h ≤ (cap : Int)) := ⟨by omega, hcap⟩
  have e2 : (0 ≤ l ∧ l ≤ (h.toNat : Int)) := ⟨h0, by omega⟩
  unfold Instr.sliceBounds
  rcases hl with ⟨rfl, rfl⟩ | ⟨k, rfl⟩ <;> rcases hh with ⟨rfl, rfl⟩ | ⟨k', rfl⟩
  · simp
  · simp only [Sem.run_bind, Sem.run_pure, Result.andThen_ok, sliceBound_run e1]; rfl
  · simp only [Int.toNat_natCast] at e2
    simp only [Sem.run_bind, Sem.run_pure, Result.andThen_ok, Int.toNat_natCast]
    simp [sliceBound_run e2]
  · simp only [Sem.run_bind, Sem.run_pure, Result.andThen_ok, sliceBound_run e1]
    simp [sliceBound_run e2]

theorem sliceBounds3_run {w : World} {b : Bool} {len cap : Nat} {lo hi : Option Value} {k : IntKind} (hl : lo = none ∨ ∃ k, lo = some (.int k 0)) (hh : ∃ k, hi = some (.int k 0)) :
    (Instr.sliceBounds b len cap lo hi (some (.int k 0))).run P w = .ok (0, 0, 0) w := by
  obtain ⟨k', rfl⟩ := hh
  unfold Instr.sliceBounds
  rcases hl with rfl | ⟨k'', rfl⟩ <;> simp [Instr.sliceBound, asIntOf]

theorem RepRow.take {sz : Nat} : ∀ (ds : List D) (b o n : Nat), RepRow w S sz ds b o → RepRow w S sz (ds.take n) b o
  | [], b, o, n, h => by simp [RepRow]
  | d :: ds, b, o, 0, h => by simp [RepRow]
  | d :: ds, b, o, n + 1, h => by
    simp only [RepRow, List.take_succ_cons] at h ⊢
    exact ⟨h.1, RepRow.take ds b _ n h.2⟩
theorem RepRow.drop {sz : Nat} : ∀ (ds : List D) (b o n : Nat), RepRow w S sz ds b o → RepRow w S sz (ds.drop n) b (o + n * sz)
  | [], b, o, n, h => by simp [RepRow]
  | d :: ds, b, o, 0, h => by simpa using h
  | d :: ds, b, o, n + 1, h => by
    simp only [RepRow, List.drop_succ_cons] at h ⊢
    have := RepRow.drop ds b _ n h.2
    rwa [show o + sz + n * sz = o + (n + 1) * sz by rw [Nat.add_mul]; omega] at this

theorem slice_run {w : World} {t e : TypeId} {sz : Nat} (hu : P.underlying t = some (.slice e)) (hsz : szT P e = some sz) {A : Option Addr} {len cap : Nat} {lo hi : Option Value} {l h : Int} (hcap : h ≤ cap)
    (hl : (lo = none ∧ l = 0) ∨ ∃ k, lo = some (.int k l)) (hh : (hi = none ∧ h = len) ∨ ∃ k, hi = some (.int k h)) (h0 : 0 ≤ l) (h1 : l ≤ h) :
    (Instr.sliceAt t (.slice A len cap) lo hi none).run P w = .ok (.slice (if cap = l.toNat then A else A.map (·.add (l.toNat * sz))) (h.toNat - l.toNat) (cap - l.toNat)) w := by
  simp only [Instr.sliceAt, Sem.run_bind, run_underlying hu, Result.andThen_ok, Instr.slice, sliceBounds_run hcap hl hh h0 h1, run_sizeT hsz, Sem.run_pure]

theorem slice3_run {w : World} {t e : TypeId} (hu : P.underlying t = some (.slice e)) (hsz : (szT P e).isSome = true) {A : Option Addr} {len cap : Nat} {lo hi : Option Value} {k : IntKind}
    (hl : lo = none ∨ ∃ k, lo = some (.int k 0)) (hh : ∃ k, hi = some (.int k 0)) :
    (Instr.sliceAt t (.slice A len cap) lo hi (some (.int k 0))).run P w = .ok (.slice A 0 0) w := by
  obtain ⟨sz, hsz⟩ := Option.isSome_iff_exists.1 hsz
  simp only [Instr.sliceAt, Sem.run_bind, run_underlying hu, Result.andThen_ok, Instr.slice, sliceBounds3_run hl hh, run_sizeT hsz, Sem.run_pure, if_true, Nat.sub_self]

theorem dropTake {α : Type} (xs : List α) (l h : Nat) : (xs.take h).drop l = (xs.drop l).take (h - l) := by
  rw [List.drop_take]

theorem ints_cut {k : IntKind} {xs : List Int} {A : Option Addr} {c : Nat} {l h : Int} (hle : xs.length ≤ c) (hl : xs.length ≤ LIM) (hwf : ∀ x ∈ xs, k.wrap x = x)
    (hne : xs ≠ [] → ∃ b o, A = some ⟨b, o, none⟩ ∧ S b ∧ Cells w b o (xs.map (Value.int k))) (h0 : 0 ≤ l) (h1 : l ≤ h) (h2 : h ≤ xs.length) :
    VRel w β S (.d (.ints k ((xs.take h.toNat).drop l.toNat))) (.slice (if c = l.toNat then A else A.map (·.add (l.toNat * 1))) (h.toNat - l.toNat) (c - l.toNat)) := by
  have hlen : ((xs.take h.toNat).drop l.toNat).length = h.toNat - l.toNat := by simp; omega
  simp only [VRel, Rep]
  refine ⟨_, ⟨_, _, rfl, ?_, ?_, ?_, ?_⟩, by rw [hlen]; rfl⟩
  · rw [hlen]; omega
  · rw [hlen]; omega
  · exact fun x hx => hwf x (List.mem_of_mem_take (List.mem_of_mem_drop hx))
  · intro hx
    have hpos : 0 < ((xs.take h.toNat).drop l.toNat).length := List.length_pos_iff.2 hx
    obtain ⟨b, o, rfl, hb, hc⟩ := hne (by intro e; subst e; simp at hpos)
    refine ⟨b, o + l.toNat, ?_, hb, ?_⟩
    · rw [if_neg (by omega)]; simp [addr_add]
    · have := hc.sub l.toNat (h.toNat - l.toNat)
      rw [dropTake]
      simpa [List.map_take, List.map_drop] using this

theorem sl_cut {sz : Nat} {es : List D} {A : Option Addr} {c : Nat} {l h : Int} (hle : es.length ≤ c) (hl : es.length ≤ LIM)
    (hne : es ≠ [] → ∃ b o, A = some ⟨b, o, none⟩ ∧ S b ∧ RepRow w S sz es b o) (h0 : 0 ≤ l) (h1 : l ≤ h) (h2 : h ≤ es.length) :
    VRel w β S (.d (.sl sz ((es.take h.toNat).drop l.toNat))) (.slice (if c = l.toNat then A else A.map (·.add (l.toNat * sz))) (h.toNat - l.toNat) (c - l.toNat)) := by
  have hlen : ((es.take h.toNat).drop l.toNat).length = h.toNat - l.toNat := by simp; omega
  simp only [VRel, Rep]
  refine ⟨_, ⟨_, _, rfl, ?_, ?_, ?_⟩, by rw [hlen]; rfl⟩
  · rw [hlen]; omega
  · rw [hlen]; omega
  · intro hx
    have hpos : 0 < ((es.take h.toNat).drop l.toNat).length := List.length_pos_iff.2 hx
    obtain ⟨b, o, rfl, hb, hc⟩ := hne (by intro e; subst e; simp at hpos)
    refine ⟨b, o + l.toNat * sz, ?_, hb, ?_⟩
    · rw [if_neg (by omega)]; simp [addr_add]
    · rw [dropTake]
      exact (hc.drop _ _ _ l.toNat).take _ _ _ _

theorem em_cut {x : D} {A : Option Addr} (he : emptyD x = true) : VRel w β S (.em x) (.slice A 0 0) := by
  simp only [VRel]; exact ⟨⟨A, rfl⟩, he⟩

theorem qSlice_sound (h : ARelB C s β S a w) {t : TypeId} {x : AVal} {v : Value} {lo hi mx : Option AVal} {lv hv mv : Option Value} {K : AVal → Prop} (hx : VRel w β S x v)
    (hlo : ORelV w β S lo lv) (hhi : ORelV w β S hi hv) (hmx : ORelV w β S mx mv) (hq : qSlice P s t x lo hi mx K) :
    ∃ z r, Runs0 P w (Instr.sliceAt t v lv hv mv) z ∧ VRel w β S r z ∧ K r := by
  unfold qSlice at hq
  split at hq
  · rename_i e hu
    split at hq
    · cases mv <;> simp only [ORelV] at hmx
      split at hq
      · rename_i k xs
        obtain ⟨hh, hq, hhv⟩ := qBound_sound hhi hq
        obtain ⟨l, ⟨h0, h1, h2, hsz, hK⟩, hlv⟩ := qBound_sound hlo hq
        obtain ⟨A, c, rfl, hle, hl, hwf, hne⟩ := d_ints hx
        exact ⟨_, _, fun w' _ => slice_run hu hsz (by omega) hlv hhv h0 h1, ints_cut hle hl hwf hne h0 h1 h2, hK⟩
      · rename_i sz es
        obtain ⟨hh, hq, hhv⟩ := qBound_sound hhi hq
        obtain ⟨l, ⟨h0, h1, h2, hsz, hK⟩, hlv⟩ := qBound_sound hlo hq
        obtain ⟨A, c, rfl, hle, hl, hne⟩ := d_sl hx
        exact ⟨_, _, fun w' _ => slice_run hu hsz (by omega) hlv hhv h0 h1, sl_cut hle hl hne h0 h1 h2, hK⟩
      · rename_i j
        split at hq
        · rename_i k t' xs ho
          obtain ⟨hh, hq, hhv⟩ := qBound_sound hhi hq
          obtain ⟨l, ⟨h0, h1, h2, hsz, hK⟩, hlv⟩ := qBound_sound hlo hq
          obtain ⟨bv, hβ0, hob⟩ := h.st.obj j _ (getO_mem ho)
          simp only [ORel] at hob
          simp only [VRel] at hx
          rw [hβ0] at hx; injection hx with hx; subst hx
          rcases hob.1 with ⟨A, e1, e2, _⟩ | ⟨g, cap, cur, e1, hcp, _, hle, _⟩
          · rw [e1]
            refine ⟨_, _, fun w' _ => slice_run (len := 0) (cap := 0) hu hsz (by omega) hlv (by rw [e2] at hhv; exact hhv) h0 h1, ?_, hK⟩
            simp only [VRel]
            exact ⟨_, _, rfl, by omega, fun h => by omega⟩
          · rw [e1]
            refine ⟨_, _, fun w' _ => slice_run hu hsz (by omega) hlv hhv h0 h1, ?_, hK⟩
            simp only [VRel]
            refine ⟨_, _, rfl, by omega, fun h => ⟨g, by rw [hβ0, e1]; simp [blk]; omega, ?_⟩⟩
            rw [if_neg (by omega)]; simp [addr_add]
        · exact hq.elim
      · rename_i j off len
        obtain ⟨hh, hq, hhv⟩ := qBound_sound hhi hq
        obtain ⟨l, ⟨h0, h1, h2, hsz, hK⟩, hlv⟩ := qBound_sound hlo hq
        simp only [VRel] at hx
        obtain ⟨A, c, rfl, hle, hA⟩ := hx
        refine ⟨_, _, fun w' _ => slice_run hu hsz (by omega) hlv hhv h0 h1, ?_, hK⟩
        simp only [VRel]
        refine ⟨_, _, rfl, by omega, fun h => ?_⟩
        obtain ⟨b, hb, rfl⟩ := hA (by omega)
        refine ⟨b, hb, ?_⟩
        rw [if_neg (by omega)]; simp [addr_add]
      · rename_i y
        obtain ⟨hh, hq, hhv⟩ := qBound_sound hhi hq
        obtain ⟨l, ⟨rfl, rfl, hsz, hK⟩, hlv⟩ := qBound_sound hlo hq
        simp only [VRel] at hx
        obtain ⟨⟨A, rfl⟩, he⟩ := hx
        obtain ⟨sz, hsz⟩ := Option.isSome_iff_exists.1 hsz
        exact ⟨_, _, fun w' _ => slice_run hu hsz (by omega) hlv hhv (by omega) (by omega), em_cut he, hK⟩
      · rename_i y
        obtain ⟨hh, hq, hhv⟩ := qBound_sound hhi hq
        obtain ⟨l, ⟨rfl, rfl, hsz, hK⟩, hlv⟩ := qBound_sound hlo hq
        simp only [VRel] at hx
        obtain ⟨rfl, he⟩ := hx
        obtain ⟨sz, hsz⟩ := Option.isSome_iff_exists.1 hsz
        exact ⟨_, _, fun w' _ => slice_run hu hsz (by omega) hlv hhv (by omega) (by omega), by simp only [VRel]; exact ⟨rfl, he⟩, hK⟩
      · exact hq.elim
    · rename_i k
      cases mv <;> simp only [ORelV] at hmx
      obtain ⟨rfl, _⟩ := d_int hmx
      have hh0 : ∀ {hh : Int}, hh = 0 → ((hv = none ∧ hh = 1) ∨ ∃ k, hv = some (.int k hh)) → ∃ k, hv = some (.int k 0) := fun e h => by
        subst e
        rcases h with ⟨_, h⟩ | h
        · omega
        · exact h
      have hl0 : ∀ {l : Int}, l = 0 → ((lv = none ∧ l = 0) ∨ ∃ k, lv = some (.int k l)) → lv = none ∨ ∃ k, lv = some (.int k 0) := fun e h => by
        subst e
        exact h.imp (·.1) id
      split at hq
      · rename_i k' xs
        obtain ⟨hh, hq, hhv⟩ := qBound_sound hhi hq
        obtain ⟨l, ⟨e1, e2, hsz, hK⟩, hlv⟩ := qBound_sound hlo hq
        obtain ⟨A, c, rfl, _⟩ := d_ints hx
        exact ⟨_, _, fun w' _ => slice3_run hu hsz (hl0 e1 hlv) (hh0 e2 hhv), em_cut rfl, hK⟩
      · rename_i k' xs
        obtain ⟨hh, hq, hhv⟩ := qBound_sound hhi hq
        obtain ⟨l, ⟨e1, e2, hsz, hK⟩, hlv⟩ := qBound_sound hlo hq
        obtain ⟨A, c, rfl, _⟩ := d_sl hx
        exact ⟨_, _, fun w' _ => slice3_run hu hsz (hl0 e1 hlv) (hh0 e2 hhv), em_cut rfl, hK⟩
      · obtain ⟨hh, hq, hhv⟩ := qBound_sound hhi hq
        obtain ⟨l, ⟨e1, e2, hsz, hK⟩, hlv⟩ := qBound_sound hlo hq
        simp only [VRel] at hx
        obtain ⟨⟨A, rfl⟩, he⟩ := hx
        exact ⟨_, _, fun w' _ => slice3_run hu hsz (hl0 e1 hlv) (hh0 e2 hhv), em_cut he, hK⟩
      · obtain ⟨hh, hq, hhv⟩ := qBound_sound hhi hq
        obtain ⟨l, ⟨e1, e2, hsz, hK⟩, hlv⟩ := qBound_sound hlo hq
        simp only [VRel] at hx
        obtain ⟨rfl, he⟩ := hx
        exact ⟨_, _, fun w' _ => slice3_run hu hsz (hl0 e1 hlv) (hh0 e2 hhv), by simp [VRel, he], hK⟩
      · exact hq.elim
    · exact hq.elim
  · rename_i n e hu
    split at hq
    · rename_i ds
      cases mv <;> simp only [ORelV] at hmx
      split at hq
      · rename_i k xs hds
        obtain ⟨hn, hlim, hq⟩ := hq
        obtain ⟨hh, hq, hhv⟩ := qBound_sound hhi hq
        obtain ⟨l, ⟨h0, h1, h2, hsz, hK⟩, hlv⟩ := qBound_sound hlo hq
        simp only [VRel, Rep] at hx
        obtain ⟨cs, ⟨b, o, rfl, hb, vs, hc, hr⟩, rfl⟩ := hx
        obtain ⟨rfl, hwf, hne⟩ := agInts_rep ds vs hds hr
        refine ⟨_, _, fun w' _ => ?_, ints_cut (A := some ⟨b, o, none⟩) (c := n) (l := l) (h := hh) (by omega) (by omega) hwf (fun _ => ⟨b, o, rfl, hb, hc⟩) h0 h1 (by omega), hK⟩
        simp only [Instr.sliceAt, Sem.run_bind, run_underlying hu, Result.andThen_ok, packD, List.headD, Instr.sureAddr, Sem.run_pure, sliceBounds_run (len := n) (cap := n) (by omega) hlv hhv h0 h1, run_sizeT hsz]
        by_cases e : n = l.toNat <;> simp [e]
      · exact hq.elim
    · exact hq.elim
  · rename_i hu
    split at hq
    · rename_i xs
      cases mv <;> simp only [ORelV] at hmx
      obtain ⟨hh, hq, hhv⟩ := qBound_sound hhi hq
      obtain ⟨l, ⟨h0, h1, h2, hK⟩, hlv⟩ := qBound_sound hlo hq
      obtain ⟨st, rfl, rfl, hl⟩ := d_str hx
      rw [bytesOf_length] at h2 hhv
      refine ⟨.string (st.extract l.toNat hh.toNat), _, fun w' _ => ?_, ?_, hK⟩
      · simp only [Instr.sliceAt, Sem.run_bind, run_underlying hu, Result.andThen_ok, Instr.slice, Option.isSome_none, Bool.false_eq_true, if_false, sliceBounds_run h2 hlv hhv h0 h1, Sem.run_pure]
      · simp only [VRel, Rep]
        refine ⟨_, ⟨_, rfl, ?_, ?_⟩, rfl⟩
        · simp [bytesOf, ByteArray.data_extract, List.map_take, List.map_drop, dropTake]
        · simp; omega
    · exact hq.elim
  · exact hq.elim

theorem vall_rep : ∀ {ds : List D} {vs : List Value}, (∀ d ∈ ds, d.isAgg = false) → VAll w β S (ds.map AVal.d) vs → RepAll w S ds vs
  | [], vs, _, h => by simp only [List.map_nil, VAll] at h; simp only [RepAll]; exact h
  | d :: ds, vs, h1, h => by
    simp only [List.map_cons, VAll, VRel] at h
    obtain ⟨v, r, rfl, ⟨cs, hr, rfl⟩, h2⟩ := h
    simp only [RepAll]
    have hd := h1 d (by simp)
    have hsz := Rep.size _ _ hr
    have : d.size = 1 := by cases d <;> simp_all [D.isAgg, D.size]
    rw [this] at hsz
    match cs, hsz with
    | [u], _ => exact ⟨[u], r, by simp [packD_one hd], hr, vall_rep (fun e he => h1 e (List.mem_cons_of_mem _ he)) h2⟩

theorem qFunc_sound {f : Fn} {first caps : List AVal} {fv cv : Array Value} {K : AVal → Prop} (hf : VAll w β S first fv.toList) (hc : VAll w β S caps cv.toList) (hq : qFunc f first caps K) :
    ∃ r, VRel w β S r (.func f fv cv) ∧ K r := by
  unfold qFunc at hq
  split at hq
  · simp only [VAll] at hf
    have : fv = #[] := by simpa using hf
    subst this
    split at hq
    · rename_i ds hd
      obtain ⟨h0, hK⟩ := hq
      have h1 := noAgg_spec h0
      refine ⟨_, ?_, hK⟩
      rw [allD_spec hd] at hc
      simp only [VRel, Rep]
      exact ⟨_, ⟨cv, rfl, vall_rep h1 hc⟩, rfl⟩
    · refine ⟨_, ?_, hq⟩
      simp only [VRel]
      exact ⟨cv, rfl, hc⟩
  · exact hq.elim

theorem max_k {k : IntKind} {x y : Int} (hx : k.wrap x = x) (hy : k.wrap y = y) : k.wrap (max x y) = max x y := by
  rcases Int.le_total x y with h | h
  · rw [Int.max_eq_right h]; exact hy
  · rw [Int.max_eq_left h]; exact hx
theorem min_k {k : IntKind} {x y : Int} (hx : k.wrap x = x) (hy : k.wrap y = y) : k.wrap (min x y) = min x y := by
  rcases Int.le_total x y with h | h
  · rw [Int.min_eq_left h]; exact hx
  · rw [Int.min_eq_right h]; exact hy

theorem max2_run {w : World} {k k' : IntKind} {x y : Int} : (Builtin.max2 (.int k x) (.int k' y)).run P w = .ok (.int k (max x y)) w := by
  simp only [Builtin.max2, Sem.run_pure]
  congr 2
  split <;> omega
theorem min2_run {w : World} {k k' : IntKind} {x y : Int} : (Builtin.min2 (.int k x) (.int k' y)).run P w = .ok (.int k (min x y)) w := by
  simp only [Builtin.min2, Sem.run_pure]
  congr 2
  split <;> omega

theorem qMinMax_sound {m : Bool} {xs : List AVal} {vs : List Value} {K : AVal → Prop} {ts : Array TypeId} {ty : TypeId} (hx : VAll w β S xs vs) (hq : qMinMax m xs K) :
    ∃ z r, Runs0 P w (if m = true then Builtin.max_ ts ty vs.toArray else Builtin.min_ ts ty vs.toArray) z ∧ VRel w β S r z ∧ K r := by
  unfold qMinMax at hq
  split at hq
  · simp only [VAll] at hx
    obtain ⟨v1, _, rfl, h1, v2, _, rfl, h2, rfl⟩ := hx
    obtain ⟨rfl, e1⟩ := d_int h1
    obtain ⟨rfl, e2⟩ := d_int h2
    obtain ⟨rfl, hK⟩ := hq
    exact ⟨_, _, fun w' _ => by simp [Builtin.max_, max2_run], vrel_int (by simpa using max_k e1 e2), hK⟩
  · simp only [VAll] at hx
    obtain ⟨v1, _, rfl, h1, v2, _, rfl, h2, v3, _, rfl, h3, rfl⟩ := hx
    obtain ⟨rfl, e1⟩ := d_int h1
    obtain ⟨rfl, e2⟩ := d_int h2
    obtain ⟨rfl, e3⟩ := d_int h3
    obtain ⟨rfl, rfl, hK⟩ := hq
    exact ⟨_, _, fun w' _ => by simp [Builtin.max_, max2_run], vrel_int (by simpa using max_k (max_k e1 e2) e3), hK⟩
  · simp only [VAll] at hx
    obtain ⟨v1, _, rfl, h1, v2, _, rfl, h2, v3, _, rfl, h3, v4, _, rfl, h4, rfl⟩ := hx
    obtain ⟨rfl, e1⟩ := d_int h1
    obtain ⟨rfl, e2⟩ := d_int h2
    obtain ⟨rfl, e3⟩ := d_int h3
    obtain ⟨rfl, e4⟩ := d_int h4
    obtain ⟨rfl, rfl, rfl, hK⟩ := hq
    exact ⟨_, _, fun w' _ => by simp [Builtin.max_, max2_run], vrel_int (by simpa using max_k (max_k (max_k e1 e2) e3) e4), hK⟩
  · simp only [VAll] at hx
    obtain ⟨v1, _, rfl, h1, v2, _, rfl, h2, rfl⟩ := hx
    obtain ⟨rfl, e1⟩ := d_int h1
    obtain ⟨rfl, e2⟩ := d_int h2
    obtain ⟨rfl, hK⟩ := hq
    exact ⟨_, _, fun w' _ => by simp [Builtin.min_, min2_run], vrel_int (by simpa using min_k e1 e2), hK⟩
  · simp only [VAll] at hx
    obtain ⟨v1, _, rfl, h1, v2, _, rfl, h2, v3, _, rfl, h3, rfl⟩ := hx
    obtain ⟨rfl, e1⟩ := d_int h1
    obtain ⟨rfl, e2⟩ := d_int h2
    obtain ⟨rfl, e3⟩ := d_int h3
    obtain ⟨rfl, rfl, hK⟩ := hq
    exact ⟨_, _, fun w' _ => by simp [Builtin.min_, min2_run], vrel_int (by simpa using min_k (min_k e1 e2) e3), hK⟩
  · simp only [VAll] at hx
    obtain ⟨v1, _, rfl, h1, v2, _, rfl, h2, v3, _, rfl, h3, v4, _, rfl, h4, rfl⟩ := hx
    obtain ⟨rfl, e1⟩ := d_int h1
    obtain ⟨rfl, e2⟩ := d_int h2
    obtain ⟨rfl, e3⟩ := d_int h3
    obtain ⟨rfl, e4⟩ := d_int h4
    obtain ⟨rfl, rfl, rfl, hK⟩ := hq
    exact ⟨_, _, fun w' _ => by simp [Builtin.min_, min2_run], vrel_int (by simpa using min_k (min_k (min_k e1 e2) e3) e4), hK⟩
  · exact hq.elim

/-! ### All of them: which operations these are, and what each asks -/
def quietOp : Op → Bool
  | .move _ | .assign _ | .pick .. | .load .. | .nilCheck _ | .binOp .. | .unOp .. | .convert .. | .makeFunc .. | .slice .. | .fieldAddr .. | .field .. | .indexAddr .. | .index .. | .extract .. => true
  | .call { callee := .builtin .len, .. } | .call { callee := .builtin .max, .. } | .call { callee := .builtin .min, .. } => true
  | _ => false

def aevO (P : Program) (s : AState) (ty : TypeId) (x : Option Operand) : Option AVal := x.map (aev P s ty)
def constBO (P : Program) (ty : TypeId) (x : Option Operand) : Bool := match x with | some x => constB P ty x | none => true
def constOkO (P : Program) (ty : TypeId) (x : Option Operand) : Prop := constBO P ty x = true

def constsB (P : Program) (ty : TypeId) : List Operand → Bool
  | [] => true
  | x :: r => constB P ty x && constsB P ty r
def constsOk (P : Program) (ty : TypeId) (xs : List Operand) : Prop := constsB P ty xs = true
theorem constsOk.all {P : Program} {ty : TypeId} : ∀ {xs : List Operand}, constsOk P ty xs → ∀ x ∈ xs, constOk P ty x
  | [], _, x, h => by simp at h
  | y :: r, hc, x, h => by
    simp only [constsOk, constsB, Bool.and_eq_true] at hc
    rcases List.mem_cons.1 h with rfl | h
    · exact hc.1
    · exact constsOk.all hc.2 x h

def qCall (P : Program) (s : AState) (ty : TypeId) (c : Call) (K : AVal → Prop) : Prop :=
  match c.callee with
  | .builtin b =>
    match b with
    | .len =>
      (match c.args.toList, c.argTypes.toList with
      | [x], [t] => constOk P t x ∧ qLen P s t (aev P s t x) K
      | _, _ => False)
    | .max => constsOk P ty c.args.toList ∧ qMinMax true (c.args.toList.map (aev P s ty)) K
    | .min => constsOk P ty c.args.toList ∧ qMinMax false (c.args.toList.map (aev P s ty)) K
    | _ => False
  | _ => False

/-- Which of them read the memory. -/
def readsO : Op → Bool
  | .load .. | .convert .. => true
  | _ => false

def aquiet (P : Program) (s : AState) (o : Oper) (K : AVal → Prop) : Prop :=
  match o.op with
  | .move x | .assign x => constOk P o.type x ∧ K (aev P s o.type x)
  | .pick c x y =>
    match aev P s o.type c with
    | .d (.bool b) => constOk P o.type c ∧ constOk P o.type x ∧ constOk P o.type y ∧ (b = true → K (aev P s o.type x)) ∧ (b = false → K (aev P s o.type y))
    | _ => False
  | .load t x => (constOk P 0 x) ∧ qLoad P s t (aev P s 0 x) K
  | .nilCheck x => (constOk P 0 x) ∧ qNil (aev P s 0 x) K
  | .binOp op t x y ty => (constOk P t x ∧ constOk P ty y) ∧ qBin P s op t (aev P s t x) (aev P s ty y) K
  | .unOp op t x => (constOk P t x) ∧ qUn op (aev P s t x) K
  | .convert src dst x => (constOk P src x) ∧ qConv P src dst (aev P s src x) K
  | .makeFunc f first caps => (constsOk P 0 first.toList ∧ constsOk P 0 caps.toList) ∧ qFunc f (first.toList.map (aev P s 0)) (caps.toList.map (aev P s 0)) K
  | .slice t x lo hi mx => (constOk P t x ∧ constOkO P 0 lo ∧ constOkO P 0 hi ∧ constOkO P 0 mx) ∧ qSlice P s t (aev P s t x) (aevO P s 0 lo) (aevO P s 0 hi) (aevO P s 0 mx) K
  | .fieldAddr t x f => (constOk P 0 x) ∧ qFieldAddr P t (aev P s 0 x) f K
  | .field t x f => (constOk P t x) ∧ qField P t (aev P s t x) f K
  | .indexAddr t x i => (constOk P t x ∧ constOk P 0 i) ∧ qIndexAddr P s t (aev P s t x) (aev P s 0 i) K
  | .index t x i => (constOk P t x ∧ constOk P 0 i) ∧ qIndex P t (aev P s t x) (aev P s 0 i) K
  | .extract x i => (constOk P 0 x) ∧ qExtract (aev P s 0 x) i K
  | .call c => qCall P s o.type c K
  | _ => False

theorem aevO_rel (h : ARelB C s β S a w) {ty : TypeId} {x : Option Operand} (hc : constOkO P ty x) : ORelV w β S (aevO P s ty x) (x.map a.eval) := by
  cases x with
  | none => simp [aevO, ORelV]
  | some x => simp only [aevO, Option.map_some, ORelV]; exact aev_rel h hc

theorem aevs_rel (h : ARelB C s β S a w) {ty : TypeId} : ∀ {xs : List Operand}, (∀ x ∈ xs, constOk P ty x) → VAll w β S (xs.map (aev P s ty)) (xs.map a.eval)
  | [], _ => by simp [VAll]
  | x :: xs, hc => by
    simp only [List.map_cons, VAll]
    exact ⟨_, _, rfl, aev_rel h (hc x (by simp)), aevs_rel h fun y hy => hc y (List.mem_cons_of_mem _ hy)⟩

theorem run_value {w : World} {m : Sem Value} {v : Value} (h : m.run P w = .ok v w) : (do pure (Next.value (← m)) : Sem Next).run P w = .ok (.value v) w := by
  simp only [Sem.run_bind, h, Result.andThen_ok, Sem.run_pure]

theorem aquiet_sound (h : ARelB C s β S a w) {o : Oper} {K : AVal → Prop} (hq : aquiet P s o K) :
    ∃ v r, (∀ w', (readsO o.op = true → Ext w w') → (execOp a.eval o).run P w' = .ok (.value v) w') ∧ VRel w β S r v ∧ K r := by
  obtain ⟨dst, op, type, pos, after, guard⟩ := o
  cases op <;> simp only [aquiet] at hq
  case move x => exact ⟨_, _, fun w' _ => rfl, aev_rel h hq.1, hq.2⟩
  case assign x => exact ⟨_, _, fun w' _ => rfl, aev_rel h hq.1, hq.2⟩
  case pick c x y =>
    split at hq
    · rename_i b hb
      obtain ⟨h1, h2, h3, hK⟩ := hq
      have hc := aev_rel h h1
      rw [hb] at hc
      have e := d_bool hc
      cases b
      · exact ⟨_, _, fun w' _ => by simp [execOp, e, asBool], aev_rel h h3, hK.2 rfl⟩
      · exact ⟨_, _, fun w' _ => by simp [execOp, e, asBool], aev_rel h h2, hK.1 rfl⟩
    · exact hq.elim
  case load t x =>
    obtain ⟨u, r, h1, h2, h3⟩ := qLoad_sound (P := P) h (aev_rel h hq.1) hq.2
    exact ⟨u, r, fun w' hw => run_value (h1 w' (hw rfl)), h2, h3⟩
  case nilCheck x =>
    obtain ⟨r, h1, h2, h3⟩ := qNil_sound (P := P) (o := ⟨dst, .nilCheck x, type, pos, after, guard⟩) (aev_rel h hq.1) hq.2 rfl rfl
    exact ⟨_, r, fun w' _ => h1 w', h2, h3⟩
  case binOp op t x y ty =>
    obtain ⟨u, r, h1, h2, h3⟩ := qBin_sound (P := P) h (aev_rel h hq.1.1) (aev_rel h hq.1.2) hq.2 x y
    exact ⟨u, r, fun w' hw => run_value (h1 w' trivial), h2, h3⟩
  case unOp op t x =>
    obtain ⟨u, r, h1, h2, h3⟩ := qUn_sound (P := P) (aev_rel h hq.1) hq.2
    exact ⟨u, r, fun w' hw => run_value (h1 w' trivial), h2, h3⟩
  case convert src dst x =>
    obtain ⟨u, r, h1, h2, h3⟩ := qConv_sound (P := P) h (aev_rel h hq.1) hq.2
    exact ⟨u, r, fun w' hw => run_value (h1 w' (hw rfl)), h2, h3⟩
  case makeFunc f first caps =>
    have e1 := aevs_rel h hq.1.1.all
    have e2 := aevs_rel h hq.1.2.all
    obtain ⟨r, h2, h3⟩ := qFunc_sound (fv := first.map a.eval) (cv := caps.map a.eval) (by simpa using e1) (by simpa using e2) hq.2
    exact ⟨_, r, fun w' _ => rfl, h2, h3⟩
  case slice t x lo hi mx =>
    obtain ⟨u, r, h1, h2, h3⟩ := qSlice_sound (P := P) h (aev_rel h hq.1.1) (aevO_rel h hq.1.2.1) (aevO_rel h hq.1.2.2.1) (aevO_rel h hq.1.2.2.2) hq.2
    exact ⟨u, r, fun w' hw => run_value (h1 w' trivial), h2, h3⟩
  case fieldAddr t x f =>
    obtain ⟨u, r, h1, h2, h3⟩ := qFieldAddr_sound (P := P) (aev_rel h hq.1) hq.2
    exact ⟨u, r, fun w' hw => run_value (h1 w' trivial), h2, h3⟩
  case field t x f =>
    obtain ⟨u, r, h1, h2, h3⟩ := qField_sound (P := P) (aev_rel h hq.1) hq.2
    exact ⟨u, r, fun w' hw => run_value (h1 w' trivial), h2, h3⟩
  case indexAddr t x i =>
    obtain ⟨u, r, h1, h2, h3⟩ := qIndexAddr_sound (P := P) h (aev_rel h hq.1.1) (aev_rel h hq.1.2) hq.2
    exact ⟨u, r, fun w' hw => run_value (h1 w' trivial), h2, h3⟩
  case index t x i =>
    obtain ⟨u, r, h1, h2, h3⟩ := qIndex_sound (P := P) (aev_rel h hq.1.1) (aev_rel h hq.1.2) hq.2
    exact ⟨u, r, fun w' hw => run_value (h1 w' trivial), h2, h3⟩
  case extract x i =>
    obtain ⟨u, r, h1, h2, h3⟩ := qExtract_sound (P := P) (aev_rel h hq.1) hq.2
    exact ⟨u, r, fun w' hw => run_value (h1 w' trivial), h2, h3⟩
  case call c =>
    obtain ⟨callee, args, ts⟩ := c
    unfold qCall at hq
    cases callee
    case value f => exact hq.elim
    case invoke r m => exact hq.elim
    rename_i b
    cases b
    all_goals (try (exact hq.elim))
    case len =>
      dsimp only at hq
      split at hq
      · rename_i x t e1 e2
        have e1 : args = #[x] := by apply Array.ext'; simpa using e1
        have e2 : ts = #[t] := by apply Array.ext'; simpa using e2
        subst e1; subst e2
        obtain ⟨u, r, h1, h2, h3⟩ := qLen_sound (P := P) (ty := type) h (aev_rel h hq.1) hq.2
        refine ⟨u, r, fun w' hw => ?_, h2, h3⟩
        have := run_value (h1 w' trivial)
        simpa [execOp, resolve, invoke, builtin] using this
      · exact hq.elim
    case max =>
      obtain ⟨u, r, h1, h2, h3⟩ := qMinMax_sound (P := P) (ts := ts) (ty := type) (aevs_rel h hq.1.all) hq.2
      refine ⟨u, r, fun w' hw => ?_, h2, h3⟩
      have := run_value (h1 w' trivial)
      rw [show (args.toList.map a.eval).toArray = args.map a.eval by apply Array.ext'; simp] at this
      simpa [execOp, resolve, invoke, builtin] using this
    case min =>
      obtain ⟨u, r, h1, h2, h3⟩ := qMinMax_sound (P := P) (ts := ts) (ty := type) (aevs_rel h hq.1.all) hq.2
      refine ⟨u, r, fun w' hw => ?_, h2, h3⟩
      have := run_value (h1 w' trivial)
      rw [show (args.toList.map a.eval).toArray = args.map a.eval by apply Array.ext'; simp] at this
      simpa [execOp, resolve, invoke, builtin] using this

end

mutual
/-- Does a value name object j? -/
def refs (j : Nat) : AVal → Bool
  | .own i => i == j
  | .view i _ _ => i == j
  | .optr i _ => i == j
  | .ag _ cs => refsL j cs
  | .tup cs => refsL j cs
  | .ofn _ cs => refsL j cs
  | _ => false
def refsL (j : Nat) : List AVal → Bool
  | [] => false
  | x :: xs => refs j x || refsL j xs
end

def dropV (j : Nat) (x : AVal) : AVal := if refs j x = true then .any else x
def dropOb (j : Nat) : Ob → Ob
  | .cell t cs => .cell t (cs.map (dropV j))
  | o => o

mutual
theorem VRel.keepR {w w' : World} {β β' : Nat → Option Value} {S S' : Nat → Prop} {j : Nat} (hS : ∀ b, S b → S' b ∧ w'.heap[b]? = w.heap[b]?) (hβ : ∀ i, i ≠ j → β' i = β i) :
    ∀ (x : AVal) (v : Value), refs j x = false → VRel w β S x v → VRel w' β' S' x v
  | .any, v, _, h => by simp only [VRel]
  | .un, v, _, h => by simpa only [VRel] using h
  | .d x, v, _, h => by
    simp only [VRel] at h ⊢
    obtain ⟨cs, h1, h2⟩ := h
    exact ⟨cs, h1.keep hS, h2⟩
  | .em x, v, _, h => by simpa only [VRel] using h
  | .nls x, v, _, h => by simpa only [VRel] using h
  | .own i, v, hr, h => by simp only [VRel] at h ⊢; rw [hβ i (by simpa [refs] using hr)]; exact h
  | .view i off len, v, hr, h => by simp only [VRel] at h ⊢; rw [hβ i (by simpa [refs] using hr)]; exact h
  | .optr i off, v, hr, h => by simp only [VRel] at h ⊢; rw [hβ i (by simpa [refs] using hr)]; exact h
  | .ag _ cs, v, hr, h => by
    simp only [VRel] at h ⊢
    obtain ⟨vs, h1, h2⟩ := h
    exact ⟨vs, h1, VAll.keepR hS hβ cs _ (by simpa [refs] using hr) h2⟩
  | .tup cs, v, hr, h => by
    simp only [VRel] at h ⊢
    obtain ⟨vs, h1, h2⟩ := h
    exact ⟨vs, h1, VAll.keepR hS hβ cs _ (by simpa [refs] using hr) h2⟩
  | .ofn f cs, v, hr, h => by
    simp only [VRel] at h ⊢
    obtain ⟨vs, h1, h2⟩ := h
    exact ⟨vs, h1, VAll.keepR hS hβ cs _ (by simpa [refs] using hr) h2⟩
theorem VAll.keepR {w w' : World} {β β' : Nat → Option Value} {S S' : Nat → Prop} {j : Nat} (hS : ∀ b, S b → S' b ∧ w'.heap[b]? = w.heap[b]?) (hβ : ∀ i, i ≠ j → β' i = β i) :
    ∀ (xs : List AVal) (vs : List Value), refsL j xs = false → VAll w β S xs vs → VAll w' β' S' xs vs
  | [], vs, _, h => by simpa only [VAll] using h
  | x :: xs, vs, hr, h => by
    simp only [refsL, Bool.or_eq_false_iff] at hr
    simp only [VAll] at h ⊢
    obtain ⟨v, r, e, h1, h2⟩ := h
    exact ⟨v, r, e, VRel.keepR hS hβ x v hr.1 h1, VAll.keepR hS hβ xs r hr.2 h2⟩
end

theorem VRel.drop {w w' : World} {β β' : Nat → Option Value} {S S' : Nat → Prop} {j : Nat} (hS : ∀ b, S b → S' b ∧ w'.heap[b]? = w.heap[b]?) (hβ : ∀ i, i ≠ j → β' i = β i)
    {x : AVal} {v : Value} (h : VRel w β S x v) : VRel w' β' S' (dropV j x) v := by
  unfold dropV
  split
  · simp only [VRel]
  · rename_i hr; exact VRel.keepR hS hβ x v (by simpa using hr) h

theorem VAll.drop {w w' : World} {β β' : Nat → Option Value} {S S' : Nat → Prop} {j : Nat} (hS : ∀ b, S b → S' b ∧ w'.heap[b]? = w.heap[b]?) (hβ : ∀ i, i ≠ j → β' i = β i) :
    ∀ (xs : List AVal) (vs : List Value), VAll w β S xs vs → VAll w' β' S' (xs.map (dropV j)) vs
  | [], vs, h => by simpa only [List.map_nil, VAll] using h
  | x :: xs, vs, h => by
    simp only [List.map_cons, VAll] at h ⊢
    obtain ⟨v, r, e, h1, h2⟩ := h
    exact ⟨v, r, e, VRel.drop hS hβ h1, VAll.drop hS hβ xs r h2⟩

theorem ORel.drop {w w' : World} {β β' : Nat → Option Value} {S S' : Nat → Prop} {j : Nat} (hS : ∀ b, S b → S' b ∧ w'.heap[b]? = w.heap[b]?) (hβ : ∀ i, i ≠ j → β' i = β i) {v : Value}
    (hj : ∀ b, blk v = some b → w'.heap[b]? = w.heap[b]?) : ∀ {o : Ob}, ORel w β S v o → ORel w' β' S' v (dropOb j o)
  | .row k t xs, h => by
    simp only [ORel, dropOb] at h ⊢
    obtain ⟨h1, h2, h3⟩ := h
    exact ⟨h1.keep hj, h2, h3⟩
  | .rowD t sz es, h => by
    simp only [ORel, dropOb] at h ⊢
    obtain ⟨vs, h1, h2, h3, h4⟩ := h
    exact ⟨vs, h1.keep hj, RepAll.keep hS es vs h2, h3, h4⟩
  | .cell t cs, h => by
    simp only [ORel, dropOb] at h ⊢
    obtain ⟨b, vs, h1, h2, h3⟩ := h
    exact ⟨b, vs, h1, by rw [hj b (by rw [h1]; rfl)]; exact h2, VAll.drop hS hβ cs _ h3⟩

/-- Object j becomes another one; what names it elsewhere is forgotten. -/
def setO (j : Nat) (o : Ob) : List (Nat × Ob) → List (Nat × Ob)
  | [] => []
  | (i, p) :: r => (if i = j then (j, o) else (i, p)) :: setO j o r
def setOd (j : Nat) (o : Ob) : List (Nat × Ob) → List (Nat × Ob)
  | [] => []
  | (i, p) :: r => (if i = j then (j, o) else (i, dropOb j p)) :: setOd j o r
def delO (j : Nat) : List (Nat × Ob) → List (Nat × Ob)
  | [] => []
  | (i, p) :: r => if i = j then delO j r else (i, dropOb j p) :: delO j r

theorem setO_ids (j : Nat) (o : Ob) : ∀ st, (setO j o st).map (·.1) = st.map (·.1)
  | [] => rfl
  | (i, p) :: r => by simp only [setO, List.map_cons, setO_ids j o r]; split <;> simp_all
theorem setOd_ids (j : Nat) (o : Ob) : ∀ st, (setOd j o st).map (·.1) = st.map (·.1)
  | [] => rfl
  | (i, p) :: r => by simp only [setOd, List.map_cons, setOd_ids j o r]; split <;> simp_all
theorem mem_setO {j : Nat} {o : Ob} : ∀ {st : List (Nat × Ob)} {i : Nat} {p : Ob}, (i, p) ∈ setO j o st → (i = j ∧ p = o) ∨ (i ≠ j ∧ (i, p) ∈ st)
  | [], _, _, h => by simp [setO] at h
  | (k, q) :: r, i, p, h => by
    simp only [setO, List.mem_cons] at h
    rcases h with h | h
    · split at h
      · injection h with h1 h2; exact .inl ⟨h1, h2⟩
      · rename_i hne; injection h with h1 h2; subst h1; subst h2; exact .inr ⟨hne, by simp⟩
    · rcases mem_setO h with h | h
      · exact .inl h
      · exact .inr ⟨h.1, List.mem_cons_of_mem _ h.2⟩
theorem mem_setOd {j : Nat} {o : Ob} : ∀ {st : List (Nat × Ob)} {i : Nat} {p : Ob}, (i, p) ∈ setOd j o st → (i = j ∧ p = o) ∨ (i ≠ j ∧ ∃ q, (i, q) ∈ st ∧ p = dropOb j q)
  | [], _, _, h => by simp [setOd] at h
  | (k, q) :: r, i, p, h => by
    simp only [setOd, List.mem_cons] at h
    rcases h with h | h
    · split at h
      · injection h with h1 h2; exact .inl ⟨h1, h2⟩
      · rename_i hne; injection h with h1 h2; subst h1; subst h2; exact .inr ⟨hne, q, by simp⟩
    · rcases mem_setOd h with h | ⟨h, q', h2, h3⟩
      · exact .inl h
      · exact .inr ⟨h, q', List.mem_cons_of_mem _ h2, h3⟩
theorem mem_delO {j : Nat} : ∀ {st : List (Nat × Ob)} {i : Nat} {p : Ob}, (i, p) ∈ delO j st → i ≠ j ∧ ∃ q, (i, q) ∈ st ∧ p = dropOb j q
  | [], _, _, h => by simp [delO] at h
  | (k, q) :: r, i, p, h => by
    simp only [delO] at h
    split at h
    · obtain ⟨h1, q', h2, h3⟩ := mem_delO h
      exact ⟨h1, q', List.mem_cons_of_mem _ h2, h3⟩
    · rename_i hne
      simp only [List.mem_cons] at h
      rcases h with h | h
      · injection h with h1 h2; subst h1; subst h2; exact ⟨hne, q, by simp⟩
      · obtain ⟨h1, q', h2, h3⟩ := mem_delO h
        exact ⟨h1, q', List.mem_cons_of_mem _ h2, h3⟩
theorem delO_ids {j : Nat} : ∀ {st : List (Nat × Ob)}, (st.map (·.1)).Nodup → ((delO j st).map (·.1)).Nodup
  | [], h => by simp [delO]
  | (i, p) :: r, h => by
    simp only [List.map_cons, List.nodup_cons] at h
    simp only [delO]
    split
    · exact delO_ids h.2
    · simp only [List.map_cons, List.nodup_cons]
      refine ⟨fun hm => ?_, delO_ids h.2⟩
      obtain ⟨⟨k, q⟩, hk, rfl⟩ := List.mem_map.1 hm
      obtain ⟨_, q', h2, _⟩ := mem_delO hk
      exact h.1 (List.mem_map.2 ⟨_, h2, rfl⟩)

section
variable {P : Program} {C : Ctx} {s : AState} {β : Nat → Option Value} {S : Nat → Prop} {a : Act} {w w' : World}

theorem mem_id {st : List (Nat × Ob)} {j : Nat} {o : Ob} (h : (j, o) ∈ st) : j ∈ st.map (·.1) := List.mem_map.2 ⟨_, h, rfl⟩

theorem ARelB.id_lt (h : ARelB C s β S a w) {j : Nat} {o : Ob} (hj : (j, o) ∈ s.st) : j < s.nx := by
  obtain ⟨v, hv, _⟩ := h.st.obj j o hj
  rcases Nat.lt_or_ge j s.nx with h' | h'
  · exact h'
  · rw [h.nx j h'] at hv; cases hv

/-- What is imm stays as it is while the world grows beside one owned block. -/
theorem ARelB.imm (h : ARelB C s β S a w) {row : Option Nat} (hg : w.grownBy w' row) (hr : ∀ g, row = some g → Owned β s.st g) : ∀ b, S b → S b ∧ w'.heap[b]? = w.heap[b]? :=
  fun b hb => ⟨hb, hg.block b (h.st.inS b hb) fun e => (h.st.own b (hr b e.symm)).1 hb⟩

theorem fr_grown {S' own' : Nat → Prop} (h : ARelB C s β S a w) {row : Option Nat} (hg : w.grownBy w' row) (hr : ∀ g, row = some g → Owned β s.st g)
    (hS : ∀ b, S' b → S b ∨ Owned β s.st b ∨ w.heap.size ≤ b) (ho : ∀ b, own' b → Owned β s.st b ∨ w.heap.size ≤ b) : Fr C w' S' own' := by
  have hf := h.frame
  refine ⟨Nat.le_trans hf.size hg.size, hg.os.trans hf.os, hg.tape.trans hf.tape, hg.output.trans hf.output, fun b hb hE => ?_, fun b hb => ?_, fun b hb => ?_⟩
  · rw [hg.block b (Nat.lt_of_lt_of_le hb hf.size) fun e => ?_]
    · exact hf.old b hb hE
    · rcases hf.own b (hr b e.symm) with h' | h'
      · exact hE h'
      · omega
  · rcases hS b hb with h' | h' | h'
    · exact hf.inS b h'
    · exact .inr (hf.own b h')
    · exact .inr (.inr (Nat.le_trans hf.size h'))
  · rcases ho b hb with h' | h'
    · exact hf.own b h'
    · exact .inr (Nat.le_trans hf.size h')

theorem orel_cells {w : World} {β : Nat → Option Value} {S : Nat → Prop} {v : Value} {o : Ob} (h : ORel w β S v o) {b : Nat} (hb : blk v = some b) : ∃ cs t, w.heap[b]? = some (.cells cs t (0, 0)) := by
  have own : ∀ {t : TypeId} {sz n : Nat} {vs : List Value}, OwnsV w t sz v n vs → ∃ cs t, w.heap[b]? = some (.cells cs t (0, 0)) := fun {t sz n vs} h => by
    rcases h with ⟨A, rfl, _⟩ | ⟨g, cap, cur, rfl, hc, hh, _⟩
    · cases A <;> simp [blk] at hb
    · simp only [blk] at hb
      split at hb
      · cases hb
      · injection hb with hb; subst hb; exact ⟨_, _, hh⟩
  cases o with
  | row k t xs => simp only [ORel] at h; exact own h.1
  | rowD t sz es => simp only [ORel] at h; obtain ⟨vs, h1, _⟩ := h; exact own h1
  | cell t cs =>
    simp only [ORel] at h
    obtain ⟨g, vs, rfl, hh, _⟩ := h
    simp only [blk] at hb
    injection hb with hb; subst hb
    exact ⟨_, _, hh⟩

theorem SRel.cells {w : World} {β : Nat → Option Value} {S : Nat → Prop} {st : List (Nat × Ob)} (h : SRel w β S st) {b : Nat} (hb : Owned β st b) : ∃ cs t, w.heap[b]? = some (.cells cs t (0, 0)) := by
  obtain ⟨j, o, hj, hb⟩ := hb
  obtain ⟨v, hv, hr⟩ := h.obj j o hj
  rw [hv] at hb
  exact orel_cells hr hb

theorem Marks.keep {a : Act} {w w' : World} {S S' : Nat → Prop} (h : Marks C S a w)
    (hk : ∀ D : Nat, w.heap[D]? = some (Obj.deferred (some [])) → ¬ S D → w'.heap[D]? = some (Obj.deferred (some [])) ∧ ¬ S' D) : Marks C S' a w' :=
  ⟨fun d hd => by
    obtain ⟨D, e, hD, hS, hC⟩ := h.1 d hd
    exact ⟨D, e, (hk D hD hS).1, (hk D hD hS).2, hC⟩, h.2⟩

theorem ARelB.marks (h : ARelB C s β S a w) {row : Option Nat} (hg : w.grownBy w' row) (hr : ∀ g, row = some g → Owned β s.st g) : Marks C S a w' :=
  Marks.keep h.defers fun D hD hS => by
    have hlt : D < w.heap.size := (Array.getElem?_eq_some_iff.1 hD).1
    refine ⟨?_, hS⟩
    rw [hg.block D hlt fun e => ?_]
    · exact hD
    · obtain ⟨cs, t, hc⟩ := h.st.cells (hr D e.symm)
      rw [hD] at hc; cases hc

/-- L1: an owned object is written in place. -/
theorem ARelB.touch (h : ARelB C s β S a w) {j : Nat} {o o' : Ob} {v : Value} (hj : (j, o) ∈ s.st) (hv : β j = some v) (hg : w.grownBy w' (blk v)) (ho : ORel w' β S v o') :
    ARelB C { s with st := setO j o' s.st } β S a w' := by
  have hown : ∀ g, blk v = some g → Owned β s.st g := fun g e => ⟨j, o, hj, by rw [hv]; exact e⟩
  have himm := h.imm hg hown
  have hnd := setO_ids j o' s.st
  have hsame : ∀ b, Owned β (setO j o' s.st) b ↔ Owned β s.st b := fun b => by
    constructor
    · rintro ⟨i, p, hi, hb⟩
      rcases mem_setO hi with ⟨rfl, _⟩ | ⟨_, hi⟩
      · exact ⟨_, o, hj, hb⟩
      · exact ⟨i, p, hi, hb⟩
    · rintro ⟨i, p, hi, hb⟩
      have : i ∈ (setO j o' s.st).map (·.1) := by rw [hnd]; exact mem_id hi
      obtain ⟨⟨i', p'⟩, hm, rfl⟩ := List.mem_map.1 this
      exact ⟨_, p', hm, hb⟩
  refine ⟨fun t => VRel.keep himm (fun _ _ e => e) _ _ (h.fr t), h.size, ⟨fun i p hi => ?_, by rw [hnd]; exact h.st.nodup, fun i p k q hi hk hne b hb => ?_, fun b hb => ?_, fun b hb => ?_, h.st.gl.keep himm⟩, ?_, h.nx, h.marks hg hown, h.pin, h.nxm⟩
  · rcases mem_setO hi with ⟨rfl, rfl⟩ | ⟨hne, hi⟩
    · exact ⟨v, hv, ho⟩
    · obtain ⟨u, hu, hr⟩ := h.st.obj i p hi
      refine ⟨u, hu, hr.keep himm (fun _ _ e => e) fun b hb => hg.block b (h.st.own b ⟨i, p, hi, by rw [hu]; exact hb⟩).2 fun e => ?_⟩
      exact h.st.apart i p j o hi hj hne b (by rw [hu]; exact hb) (by rw [hv]; exact e.symm)
  · have h1 : ∃ p', (i, p') ∈ s.st := by
      rcases mem_setO hi with ⟨rfl, _⟩ | ⟨_, hi⟩
      · exact ⟨o, hj⟩
      · exact ⟨p, hi⟩
    have h2 : ∃ q', (k, q') ∈ s.st := by
      rcases mem_setO hk with ⟨rfl, _⟩ | ⟨_, hk⟩
      · exact ⟨o, hj⟩
      · exact ⟨q, hk⟩
    obtain ⟨p', h1⟩ := h1
    obtain ⟨q', h2⟩ := h2
    exact h.st.apart i p' k q' h1 h2 hne b hb
  · have := h.st.own b ((hsame b).1 hb)
    exact ⟨this.1, Nat.lt_of_lt_of_le this.2 hg.size⟩
  · exact Nat.lt_of_lt_of_le (h.st.inS b hb) hg.size
  · exact fr_grown h hg hown (fun b hb => .inl hb) fun b hb => .inl ((hsame b).1 hb)

def updO (β : Nat → Option Value) (j : Nat) (v : Value) : Nat → Option Value := fun i => if i = j then some v else β i

/-- L2: a new object. -/
theorem ARelB.fresh (h : ARelB C s β S a w) {o' : Ob} {v : Value} (hg : w.grownBy w' none) (hb : ∀ b, blk v = some b → w.heap.size ≤ b ∧ b < w'.heap.size) (ho : ORel w' (updO β s.nx v) S v o') :
    ARelB C { s with st := (s.nx, o') :: s.st, nx := s.nx + 1 } (updO β s.nx v) S a w' := by
  have himm := h.imm hg (by simp)
  have hβ : ∀ i u, β i = some u → updO β s.nx v i = some u := fun i u e => by
    unfold updO
    rw [if_neg]
    · exact e
    · rintro rfl; rw [h.nx _ (Nat.le_refl _)] at e; cases e
  have hnew : updO β s.nx v s.nx = some v := by simp [updO]
  have hold : ∀ {i p}, (i, p) ∈ s.st → updO β s.nx v i = β i := fun {i p} hi => by
    obtain ⟨u, hu, _⟩ := h.st.obj i p hi
    rw [hβ i u hu, hu]
  have hown : ∀ b, Owned (updO β s.nx v) ((s.nx, o') :: s.st) b → Owned β s.st b ∨ (w.heap.size ≤ b ∧ b < w'.heap.size) := fun b => by
    rintro ⟨i, p, hi, hbb⟩
    rcases List.mem_cons.1 hi with hi | hi
    · injection hi with h1 h2
      subst h1
      rw [hnew] at hbb
      exact .inr (hb b hbb)
    · exact .inl ⟨i, p, hi, by rw [hold hi] at hbb; exact hbb⟩
  refine ⟨fun t => VRel.keep himm hβ _ _ (h.fr t), h.size, ⟨fun i p hi => ?_, ?_, fun i p k q hi hk hne b hbb hbk => ?_, fun b hbb => ?_, fun b hbb => ?_, h.st.gl.keep himm⟩, ?_, fun j hj => ?_, h.marks hg (by simp), fun j hj => ?_, Nat.le_succ_of_le h.nxm⟩
  · rcases List.mem_cons.1 hi with hi | hi
    · injection hi with h1 h2
      subst h1; subst h2
      exact ⟨v, hnew, ho⟩
    · obtain ⟨u, hu, hr⟩ := h.st.obj i p hi
      exact ⟨u, hβ i u hu, hr.keep himm hβ fun b hbb => hg.block b (h.st.own b ⟨i, p, hi, by rw [hu]; exact hbb⟩).2 (by simp)⟩
  · simp only [List.map_cons, List.nodup_cons]
    refine ⟨fun hm => ?_, h.st.nodup⟩
    obtain ⟨⟨i, p⟩, hi, e⟩ := List.mem_map.1 hm
    have := h.id_lt hi
    simp at e
    omega
  · rcases List.mem_cons.1 hi with hi | hi <;> rcases List.mem_cons.1 hk with hk | hk
    · injection hi with h1 _; injection hk with h2 _
      exact hne (h1.trans h2.symm)
    · injection hi with h1 _
      subst h1
      rw [hnew] at hbb
      rw [hold hk] at hbk
      have := hb b hbb
      have := (h.st.own b ⟨k, q, hk, hbk⟩).2
      omega
    · injection hk with h1 _
      subst h1
      rw [hnew] at hbk
      rw [hold hi] at hbb
      have := hb b hbk
      have := (h.st.own b ⟨i, p, hi, hbb⟩).2
      omega
    · rw [hold hi] at hbb
      rw [hold hk] at hbk
      exact h.st.apart i p k q hi hk hne b hbb hbk
  · rcases hown b hbb with h' | h'
    · have := h.st.own b h'
      exact ⟨this.1, Nat.lt_of_lt_of_le this.2 hg.size⟩
    · exact ⟨fun hs => by have := h.st.inS b hs; omega, h'.2⟩
  · exact Nat.lt_of_lt_of_le (h.st.inS b hbb) hg.size
  · exact fr_grown h hg (by simp) (fun b hb => .inl hb) fun b hb => (hown b hb).imp id (·.1)
  · simp only at hj
    unfold updO
    rw [if_neg (by omega)]
    exact h.nx j (by omega)
  · have := h.nxm
    unfold updO
    rw [if_neg (by omega)]
    exact h.pin j hj

/-- L3: an owned object may move; what named it is forgotten. -/
theorem ARelB.move (h : ARelB C s β S a w) {j : Nat} (hjm : C.m ≤ j) {o o' : Ob} {v v' : Value} (hj : (j, o) ∈ s.st) (hv : β j = some v) (hg : w.grownBy w' (blk v))
    (hb : ∀ b, blk v' = some b → (blk v = some b ∨ (w.heap.size ≤ b ∧ b < w'.heap.size))) (ho : ORel w' (updO β j v') S v' o') :
    ARelB C { s with st := setOd j o' s.st, fr := fun t => dropV j (s.fr t) } (updO β j v') S a w' := by
  have hown : ∀ g, blk v = some g → Owned β s.st g := fun g e => ⟨j, o, hj, by rw [hv]; exact e⟩
  have himm := h.imm hg hown
  have hnd := setOd_ids j o' s.st
  have hβ : ∀ i, i ≠ j → updO β j v' i = β i := fun i hi => by simp [updO, hi]
  have hnew : updO β j v' j = some v' := by simp [updO]
  have hOwn : ∀ b, Owned (updO β j v') (setOd j o' s.st) b → Owned β s.st b ∨ (w.heap.size ≤ b ∧ b < w'.heap.size) := fun b => by
    rintro ⟨i, p, hi, hbb⟩
    rcases mem_setOd hi with ⟨rfl, _⟩ | ⟨hne, q, hi, _⟩
    · rw [hnew] at hbb
      rcases hb b hbb with h' | h'
      · exact .inl (hown b h')
      · exact .inr h'
    · rw [hβ i hne] at hbb
      exact .inl ⟨i, q, hi, hbb⟩
  refine ⟨fun t => VRel.drop himm hβ (h.fr t), h.size, ⟨fun i p hi => ?_, by rw [hnd]; exact h.st.nodup, fun i p k q hi hk hne b hbb hbk => ?_, fun b hbb => ?_, fun b hbb => ?_, h.st.gl.keep himm⟩, ?_, fun i hi => ?_, h.marks hg hown, fun i hi => ?_, h.nxm⟩
  · rcases mem_setOd hi with ⟨rfl, rfl⟩ | ⟨hne, q, hiq, rfl⟩
    · exact ⟨v', hnew, ho⟩
    · obtain ⟨u, hu, hr⟩ := h.st.obj i q hiq
      refine ⟨u, by rw [hβ i hne]; exact hu, hr.drop himm hβ fun b hbb => hg.block b (h.st.own b ⟨i, q, hiq, by rw [hu]; exact hbb⟩).2 fun e => ?_⟩
      exact h.st.apart i q j o hiq hj hne b (by rw [hu]; exact hbb) (by rw [hv]; exact e.symm)
  · have key : ∀ {i p}, (i, p) ∈ setOd j o' s.st → i ≠ j → ∃ q, (i, q) ∈ s.st := fun hi hne => by
      rcases mem_setOd hi with ⟨e, _⟩ | ⟨_, q, hi, _⟩
      · exact (hne e).elim
      · exact ⟨q, hi⟩
    by_cases e1 : i = j
    · subst e1
      have e2 : k ≠ i := fun e => hne e.symm
      obtain ⟨q', hq'⟩ := key hk e2
      rw [hnew] at hbb
      rw [hβ k e2] at hbk
      rcases hb b hbb with h' | h'
      · exact h.st.apart k q' i o hq' hj e2 b hbk (by rw [hv]; exact h')
      · have := (h.st.own b ⟨k, q', hq', hbk⟩).2
        omega
    · obtain ⟨p', hp'⟩ := key hi e1
      rw [hβ i e1] at hbb
      by_cases e2 : k = j
      · subst e2
        rw [hnew] at hbk
        rcases hb b hbk with h' | h'
        · exact h.st.apart i p' k o hp' hj e1 b hbb (by rw [hv]; exact h')
        · have := (h.st.own b ⟨i, p', hp', hbb⟩).2
          omega
      · obtain ⟨q', hq'⟩ := key hk e2
        rw [hβ k e2] at hbk
        exact h.st.apart i p' k q' hp' hq' hne b hbb hbk
  · rcases hOwn b hbb with h' | h'
    · have := h.st.own b h'
      exact ⟨this.1, Nat.lt_of_lt_of_le this.2 hg.size⟩
    · exact ⟨fun hs => by have := h.st.inS b hs; omega, h'.2⟩
  · exact Nat.lt_of_lt_of_le (h.st.inS b hbb) hg.size
  · exact fr_grown h hg hown (fun b hb => .inl hb) fun b hb => (hOwn b hb).imp id (·.1)
  · have : i ≠ j := by
      have := h.id_lt hj
      simp only at hi
      omega
    simp only [hβ i this]
    exact h.nx i hi
  · rw [hβ i (by omega)]
    exact h.pin i hi

/-- A slot is written. -/
theorem ARelB.put (h : ARelB C s β S a w) {dst : Option Tmp} {x : AVal} {v : Value} (hx : VRel w β S x v) (hd : ∀ t, dst = some t → t < s.n) : ARelB C (s.put dst x) β S (a.put dst v) w := by
  cases dst with
  | none => exact h
  | some t =>
    have ht := hd t rfl
    refine ⟨fun u => ?_, ?_, h.st, h.frame, h.nx, h.defers, h.pin, h.nxm⟩
    · simp only [AState.put, upd, Act.put]
      split
      · rename_i e
        subst e
        simpa [Array.getElem?_setIfInBounds, h.size, ht] using hx
      · rename_i hne
        have := h.fr u
        rw [Array.getD_eq_getD_getElem?] at this ⊢
        rwa [Array.getElem?_setIfInBounds_ne (fun e => hne e.symm)]
    · simp [AState.put, Act.put, h.size]

end
end Go.Proofs.YtniaeiikdgbnfaaDoor.AW
namespace Go.Proofs.YtniaeiikdgbnfaaDoor.AW
open Go Go.RowKit
set_option linter.unusedSectionVars false
variable [Globs]
set_option linter.unusedSimpArgs false

mutual
def flatD : D → List D
  | .agg ds => flatDs ds
  | d => [d]
def flatDs : List D → List D
  | [] => []
  | d :: ds => flatD d ++ flatDs ds
end

/-- Cells put together by a type. -/
def asm (P : Program) : Nat → TypeId → List D → D
  | 0, _, _ => .nilp
  | n + 1, t, ds =>
    match P.underlying t with
    | some (.struct fs) => .agg (fs.toList.map fun f => asm P n f.type ((ds.drop f.offset).take ((szT P f.type).getD 0)))
    | some (.array len e) => .agg ((List.range len).map fun i => asm P n e ((ds.drop (i * (szT P e).getD 0)).take ((szT P e).getD 0)))
    | _ => ds.headD .nilp

/-- The cells of a value. -/
def cellsV : AVal → Option (List AVal)
  | .d x => some ((flatD x).map .d)
  | .ag _ cs => some cs
  | .tup _ => none
  | .un => none
  | .any => none
  | v => some [v]

def AState.newO : AState → Ob → AState
  | ⟨n, fr, st, nx⟩, o => ⟨n, fr, (nx, o) :: st, nx + 1⟩
/-- A new object, and its number. -/
def AState.new : AState → Ob → (AState → Nat → Prop) → Prop
  | ⟨n, fr, st, nx⟩, o, K => K ⟨n, fr, (nx, o) :: st, nx + 1⟩ nx

/-- The fence that keeps nobody out, in a round or not. -/
def fence (rd : Option Nat) : Fence := { Fence.wide with round := rd }

/-- Semantics: one operation, a piece of code, a call. -/
structure AWp (P : Program) (C : Ctx) (c : Code) (s : AState) (Q : Exit → AState → Prop) : Prop where
  run : ∀ a w, ARel C s a w → c.wpIn (fence C.rd) 0 P (fun e a' w' => ∃ s', ARel C s' a' w' ∧ Q e s') a w

def Enters (P : Program) (f : FuncId) : Prop := ∃ fn, P.funcs[f]? = some fn ∧ fn.body.isNone = false ∧ (fn.name == "runtime.NumGoroutine") = false

def eStore (P : Program) (s : AState) (t : TypeId) (x v : AVal) (K : AState → Prop) : Prop :=
  match x with
  | .optr j off =>
    match getO s.st j with
    | some (.row k e xs) =>
      (match v with
      | .d (.int k' n) => k' = k ∧ szT P t = some 1 ∧ off < xs.length ∧ K (s.withSt (setO j (.row k e (xs.set off n)) s.st))
      | .d (.agg ds) => ∃ ns : List Int, ds = ns.map (D.int k) ∧ szT P t = some ns.length ∧ 0 < ns.length ∧ off + ns.length ≤ xs.length ∧ K (s.withSt (setO j (.row k e (xs.take off ++ ns ++ xs.drop (off + ns.length))) s.st))
      | _ => False)
    | some (.rowD e sz es) =>
      (match dv v with
      | some y => sz = 1 ∧ szT P t = some 1 ∧ y.isAgg = false ∧ off < es.length ∧ K (s.withSt (setO j (.rowD e sz (es.set off y)) s.st))
      | none => False)
    | some (.cell e cs) =>
      (match cellsV v with
      | some us => szT P t = some us.length ∧ off + us.length ≤ cs.length ∧ K (s.withSt (setO j (.cell e (cs.take off ++ us ++ cs.drop (off + us.length))) s.st))
      | none => False)
    | none => False
  | _ => False

def intsOf (k : IntKind) : List D → Option (List Int)
  | [] => some []
  | .int k' n :: r => if k' = k then (match intsOf k r with
    | some ns => some (n :: ns)
    | none => none) else none
  | _ => none

def zeroD (P : Program) (e : TypeId) : D := constT P 6 e ((((P.info? e).bind (·.zero)).map (·.cells.toList)).getD [])

def eMake (P : Program) (s : AState) (t : TypeId) (l c : AVal) (K : AState → AVal → Prop) : Prop :=
  match P.underlying t, l, c with
  | some (.slice e), .d (.int _ n), .d (.int _ m) => n = m ∧ 0 ≤ n ∧ n ≤ 1073741824 ∧
    (match P.info? e with
    | some i => i.bytes ≤ 256 ∧
      (match P.underlying e with
      | some (.int k) => i.zero = some (.int k 0) ∧ i.size = 1 ∧ (s.new (.row k e (List.replicate n.toNat 0)) fun s' j => K s' (.own j))
      | _ =>
        match i.zero with
        | some z => 0 < i.size ∧ (zeroD P e).size = i.size ∧ z.cells.size = i.size ∧ repCB (zeroD P e) z.cells.toList = true ∧ (s.new (.rowD e i.size (List.replicate n.toNat (zeroD P e))) fun s' j => K s' (.own j))
        | none => False)
    | none => False)
  | _, _, _ => False

theorem madeCells_one (z : Value) (n : Nat) : (madeCells #[z] n).toList = List.replicate n z := by
  unfold madeCells
  apply List.ext_getElem?
  intro i
  simp only [Array.toList_map, Array.toList_range, List.getElem?_map, List.getElem?_replicate]
  by_cases h : i < n <;> simp [h, Nat.mod_one]

theorem madeCells_many (z : Array Value) : ∀ (n : Nat), 0 < z.size → (madeCells z (n * z.size)).toList = (List.replicate n z.toList).flatten
  | 0, _ => by simp [madeCells]
  | n + 1, hz => by
    have ih := madeCells_many z n hz
    unfold madeCells at ih ⊢
    simp only [Array.toList_map, Array.toList_range] at ih ⊢
    rw [show (n + 1) * z.size = z.size + n * z.size by rw [Nat.add_mul]; omega, List.range_add, List.map_append, List.map_map, List.replicate_succ, List.flatten_cons, ← ih]
    congr 1
    · apply List.ext_getElem?
      intro i
      by_cases h : i < z.size
      · simp [h, Nat.mod_eq_of_lt h]
      · simp [h]
    · apply List.map_congr_left
      intro i _
      simp

theorem RepAll_replicate {w : World} {S : Nat → Prop} {d : D} {cs : List Value} (h : Rep w S d cs) : ∀ n, RepAll w S (List.replicate n d) (List.replicate n cs).flatten
  | 0 => by simp [RepAll]
  | n + 1 => by
    simp only [List.replicate_succ, List.flatten_cons, RepAll]
    exact ⟨_, _, rfl, h, RepAll_replicate h n⟩

section
variable {P : Program} {C : Ctx} {s : AState} {β : Nat → Option Value} {S : Nat → Prop} {a : Act} {w : World}

theorem grown_alloc (w : World) (o : Obj) : w.grownBy (w.alloc o) none :=
  ⟨rfl, rfl, rfl, by simp, fun k hk _ => Below.heap_alloc _ _ _ hk⟩

/-- A new block of cells is a new owned object. -/
theorem ARelB.alloc_row (h : ARelB C s β S a w) {k : IntKind} {e : TypeId} {xs : List Int} {n cap : Nat} {cur : Array Value} (hx : xs.length = n) (hc : n ≤ cap) (hm : cap ≤ maxLen) (hL : n ≤ LIM) (hcur : cur.size = cap)
    (htake : cur.toList.take n = xs.map (Value.int k)) (hwf : ∀ x ∈ xs, k.wrap x = x) :
    ARelB C (s.newO (.row k e xs)) (updO β s.nx (.slice (some ⟨w.heap.size, 0, none⟩) n cap)) S a (w.alloc (.cells cur e)) := by
  refine h.fresh (grown_alloc _ _) (fun b hb => ?_) ?_
  · simp only [blk] at hb
    split at hb
    · cases hb
    · injection hb with hb; subst hb; simp
  · simp only [ORel]
    refine ⟨?_, hwf, by omega⟩
    by_cases h0 : cap = 0
    · refine .inl ⟨some ⟨w.heap.size, 0, none⟩, ?_, by omega, ?_⟩
      · rw [h0]; congr 1; omega
      · have : xs = [] := List.eq_nil_of_length_eq_zero (by omega)
        simp [this]
    · refine .inr ⟨w.heap.size, cap, cur, by rw [hx], by omega, heap_alloc_new w _, by omega, hm, by simpa using hcur, by simp, ?_⟩
      rw [hx]; simpa using htake

/-- What a step that may change the world comes to. -/
def Does (P : Program) (C : Ctx) (a : Act) (w : World) (m : Sem Value) (K : AState → AVal → Prop) : Prop :=
  ∃ v w' s' r β', m.run P w = .ok v w' ∧ ∃ S', ARelB C s' β' S' a w' ∧ VRel w' β' S' r v ∧ K s' r

/-- The same, where nothing that stood there is turned. -/
def DoesX (P : Program) (C : Ctx) (a : Act) (w : World) (m : Sem Value) (K : AState → AVal → Prop) : Prop :=
  ∃ v w' s' r β', m.run P w = .ok v w' ∧ Ext w w' ∧ ∃ S', ARelB C s' β' S' a w' ∧ VRel w' β' S' r v ∧ K s' r
theorem Ext.alloc (w : World) (o : Obj) : Ext w (w.alloc o) := fun _ h => Below.heap_alloc _ _ _ h

theorem eMake_sound (h : ARelB C s β S a w) {t : TypeId} {l c : AVal} {lv cv : Value} {K : AState → AVal → Prop} (hl : VRel w β S l lv) (hc : VRel w β S c cv) (hq : eMake P s t l c K) :
    DoesX P C a w (Instr.makeSlice t lv cv) K := by
  unfold eMake at hq
  split at hq
  · rename_i e k n k' m hu
    obtain ⟨rfl, h0, hn, hq⟩ := hq
    obtain ⟨rfl, _⟩ := d_int hl
    obtain ⟨rfl, _⟩ := d_int hc
    split at hq
    · rename_i i hi
      obtain ⟨hb, hq⟩ := hq
      have hbytes : (i.bytes : Int) * n ≤ 281474976710656 := by
        have h1 : (i.bytes : Int) ≤ 256 := by omega
        have h2 : (i.bytes : Int) * n ≤ 256 * n := Int.mul_le_mul_of_nonneg_right h1 h0
        omega
      have hmax : n.toNat ≤ maxLen := by unfold maxLen; omega
      have hlim : n.toNat ≤ LIM := by unfold LIM; omega
      split at hq
      · rename_i k0 hk
        obtain ⟨hz, hsz, hK⟩ := hq
        have hrun := run_make (P := P) w t e i (.int k0 0) hu hi hz k k' n n h0 (Int.le_refl _) hbytes (by omega)
        rw [hsz, Nat.mul_one] at hrun
        have hmc := madeCells_one (.int k0 0) n.toNat
        refine ⟨_, _, _, .own s.nx, updO β s.nx (.slice (some ⟨w.heap.size, 0, none⟩) n.toNat n.toNat), hrun, Ext.alloc _ _, S, ?_, ?_, hK⟩
        · refine h.alloc_row (k := k0) (e := e) (xs := List.replicate n.toNat 0) (by simp) (Nat.le_refl _) hmax hlim ?_ ?_ ?_
          · exact size_madeCells _ _
          · simp only [Value.cells, hmc]; simp
          · intro x hx; rw [(List.mem_replicate.1 hx).2, wrap_in]; cases k0 <;> simp [loK, hiK]
        · simp only [VRel, updO, if_true]
      · split at hq
        · rename_i z hz
          obtain ⟨hpos, hds, hzs, hrep, hK⟩ := hq
          replace hrep := repCB_ok _ _ hrep
          have hrun := run_make (P := P) w t e i z hu hi hz k k' n n h0 (Int.le_refl _) hbytes (by omega)
          rw [← hzs] at hrun hpos hds
          have hmc := madeCells_many z.cells n.toNat hpos
          have hlen : (madeCells z.cells (n.toNat * z.cells.size)).size = n.toNat * z.cells.size := size_madeCells _ _
          refine ⟨_, _, _, .own s.nx, updO β s.nx (.slice (some ⟨w.heap.size, 0, none⟩) n.toNat n.toNat), hrun, Ext.alloc _ _, S, ?_, ?_, hK⟩
          · refine h.fresh (grown_alloc _ _) (fun b hb => ?_) ?_
            · simp only [blk] at hb
              split at hb
              · cases hb
              · injection hb with hb; subst hb; simp
            · simp only [ORel, ← hzs]
              refine ⟨(madeCells z.cells (n.toNat * z.cells.size)).toList, ?_, ?_, fun e he => ?_, by simpa using hlim, hpos⟩
              · by_cases h00 : n.toNat = 0
                · exact .inl ⟨some ⟨w.heap.size, 0, none⟩, by rw [h00], by simp [h00], by simp [h00, madeCells]⟩
                · refine .inr ⟨w.heap.size, n.toNat, _, by simp, by omega, heap_alloc_new w _, by simp, hmax, hlen, by simp [hlen], ?_⟩
                  rw [List.take_of_length_le (by simp [hlen])]
              · rw [hmc]; exact RepAll_replicate (RepC.rep _ _ hrep) _
              · rw [(List.mem_replicate.1 he).2]; exact hds
          · simp only [VRel, updO, if_true]
        · exact hq.elim
    · exact hq.elim
  · exact hq.elim

/-! ### Stores -/
theorem oneCell_int (k : IntKind) (n : Int) : (Value.int k n).oneCell' = true := rfl

theorem storeAt_run {w : World} {t : TypeId} {b o : Nat} {v u : Value} (h1 : v.oneCell' = true) (hc : v.cells = #[v]) (hsz : szT P t = some 1) (hcell : w.cell? ⟨b, o, none⟩ = some u) (hf : w.frozen? ⟨b, o, none⟩ = false) :
    (Instr.storeAt t (.pointer (some ⟨b, o, none⟩)) v).run P w = .ok () (w.setCell ⟨b, o, none⟩ v) := by
  simp only [Instr.storeAt, Instr.sureAddr, Sem.run_bind, Sem.run_pure, Result.andThen_ok, storeVar, run_sizeT hsz, hc, List.size_toArray, List.length_cons, List.length_nil]
  simp only [Nat.zero_add, ne_eq, not_true_eq_false, if_false, storeCells, Sem.run_bind, addr_add, Nat.add_zero, run_store _ _ _ _ _ h1, stored, hcell, hf]
  simp

theorem grown_set (w : World) (b o : Nat) (v : Value) : w.grownBy (w.setCell ⟨b, o, none⟩ v) (some b) :=
  ⟨rfl, rfl, rfl, by simp [World.setCell], fun k _ hne => Below.heap_setCell _ _ _ _ (fun e => hne (by rw [e]))⟩

theorem heap_set {w : World} {b o : Nat} {v : Value} {cur : Array Value} {t : TypeId} {fz : Nat × Nat} (h : w.heap[b]? = some (.cells cur t fz)) :
    (w.setCell ⟨b, o, none⟩ v).heap[b]? = some (.cells (cur.setIfInBounds o v) t fz) := by
  simp [World.setCell, Array.getElem?_modify, h]

theorem take_set_lt {l : List Value} {i n : Nat} {v : Value} : (l.set i v).take n = (l.take n).set i v := by
  rw [List.take_set]

theorem ownsV_store {w : World} {t : TypeId} {v : Value} {n : Nat} {vs : List Value} (h : OwnsV w t 1 v n vs) {i : Nat} (hi : i < n) (u : Value) :
    ∃ g cap cur, v = .slice (some ⟨g, 0, none⟩) n cap ∧ blk v = some g ∧ w.heap[g]? = some (.cells cur t (0, 0)) ∧ i < cur.size ∧ OwnsV (w.setCell ⟨g, i, none⟩ u) t 1 v n (vs.set i u) := by
  rcases h with ⟨A, _, h0, _⟩ | ⟨g, cap, cur, e, hc, hh, hle, hm, hz, hl, ht⟩
  · omega
  · refine ⟨g, cap, cur, e, by rw [e]; simp [blk]; omega, hh, by omega, .inr ⟨g, cap, cur.setIfInBounds i u, e, hc, heap_set hh, hle, hm, by simpa using hz, by simpa using hl, ?_⟩⟩
    rw [Array.toList_setIfInBounds, take_set_lt, ht]

theorem ownsV_many {w w' : World} {t : TypeId} {v : Value} {n o : Nat} {vs us : List Value} {g : Nat} {cur cur' : Array Value} (h : OwnsV w t 1 v n vs) (hg : blk v = some g) (hn : n = vs.length) (hh : w.heap[g]? = some (.cells cur t (0, 0)))
    (hh' : w'.heap[g]? = some (.cells cur' t (0, 0))) (hs : cur'.size = cur.size) (hl : cur'.toList = cur.toList.take o ++ us ++ cur.toList.drop (o + us.length)) (hle : o + us.length ≤ n) :
    OwnsV w' t 1 v n (vs.take o ++ us ++ vs.drop (o + us.length)) := by
  rcases h with ⟨A, rfl, _⟩ | ⟨g2, cap, cur2, e, hc, hh2, hle2, hm, hz, hl2, ht⟩
  · cases A <;> simp [blk] at hg
  · subst e
    have : g2 = g := by
      simp only [blk] at hg
      rw [if_neg (by omega)] at hg
      injection hg
    subst this
    rw [hh] at hh2
    injection hh2 with hh2
    injection hh2 with hh2
    subst hh2
    refine .inr ⟨g2, cap, cur', rfl, hc, hh', hle2, hm, by rw [hs]; exact hz, ?_, ?_⟩
    · simp; omega
    · rw [Nat.mul_one] at ht ⊢
      rw [hl, ← ht]
      have hcl : cur.toList.length = cap := by simpa using hz
      have a1 : (cur.toList.take o ++ us).length = o + us.length := by simp; omega
      rw [List.take_append, a1, List.take_of_length_le (l := cur.toList.take o ++ us) (by omega), List.take_take, Nat.min_eq_left (by omega), List.drop_take]

theorem cell_of {w : World} {g i : Nat} {cur : Array Value} {t : TypeId} {fz : Nat × Nat} (h : w.heap[g]? = some (.cells cur t fz)) (hi : i < cur.size) : ∃ u, w.cell? ⟨g, i, none⟩ = some u :=
  ⟨cur[i], by simp [World.cell?, h, hi]⟩

theorem unfrozen {w : World} {g i : Nat} {cur : Array Value} {t : TypeId} (h : w.heap[g]? = some (.cells cur t (0, 0))) : w.frozen? ⟨g, i, none⟩ = false := by simp [World.frozen?, h]

theorem rep_oneCell {w : World} {S : Nat → Prop} {y : D} {cs : List Value} (h : Rep w S y cs) (hy : y.isAgg = false) : ∃ u, cs = [u] ∧ u.oneCell' = true ∧ u.cells = #[u] := by
  cases y <;> simp only [Rep, D.isAgg] at h hy
  case int k n => exact ⟨_, h.1, rfl, rfl⟩
  case bool b => exact ⟨_, h, rfl, rfl⟩
  case str xs => obtain ⟨s, h, _⟩ := h; exact ⟨_, h, rfl, rfl⟩
  case raw v =>
    obtain ⟨h1, h2⟩ := h
    refine ⟨_, h1, ?_, ?_⟩ <;> cases v <;> simp_all [plainV, Value.oneCell', Value.cells]
  case ints k xs => obtain ⟨A, c, h, _⟩ := h; exact ⟨_, h, rfl, rfl⟩
  case sl sz es => obtain ⟨A, c, h, _⟩ := h; exact ⟨_, h, rfl, rfl⟩
  case ptr d => obtain ⟨b, o, h, _⟩ := h; exact ⟨_, h, rfl, rfl⟩
  case nilp => exact ⟨_, h, rfl, rfl⟩
  case agg ds => cases hy
  case fn f caps => obtain ⟨vs, h, _⟩ := h; exact ⟨_, h, rfl, rfl⟩

theorem RepAll_set {w : World} {S : Nat → Prop} : ∀ {es : List D} {vs : List Value} {i : Nat} {y : D} {u : Value}, (∀ e ∈ es, e.size = 1) → RepAll w S es vs → Rep w S y [u] → RepAll w S (es.set i y) (vs.set i u)
  | [], vs, i, y, u, _, h, hy => by simp only [RepAll] at h; subst h; simp [RepAll]
  | e :: es, vs, i, y, u, h1, h, hy => by
    simp only [RepAll] at h
    obtain ⟨c1, c2, rfl, h2, h3⟩ := h
    have hs := Rep.size _ _ h2
    rw [h1 e (by simp)] at hs
    match c1, hs with
    | [x], _ =>
      cases i with
      | zero => simp only [List.set_cons_zero, List.cons_append, List.nil_append, RepAll]; exact ⟨[u], c2, rfl, hy, h3⟩
      | succ i =>
        simp only [List.set_cons_succ, List.cons_append, List.nil_append, RepAll]
        exact ⟨[x], _, rfl, h2, RepAll_set (fun a ha => h1 a (List.mem_cons_of_mem _ ha)) h3 hy⟩

/-- What a store comes to. -/
def DoesU (P : Program) (C : Ctx) (a : Act) (w : World) (m : Sem Unit) (K : AState → Prop) : Prop :=
  ∃ w' s', m.run P w = .ok () w' ∧ ARel C s' a w' ∧ K s'

theorem VAll.append {w : World} {β : Nat → Option Value} {S : Nat → Prop} : ∀ {xs ys : List AVal} {as bs : List Value}, VAll w β S xs as → VAll w β S ys bs → VAll w β S (xs ++ ys) (as ++ bs)
  | [], ys, as, bs, h1, h2 => by simp only [VAll] at h1; subst h1; simpa using h2
  | x :: xs, ys, as, bs, h1, h2 => by
    simp only [VAll] at h1
    obtain ⟨v, r, rfl, h3, h4⟩ := h1
    simp only [List.cons_append, VAll]
    exact ⟨v, _, rfl, h3, VAll.append h4 h2⟩

theorem VAll.splice {w : World} {β : Nat → Option Value} {S : Nat → Prop} {cs us : List AVal} {vs ws : List Value} (h : VAll w β S cs vs) (hu : VAll w β S us ws) (off : Nat) :
    VAll w β S (cs.take off ++ us ++ cs.drop (off + us.length)) (vs.take off ++ ws ++ vs.drop (off + us.length)) := by
  have h1 : VAll w β S (cs.take off) (vs.take off) := by simpa using VAll.sub cs vs h 0 off
  have h2 : VAll w β S (cs.drop (off + us.length)) (vs.drop (off + us.length)) := by
    have := VAll.sub cs vs h (off + us.length) cs.length
    rwa [List.take_of_length_le (by simp), List.take_of_length_le (by simp [VAll.length _ _ h])] at this
  exact VAll.append (VAll.append h1 hu) h2

theorem one_rep {w : World} {β : Nat → Option Value} {S : Nat → Prop} {d : D} {cs : List Value} (h : Rep w S d cs) (hd : d.isAgg = false) (hf : flatD d = [d]) : VAll w β S ((flatD d).map .d) cs := by
  obtain ⟨u, rfl, _⟩ := rep_oneCell h hd
  rw [hf]
  simp only [List.map_cons, List.map_nil, VAll, VRel]
  exact ⟨u, [], rfl, ⟨[u], h, by rw [packD_one hd]; rfl⟩, rfl⟩

mutual
theorem flat_rep {w : World} {β : Nat → Option Value} {S : Nat → Prop} : ∀ (d : D) (cs : List Value), Rep w S d cs → VAll w β S ((flatD d).map .d) cs
  | .agg ds, cs, h => by simp only [Rep] at h; simp only [flatD]; exact flats_rep ds cs h
  | .int k n, cs, h => one_rep h rfl rfl
  | .bool b, cs, h => one_rep h rfl rfl
  | .str xs, cs, h => one_rep h rfl rfl
  | .raw v, cs, h => one_rep h rfl rfl
  | .ints k xs, cs, h => one_rep h rfl rfl
  | .sl sz es, cs, h => one_rep h rfl rfl
  | .ptr d, cs, h => one_rep h rfl rfl
  | .nilp, cs, h => one_rep h rfl rfl
  | .fn f caps, cs, h => one_rep h rfl rfl
theorem flats_rep {w : World} {β : Nat → Option Value} {S : Nat → Prop} : ∀ (ds : List D) (cs : List Value), RepAll w S ds cs → VAll w β S ((flatDs ds).map .d) cs
  | [], cs, h => by simp only [RepAll] at h; simp only [flatDs, List.map_nil, VAll]; exact h
  | d :: ds, cs, h => by
    simp only [RepAll] at h
    obtain ⟨c1, c2, rfl, h1, h2⟩ := h
    have e1 := flat_rep (β := β) d c1 h1
    have e2 := flats_rep (β := β) ds c2 h2
    simp only [flatDs, List.map_append]
    exact VAll.append e1 e2
end
end
end Go.Proofs.YtniaeiikdgbnfaaDoor.AW
namespace Go.Proofs.YtniaeiikdgbnfaaDoor.AW
open Go Go.RowKit
set_option linter.unusedSectionVars false
variable [Globs]

def oneV (st : List (Nat × Ob)) : AVal → Bool
  | .d x => !x.isAgg
  | .em _ | .nls _ | .view .. | .optr .. | .ofn .. => true
  | .own j => (getO st j).isSome
  | _ => false

section
variable {P : Program} {C : Ctx} {s : AState} {β : Nat → Option Value} {S : Nat → Prop} {a : Act} {w : World}

theorem ownsV_slice {w : World} {t : TypeId} {sz : Nat} {v : Value} {n : Nat} {vs : List Value} (h : OwnsV w t sz v n vs) : ∃ A c, v = .slice A n c := by
  rcases h with ⟨A, e1, e2, _⟩ | ⟨g, cap, cur, e1, _⟩
  · exact ⟨A, 0, by rw [e1, e2]⟩
  · exact ⟨_, cap, e1⟩

theorem oneV_cell (h : ARelB C s β S a w) {x : AVal} {v : Value} (hx : VRel w β S x v) (h1 : oneV s.st x = true) : v.oneCell' = true ∧ v.cells = #[v] := by
  cases x <;> simp only [oneV] at h1
  case d y =>
    simp only [VRel] at hx
    obtain ⟨cs, hr, rfl⟩ := hx
    have hy : y.isAgg = false := by simpa using h1
    obtain ⟨u, rfl, h2, h3⟩ := rep_oneCell hr hy
    rw [packD_one hy]
    exact ⟨h2, h3⟩
  case em y => simp only [VRel] at hx; obtain ⟨⟨A, rfl⟩, _⟩ := hx; exact ⟨rfl, rfl⟩
  case nls y => simp only [VRel] at hx; obtain ⟨rfl, _⟩ := hx; exact ⟨rfl, rfl⟩
  case own j =>
    obtain ⟨o, ho⟩ := Option.isSome_iff_exists.1 h1
    obtain ⟨bv, hβ0, hob⟩ := h.st.obj j _ (getO_mem ho)
    simp only [VRel] at hx
    rw [hβ0] at hx; injection hx with hx; subst hx
    cases o <;> simp only [ORel] at hob
    · obtain ⟨A, c, rfl⟩ := ownsV_slice hob.1; exact ⟨rfl, rfl⟩
    · obtain ⟨vs, hv, _⟩ := hob; obtain ⟨A, c, rfl⟩ := ownsV_slice hv; exact ⟨rfl, rfl⟩
    · obtain ⟨b, vs, rfl, _⟩ := hob; exact ⟨rfl, rfl⟩
  case view j o l => simp only [VRel] at hx; obtain ⟨A, c, rfl, _⟩ := hx; exact ⟨rfl, rfl⟩
  case optr j o => simp only [VRel] at hx; obtain ⟨b, _, rfl⟩ := hx; exact ⟨rfl, rfl⟩
  case ofn f cs => simp only [VRel] at hx; obtain ⟨vs, rfl, _⟩ := hx; exact ⟨rfl, rfl⟩
  all_goals cases h1

theorem oneV_cells (h : ARelB C s β S a w) : ∀ {xs : List AVal} {vs : List Value}, VAll w β S xs vs → xs.all (oneV s.st) = true → ∀ v ∈ vs, v.oneCell' = true
  | [], vs, hx, _ => by simp only [VAll] at hx; subst hx; simp
  | x :: xs, vs, hx, h1 => by
    simp only [VAll] at hx
    obtain ⟨v, r, rfl, h2, h3⟩ := hx
    simp only [List.all_cons, Bool.and_eq_true] at h1
    intro u hu
    rcases List.mem_cons.1 hu with rfl | hu
    · exact (oneV_cell h h2 h1.1).1
    · exact oneV_cells h h3 h1.2 u hu

/-- A value's cells. -/
theorem cellsV_rel (h : ARelB C s β S a w) {x : AVal} {v : Value} (hx : VRel w β S x v) {us : List AVal} (hc : cellsV x = some us) (h1 : us.all (oneV s.st) = true) : VAll w β S us v.cells.toList := by
  cases x <;> simp only [cellsV] at hc
  case d y =>
    injection hc with hc; subst hc
    simp only [VRel] at hx
    obtain ⟨cs, hr, rfl⟩ := hx
    cases hy : y.isAgg with
    | true =>
      cases y <;> simp [D.isAgg] at hy
      simpa [packD, Value.cells] using flat_rep (β := β) _ _ hr
    | false =>
      obtain ⟨u, rfl, _, h3⟩ := rep_oneCell hr hy
      rw [packD_one hy]
      simp only [List.headD_cons, h3]
      exact flat_rep (β := β) _ _ hr
  case ag _ cs =>
    injection hc with hc; subst hc
    simp only [VRel] at hx
    obtain ⟨vs, rfl, hv⟩ := hx
    exact hv
  all_goals first
    | (injection hc with hc; subst hc
       simp only [List.all_cons, List.all_nil, Bool.and_true] at h1
       rw [(oneV_cell h hx h1).2]
       simp only [VAll]
       exact ⟨_, _, rfl, hx, rfl⟩)
    | (cases hc)

theorem heap_setCells {b : Nat} {t : TypeId} {fz : Nat × Nat} : ∀ (vs : List Value) (o : Nat) (w : World) (cur : Array Value), w.heap[b]? = some (.cells cur t fz) → o + vs.length ≤ cur.size →
    ∃ cur' : Array Value, (w.setCells b o vs).heap[b]? = some (.cells cur' t fz) ∧ cur'.toList = cur.toList.take o ++ vs ++ cur.toList.drop (o + vs.length) ∧ cur'.size = cur.size
  | [], o, w, cur, h, _ => ⟨cur, h, by simp, rfl⟩
  | v :: vs, o, w, cur, h, hl => by
    simp only [List.length_cons] at hl
    obtain ⟨cur', h1, h2, h3⟩ := heap_setCells vs (o + 1) (w.setCell ⟨b, o, none⟩ v) (cur.setIfInBounds o v) (heap_set h) (by simp; omega)
    refine ⟨cur', h1, ?_, by simpa using h3⟩
    rw [h2, Array.toList_setIfInBounds]
    have hlt : o < cur.toList.length := by simp; omega
    rw [List.drop_set_of_lt (by omega)]
    have : (cur.toList.set o v).take (o + 1) = cur.toList.take o ++ [v] := by
      rw [List.take_set, List.take_succ_eq_append_getElem hlt, List.set_append_right _ _ (by simp; omega)]
      have : o - min o cur.size = 0 := by simp at hlt; omega
      simp [this]
    rw [this]
    simp only [List.length_cons, List.append_assoc, List.cons_append, List.nil_append]
    rw [show o + 1 + vs.length = o + (vs.length + 1) by omega]

theorem grown_setCells (b : Nat) : ∀ (vs : List Value) (o : Nat) (w : World), w.grownBy (w.setCells b o vs) (some b)
  | [], o, w => World.grownBy.refl w _
  | v :: vs, o, w => by
    have h1 := grown_set w b o v
    have h2 := grown_setCells b vs (o + 1) (w.setCell ⟨b, o, none⟩ v)
    exact ⟨h2.os.trans h1.os, h2.tape.trans h1.tape, h2.output.trans h1.output, Nat.le_trans h1.size h2.size, fun k hk hne => (h2.block k (Nat.lt_of_lt_of_le hk h1.size) hne).trans (h1.block k hk hne)⟩

theorem storeCells_run {w : World} {b o : Nat} {vs : List Value} {cur : Array Value} {t : TypeId} (h : w.heap[b]? = some (.cells cur t (0, 0))) (hl : o + vs.length ≤ cur.size) (h1 : ∀ v ∈ vs, v.oneCell' = true) :
    (storeCells ⟨b, o, none⟩ vs).run P w = .ok () (w.setCells b o vs) := by
  have := run_storeCells_cells (P := P) b o vs 0 w (fun j hj => ?_) (fun j _ => unfrozen h) h1
  · simpa using this
  · obtain ⟨u, hu⟩ := cell_of h (i := o + 0 + j) (by omega)
    rw [hu]; rfl

theorem repInts_inv {w : World} {S : Nat → Prop} {k : IntKind} : ∀ {xs : List Int} {cs : List Value}, RepAll w S (xs.map (D.int k)) cs → cs = xs.map (Value.int k) ∧ ∀ x ∈ xs, k.wrap x = x
  | [], cs, h => by simp only [List.map_nil, RepAll] at h; exact ⟨by simpa using h, by simp⟩
  | x :: xs, cs, h => by
    simp only [List.map_cons, RepAll, Rep] at h
    obtain ⟨c1, c2, rfl, ⟨rfl, h2⟩, h3⟩ := h
    have ih := repInts_inv h3
    refine ⟨by simp [ih.1], fun y hy => ?_⟩
    rcases List.mem_cons.1 hy with rfl | hy
    · exact h2
    · exact ih.2 y hy

theorem eStore_sound (h : ARelB C s β S a w) {t : TypeId} {x y : AVal} {u v : Value} {K : AState → Prop} (hx : VRel w β S x u) (hy : VRel w β S y v)
    (hone : ∀ us, cellsV y = some us → us.all (oneV s.st) = true) (hq : eStore P s t x y K) : DoesU P C a w (Instr.storeAt t u v) K := by
  unfold eStore at hq
  split at hq
  · rename_i j off
    simp only [VRel] at hx
    obtain ⟨b, hb, rfl⟩ := hx
    split at hq
    · rename_i k e xs ho
      obtain ⟨bv, hβ0, hob⟩ := h.st.obj j _ (getO_mem ho)
      simp only [ORel] at hob
      split at hq
      · rename_i k' n
        obtain ⟨rfl, hsz, hlt, hK⟩ := hq
        obtain ⟨rfl, hwn⟩ := d_int hy
        obtain ⟨g, cap, cur, e1, hbg, hh, hi, hown'⟩ := ownsV_store hob.1 hlt (.int k' n)
        rw [hβ0, Option.bind_some, hbg] at hb; injection hb with hb; subst hb
        obtain ⟨c, hc⟩ := cell_of hh hi
        refine ⟨_, _, storeAt_run rfl rfl hsz hc (unfrozen hh), ⟨β, S, h.touch (o' := .row k' e (xs.set off n)) (getO_mem ho) hβ0 (by rw [hbg]; exact grown_set _ _ _ _) ?_⟩, hK⟩
        simp only [ORel]
        refine ⟨by simpa using hown', fun z hz => ?_, by simpa using hob.2.2⟩
        rcases List.mem_or_eq_of_mem_set hz with hz | rfl
        · exact hob.2.1 z hz
        · exact hwn
      · rename_i ds
        obtain ⟨ns, rfl, hsz, hpos, hle, hK⟩ := hq
        simp only [VRel, Rep] at hy
        obtain ⟨cs, hall, rfl⟩ := hy
        obtain ⟨rfl, hwn⟩ := repInts_inv hall
        obtain ⟨g, cap, cur, e1, hbg, hh, hi, _⟩ := ownsV_store hob.1 (show 0 < xs.length by omega) (.int k 0)
        rw [hβ0, Option.bind_some, hbg] at hb; injection hb with hb; subst hb
        have hcap : xs.length ≤ cur.size := by
          rcases hob.1 with ⟨A, e2, h0, _⟩ | ⟨g2, cap2, cur2, e2, hc, hh2, hle2, hm, hz, hl2, ht⟩
          · omega
          · rw [e1] at e2
            injection e2 with e2 e3 e4
            injection e2 with e2
            injection e2 with e2
            subst e2
            rw [hh] at hh2
            injection hh2 with hh2
            injection hh2 with hh2
            subst hh2
            omega
        have hfit : off + (ns.map (Value.int k)).length ≤ cur.size := by simp; omega
        obtain ⟨v, hv⟩ : ∃ v, v = packD (.agg (ns.map (D.int k))) (ns.map (Value.int k)) := ⟨_, rfl⟩
        have hcs : v.cells.toList = ns.map (Value.int k) := by rw [hv]; simp [packD, Value.cells]
        have hrun : (Instr.storeAt t (.pointer (some ⟨g, off, none⟩)) v).run P w = .ok () (w.setCells g off (ns.map (Value.int k))) := by
          rw [← hcs] at hfit ⊢
          simp only [Instr.storeAt, Instr.sureAddr, Sem.run_bind, Sem.run_pure, Result.andThen_ok, storeVar, run_sizeT hsz]
          rw [if_neg (by have := congrArg List.length hcs; simpa using this)]
          exact storeCells_run hh hfit (fun v hv => by
            rw [hcs] at hv
            obtain ⟨n, _, rfl⟩ := List.mem_map.1 hv
            rfl)
        rw [hv] at hrun
        obtain ⟨cur', hh', hl', hs'⟩ := heap_setCells (ns.map (Value.int k)) off w cur hh hfit
        refine ⟨_, _, hrun, ⟨β, S, h.touch (o' := .row k e (xs.take off ++ ns ++ xs.drop (off + ns.length))) (getO_mem ho) hβ0 (by rw [hbg]; exact grown_setCells _ _ _ _) ?_⟩, hK⟩
        simp only [ORel]
        refine ⟨?_, fun z hz => ?_, by have := hob.2.2; simp; omega⟩
        · have := ownsV_many hob.1 hbg (by simp) hh hh' hs' hl' (by simpa using hle)
          have el : (xs.take off ++ ns ++ xs.drop (off + ns.length)).length = xs.length := by simp; omega
          rw [el]
          simpa [List.map_take, List.map_drop] using this
        · rcases List.mem_append.1 hz with hz | hz
          · rcases List.mem_append.1 hz with hz | hz
            · exact hob.2.1 z (List.mem_of_mem_take hz)
            · exact hwn z hz
          · exact hob.2.1 z (List.mem_of_mem_drop hz)
      · exact hq.elim
    · rename_i e sz es ho
      obtain ⟨bv, hβ0, hob⟩ := h.st.obj j _ (getO_mem ho)
      simp only [ORel] at hob
      obtain ⟨vs, hown, hall, hsizes, hlim, _⟩ := hob
      split at hq
      · rename_i y' hd
        obtain ⟨rfl, hsz, hagg, hlt, hK⟩ := hq
        obtain ⟨cs, hr, rfl⟩ := dv_rel hy hd
        obtain ⟨uu, rfl, ho1, ho2⟩ := rep_oneCell hr hagg
        rw [packD_one hagg]
        obtain ⟨g, cap, cur, e1, hbg, hh, hi, hown'⟩ := ownsV_store hown hlt uu
        rw [hβ0, Option.bind_some, hbg] at hb; injection hb with hb; subst hb
        obtain ⟨c, hc⟩ := cell_of hh hi
        have hg : w.grownBy (w.setCell ⟨g, off, none⟩ uu) (blk bv) := by rw [hbg]; exact grown_set _ _ _ _
        refine ⟨_, _, storeAt_run ho1 ho2 hsz hc (unfrozen hh), ⟨β, S, h.touch (o' := .rowD e 1 (es.set off y')) (getO_mem ho) hβ0 hg ?_⟩, hK⟩
        have himm := h.imm hg (fun g e => ⟨j, _, getO_mem ho, by rw [hβ0]; exact e⟩)
        simp only [ORel]
        refine ⟨vs.set off uu, by simpa using hown', RepAll.keep himm _ _ (RepAll_set hsizes hall hr), fun z hz => ?_, by simpa using hlim, by omega⟩
        rcases List.mem_or_eq_of_mem_set hz with hz | rfl
        · exact hsizes z hz
        · have := Rep.size _ _ hr; simpa using this.symm
      · exact hq.elim
    · rename_i e cs ho
      obtain ⟨bv, hβ0, hob⟩ := h.st.obj j _ (getO_mem ho)
      simp only [ORel] at hob
      obtain ⟨g, vs, hbv, hh, hall⟩ := hob
      split at hq
      · rename_i us hus
        obtain ⟨hsz, hle, hK⟩ := hq
        have hone' := hone us hus
        have hcells := cellsV_rel h hy hus hone'
        have hlen := VAll.length _ _ hcells
        have hlen2 := VAll.length _ _ hall
        have hbg : blk bv = some g := by rw [hbv]; rfl
        rw [hβ0, Option.bind_some, hbg] at hb; injection hb with hb; subst hb
        have hfit : off + v.cells.toList.length ≤ vs.size := by rw [hlen]; simp at hlen2; omega
        have hrun : (Instr.storeAt t (.pointer (some ⟨g, off, none⟩)) v).run P w = .ok () (w.setCells g off v.cells.toList) := by
          simp only [Instr.storeAt, Instr.sureAddr, Sem.run_bind, Sem.run_pure, Result.andThen_ok, storeVar, run_sizeT hsz]
          rw [if_neg (by simpa using hlen)]
          exact storeCells_run hh hfit (oneV_cells h hcells hone')
        obtain ⟨cur', hh', hl', hs'⟩ := heap_setCells v.cells.toList off w vs hh hfit
        have hg : w.grownBy (w.setCells g off v.cells.toList) (blk bv) := by rw [hbg]; exact grown_setCells _ _ _ _
        refine ⟨_, _, hrun, ⟨β, S, h.touch (o' := .cell e (cs.take off ++ us ++ cs.drop (off + us.length))) (getO_mem ho) hβ0 hg ?_⟩, hK⟩
        have himm := h.imm hg (fun g e => ⟨j, _, getO_mem ho, by rw [hβ0]; exact e⟩)
        simp only [ORel]
        refine ⟨g, cur', hbv, hh', ?_⟩
        rw [hl', hlen]
        exact VAll.keep himm (fun _ _ e => e) _ _ (VAll.splice hall hcells off)
      · exact hq.elim
    · exact hq.elim
  · exact hq.elim

end

def allDv : List AVal → Option (List D)
  | [] => some []
  | x :: r => match dv x, allDv r with
    | some y, some ys => some (y :: ys)
    | _, _ => none

/-- A value as a deep one. -/
def qToD (P : Program) (x : AVal) (K : D → Prop) : Prop :=
  match x with
  | .d y => K y
  | .em y => K y
  | .nls y => K y
  | .ag t cs =>
    match allDv cs with
    | some ds => flatD (asm P 6 t ds) = ds ∧ (asm P 6 t ds).isAgg = true ∧ K (asm P 6 t ds)
    | none => False
  | _ => False

def qToDs (P : Program) : List AVal → (List D → Prop) → Prop
  | [], K => K []
  | x :: r, K => qToD P x fun y => qToDs P r fun ys => K (y :: ys)

/-- A constant's cell, as a slot holds it. -/
def zV : D → AVal
  | .ints k [] => .nls (.ints k [])
  | .sl n [] => .nls (.sl n [])
  | x => .d x

/-- A long array of integers: kept as a row. -/
def longArr (P : Program) (e : TypeId) : Option (IntKind × Nat) :=
  match P.underlying e with
  | some (.array n t) => (match P.underlying t with
    | some (.int k) => if 9 ≤ n then some (k, n) else none
    | _ => none)
  | _ => none

def eAlloc (P : Program) (s : AState) (e : TypeId) (K : AState → AVal → Prop) : Prop :=
  match P.info? e with
  | some i =>
    match i.zero with
    | some z =>
      (match longArr P e with
      | some (k, n) => z.cells.toList = List.replicate n (.int k 0) ∧ 0 < n ∧ n ≤ 1000000 ∧ (s.new (.row k e (List.replicate n 0)) fun s' j => K s' (.optr j 0))
      | none => repCB (zeroD P e) z.cells.toList = true ∧ (s.new (.cell e ((flatD (zeroD P e)).map zV)) fun s' j => K s' (.optr j 0)))
    | none => False
  | none => False

def eBox (s : AState) (e : TypeId) (x : AVal) (K : AState → AVal → Prop) : Prop :=
  match cellsV x with
  | some us => us.all (oneV s.st) = true ∧ (s.new (.cell e us) fun s' j => K s' (.optr j 0))
  | none => False

/-- What an append or a copy reads. -/
inductive Src where
  | i (k : IntKind) (xs : List Int)
  | r (sz : Nat) (es : List D)

def srcD : D → Option Src
  | .ints k xs => some (.i k xs)
  | .sl sz es => some (.r sz es)
  | _ => none

def srcOf (s : AState) : AVal → Option Src
  | .d x => srcD x
  | .em x => srcD x
  | .nls x => srcD x
  | .own j =>
    match getO s.st j with
    | some (.row k _ xs) => some (.i k xs)
    | some (.rowD _ sz es) => some (.r sz es)
    | _ => none
  | .view j off len =>
    match getO s.st j with
    | some (.row k _ xs) => if off + len ≤ xs.length then some (.i k ((xs.drop off).take len)) else none
    | _ => none
  | _ => none

/-- What is read, with what that asks. -/
def qSrc (s : AState) (x : AVal) (K : Src → Prop) : Prop :=
  match x with
  | .d (.ints k xs) => K (.i k xs)
  | .d (.sl sz es) => K (.r sz es)
  | .em (.ints k xs) => K (.i k xs)
  | .em (.sl sz es) => K (.r sz es)
  | .nls (.ints k xs) => K (.i k xs)
  | .nls (.sl sz es) => K (.r sz es)
  | .own j =>
    (match getO s.st j with
    | some (.row k _ xs) => K (.i k xs)
    | some (.rowD _ sz es) => K (.r sz es)
    | _ => False)
  | .view j off len =>
    (match getO s.st j with
    | some (.row k _ xs) => off + len ≤ xs.length ∧ K (.i k ((xs.drop off).take len))
    | _ => False)
  | _ => False

theorem qSrc_spec {s : AState} {x : AVal} {K : Src → Prop} (h : qSrc s x K) : ∃ src, srcOf s x = some src ∧ K src := by
  unfold qSrc at h
  split at h
  · exact ⟨_, rfl, h⟩
  · exact ⟨_, rfl, h⟩
  · exact ⟨_, rfl, h⟩
  · exact ⟨_, rfl, h⟩
  · exact ⟨_, rfl, h⟩
  · exact ⟨_, rfl, h⟩
  · split at h
    · rename_i e; exact ⟨_, by simp only [srcOf, e], h⟩
    · rename_i e; exact ⟨_, by simp only [srcOf, e], h⟩
    · exact h.elim
  · split at h
    · rename_i e; exact ⟨_, by simp only [srcOf, e]; rw [if_pos h.1], h.2⟩
    · exact h.elim
  · exact h.elim

def isEmp : AVal → Bool
  | .em _ | .nls _ => true
  | _ => false

def AState.moved : AState → Nat → Ob → AState
  | ⟨n, fr, st, nx⟩, j, o => ⟨n, fun t => dropV j (fr t), setOd j o st, nx⟩

def eAppend (P : Program) (m : Nat) (s : AState) (t t2 : TypeId) (x y : AVal) (K : AState → AVal → Prop) : Prop :=
  match P.underlying t, P.underlying t2 with
  | some (.slice e), some (.slice _) =>
    (match P.info? e with
    | some i =>
      (match i.zero with
      | some z =>
        z.cells.size = i.size ∧ 1 ≤ i.bytes ∧
        (qSrc s y fun src => match src with
        | .i k ys => i.size = 1 ∧
          (match x with
          | .em _ | .nls _ => ys.length * i.bytes ≤ 140737488355328 ∧ (s.new (.row k e ys) fun s' j => K s' (.own j))
          | .own j =>
            (match getO s.st j with
            | some (.row k' e' xs) => m ≤ j ∧ k' = k ∧ e' = e ∧ (xs.length + ys.length) * i.bytes ≤ 140737488355328 ∧
                K (s.moved j (.row k e (xs ++ ys))) (.own j)
            | _ => False)
          | _ => False)
        | .r sz ys => i.size = sz ∧ 0 < sz ∧ (ys.all fun d => d.size == sz) = true ∧
          (match x with
          | .em _ | .nls _ => ys.length * i.bytes ≤ 140737488355328 ∧ (s.new (.rowD e sz ys) fun s' j => K s' (.own j))
          | .own j =>
            (match getO s.st j with
            | some (.rowD e' sz' xs) => m ≤ j ∧ sz' = sz ∧ e' = e ∧ (xs.length + ys.length) * i.bytes ≤ 140737488355328 ∧
                K (s.moved j (.rowD e sz (xs ++ ys))) (.own j)
            | _ => False)
          | _ => False))
      | none => False)
    | none => False)
  | _, _ => False

def eCopy (P : Program) (s : AState) (t : TypeId) (x y : AVal) (K : AState → AVal → Prop) : Prop :=
  match P.underlying t with
  | some (.slice e) => szT P e = some 1 ∧
    (qSrc s y fun src => match src with
    | .i k ys =>
      (match x with
      | .own j =>
        (match getO s.st j with
        | some (.row k' e' xs) => k' = k ∧
            K (s.withSt (setO j (.row k e' (ys.take xs.length ++ xs.drop ys.length)) s.st)) (.d (.int .i64 (min ys.length xs.length : Nat)))
        | _ => False)
      | .view j off len =>
        (match getO s.st j with
        | some (.row k' e' xs) => k' = k ∧ off + len ≤ xs.length ∧
            K (s.withSt (setO j (.row k e' (xs.take off ++ ys.take len ++ xs.drop (off + min ys.length len))) s.st)) (.d (.int .i64 (min ys.length len : Nat)))
        | _ => False)
      | _ => False)
    | _ => False)
  | _ => False

section
variable {P : Program} {C : Ctx} {s : AState} {β : Nat → Option Value} {S : Nat → Prop} {a : Act} {w : World}

theorem VAll.split : ∀ {xs ys : List AVal} {vs : List Value}, VAll w β S (xs ++ ys) vs → ∃ a b, vs = a ++ b ∧ VAll w β S xs a ∧ VAll w β S ys b
  | [], ys, vs, h => ⟨[], vs, rfl, by simp only [VAll], h⟩
  | x :: xs, ys, vs, h => by
    simp only [List.cons_append, VAll] at h
    obtain ⟨v, r, rfl, h1, h2⟩ := h
    obtain ⟨a, b, rfl, h3, h4⟩ := VAll.split h2
    exact ⟨v :: a, b, rfl, by simp only [VAll]; exact ⟨v, a, rfl, h1, h3⟩, h4⟩

theorem rep_leaf {d : D} {cs : List Value} (h : VAll w β S ((flatD d).map .d) cs) (hd : d.isAgg = false) (hf : flatD d = [d]) : Rep w S d cs := by
  rw [hf] at h
  simp only [List.map_cons, List.map_nil, VAll, VRel] at h
  obtain ⟨v, r, rfl, ⟨cs', hr, rfl⟩, rfl⟩ := h
  obtain ⟨u, rfl, _⟩ := rep_oneCell hr hd
  rw [packD_one hd]
  exact hr

inductive All2 {α β : Type} (R : α → β → Prop) : List α → List β → Prop
  | nil : All2 R [] []
  | cons {x y xs ys} : R x y → All2 R xs ys → All2 R (x :: xs) (y :: ys)

mutual
theorem rep_of_flat : ∀ (d : D) (cs : List Value), VAll w β S ((flatD d).map .d) cs → Rep w S d cs
  | .agg ds, cs, h => by simp only [flatD] at h; simp only [Rep]; exact reps_of_flat ds cs h
  | .int k n, cs, h => rep_leaf h rfl rfl
  | .bool b, cs, h => rep_leaf h rfl rfl
  | .str xs, cs, h => rep_leaf h rfl rfl
  | .raw v, cs, h => rep_leaf h rfl rfl
  | .ints k xs, cs, h => rep_leaf h rfl rfl
  | .sl sz es, cs, h => rep_leaf h rfl rfl
  | .ptr d, cs, h => rep_leaf h rfl rfl
  | .nilp, cs, h => rep_leaf h rfl rfl
  | .fn f caps, cs, h => rep_leaf h rfl rfl
theorem reps_of_flat : ∀ (ds : List D) (cs : List Value), VAll w β S ((flatDs ds).map .d) cs → RepAll w S ds cs
  | [], cs, h => by simp only [flatDs, List.map_nil, VAll] at h; simp only [RepAll]; exact h
  | d :: ds, cs, h => by
    simp only [flatDs, List.map_append] at h
    obtain ⟨c1, c2, rfl, h1, h2⟩ := VAll.split h
    simp only [RepAll]
    exact ⟨c1, c2, rfl, rep_of_flat d c1 h1, reps_of_flat ds c2 h2⟩
end

theorem allDv_rel : ∀ {xs : List AVal} {ds : List D} {vs : List Value}, allDv xs = some ds → VAll w β S xs vs → VAll w β S (ds.map .d) vs
  | [], ds, vs, h, hv => by simp [allDv] at h; subst h; simpa using hv
  | x :: r, ds, vs, h, hv => by
    simp only [VAll] at hv
    obtain ⟨v, q, rfl, h1, h2⟩ := hv
    simp only [allDv] at h
    split at h
    · rename_i y ys e1 e2
      injection h with h; subst h
      simp only [List.map_cons, VAll]
      exact ⟨v, q, rfl, by simp only [VRel]; exact dv_rel h1 e1, allDv_rel e2 h2⟩
    · cases h

theorem qToD_sound {x : AVal} {v : Value} {K : D → Prop} (hx : VRel w β S x v) (hq : qToD P x K) : ∃ y cs, Rep w S y cs ∧ v = packD y cs ∧ K y := by
  unfold qToD at hq
  split at hq
  · obtain ⟨cs, h1, h2⟩ := dv_rel hx rfl; exact ⟨_, cs, h1, h2, hq⟩
  · obtain ⟨cs, h1, h2⟩ := dv_rel hx rfl; exact ⟨_, cs, h1, h2, hq⟩
  · obtain ⟨cs, h1, h2⟩ := dv_rel hx rfl; exact ⟨_, cs, h1, h2, hq⟩
  · rename_i t cs
    split at hq
    · rename_i ds hd
      obtain ⟨h1, h2, hK⟩ := hq
      simp only [VRel] at hx
      obtain ⟨vs, rfl, hv⟩ := hx
      have hall := allDv_rel hd hv
      rw [← h1] at hall
      refine ⟨asm P 6 t ds, vs.toList, rep_of_flat _ _ hall, ?_, hK⟩
      have agg : ∀ (y : D), y.isAgg = true → Value.agg vs = packD y vs.toList := fun y hy => by cases y <;> simp_all [D.isAgg, packD]
      exact agg _ h2
    · exact hq.elim
  · exact hq.elim

theorem qToDs_sound : ∀ {xs : List AVal} {vs : List Value} {K : List D → Prop}, VAll w β S xs vs → qToDs P xs K → ∃ ys css, All2 (fun y cs => Rep w S y cs) ys css ∧ vs = List.zipWith packD ys css ∧ K ys
  | [], vs, K, h, hq => by simp only [VAll] at h; subst h; exact ⟨[], [], .nil, rfl, hq⟩
  | x :: r, vs, K, h, hq => by
    simp only [VAll] at h
    obtain ⟨v, q, rfl, h1, h2⟩ := h
    simp only [qToDs] at hq
    obtain ⟨y, cs, e1, rfl, hq⟩ := qToD_sound h1 hq
    obtain ⟨ys, css, e3, rfl, hK⟩ := qToDs_sound h2 hq
    exact ⟨y :: ys, cs :: css, .cons e1 e3, rfl, hK⟩

end

section
variable {P : Program} {C : Ctx} {s : AState} {β : Nat → Option Value} {S : Nat → Prop} {a : Act} {w : World}

theorem zV_leaf {d : D} {cs : List Value} (h : RepC d cs) (hd : d.isAgg = false) (hf : flatD d = [d]) (hz : zV d = .d d) : VAll w β S ((flatD d).map zV) cs := by
  have hr := RepC.rep (w := w) (S := S) _ _ h
  obtain ⟨u, rfl, _⟩ := rep_oneCell hr hd
  rw [hf]
  simp only [List.map_cons, List.map_nil, hz, VAll, VRel]
  exact ⟨u, [], rfl, ⟨[u], hr, by rw [packD_one hd]; rfl⟩, rfl⟩

/-- A new block of cells. -/
theorem new_cell (h : ARelB C s β S a w) {e : TypeId} {us : List AVal} {cs : Array Value} (hc : VAll w β S us cs.toList) :
    ARelB C (s.newO (.cell e us)) (updO β s.nx (.pointer (some ⟨w.heap.size, 0, none⟩))) S a (w.alloc (.cells cs e)) := by
  refine h.fresh (grown_alloc _ _) (fun b hb => ?_) ?_
  · simp only [blk] at hb
    injection hb with hb; subst hb; simp
  · simp only [ORel]
    refine ⟨w.heap.size, cs, rfl, heap_alloc_new w _, VAll.keep (fun b hb => ⟨hb, Below.heap_alloc _ _ _ (h.st.inS b hb)⟩) (fun j u e => ?_) _ _ hc⟩
    unfold updO
    rw [if_neg]
    · exact e
    · rintro rfl; rw [h.nx _ (Nat.le_refl _)] at e; cases e

mutual
theorem zV_rel : ∀ (d : D) (cs : List Value), RepC d cs → VAll w β S ((flatD d).map zV) cs
  | .agg ds, cs, h => by simp only [RepC] at h; simp only [flatD]; exact zVs_rel ds cs h
  | .int k n, cs, h => zV_leaf h rfl rfl rfl
  | .bool b, cs, h => zV_leaf h rfl rfl rfl
  | .str xs, cs, h => zV_leaf h rfl rfl rfl
  | .raw v, cs, h => zV_leaf h rfl rfl rfl
  | .ints k xs, cs, h => by
    simp only [RepC] at h
    obtain ⟨rfl, rfl⟩ := h
    simp [flatD, zV, VAll, VRel, emptyD]
  | .sl sz es, cs, h => by
    simp only [RepC] at h
    obtain ⟨rfl, rfl⟩ := h
    simp [flatD, zV, VAll, VRel, emptyD]
  | .ptr d, cs, h => zV_leaf h rfl rfl rfl
  | .nilp, cs, h => zV_leaf h rfl rfl rfl
  | .fn f caps, cs, h => zV_leaf h rfl rfl rfl
theorem zVs_rel : ∀ (ds : List D) (cs : List Value), RepCs ds cs → VAll w β S ((flatDs ds).map zV) cs
  | [], cs, h => by simp only [RepCs] at h; simp only [flatDs, List.map_nil, VAll]; exact h
  | d :: ds, cs, h => by
    simp only [RepCs] at h
    have e1 := zV_rel d _ h.1
    have e2 := zVs_rel ds _ h.2
    simp only [flatDs, List.map_append]
    have := VAll.append e1 e2
    rwa [List.take_append_drop] at this
end

theorem eAlloc_sound (h : ARelB C s β S a w) {e : TypeId} {K : AState → AVal → Prop} (hq : eAlloc P s e K) : DoesX P C a w (Instr.alloc e true (.tuple #[])) K := by
  unfold eAlloc at hq
  split at hq
  · rename_i i hi
    split at hq
    · rename_i z hz
      split at hq
      · rename_i k n hla
        obtain ⟨hzc, hn0, hn1, hK⟩ := hq
        have hrun : (Instr.alloc e true (.tuple #[])).run P w = .ok (.pointer (some ⟨w.heap.size, 0, none⟩)) (w.alloc (.cells z.cells e)) := by
          simp only [Instr.alloc, Sem.run_bind, zeroValue, typeInfo, run_program, Result.andThen_ok, hi, Sem.run_pure, hz, newVar, newRow]
          rfl
        have hsz : z.cells.size = n := by
          have := congrArg List.length hzc
          simpa using this
        have hrow := h.alloc_row (k := k) (e := e) (xs := List.replicate n 0) (n := n) (cap := n) (cur := z.cells) (by simp) (Nat.le_refl _) (by unfold maxLen; omega) (by unfold LIM; omega) hsz
          (by rw [hzc]; simp) (fun x hx => by rw [List.eq_of_mem_replicate hx]; cases k <;> rfl)
        refine ⟨_, _, _, .optr s.nx 0, _, hrun, Ext.alloc _ _, S, hrow, ?_, hK⟩
        simp only [VRel, updO, if_true]
        refine ⟨w.heap.size, ?_, rfl⟩
        simp only [Option.bind_some, blk]
        rw [if_neg (by omega)]
      obtain ⟨hr, hK⟩ := hq
      have hrun : (Instr.alloc e true (.tuple #[])).run P w = .ok (.pointer (some ⟨w.heap.size, 0, none⟩)) (w.alloc (.cells z.cells e)) := by
        simp only [Instr.alloc, Sem.run_bind, zeroValue, typeInfo, run_program, Result.andThen_ok, hi, Sem.run_pure, hz, newVar, newRow]
        rfl
      refine ⟨_, _, _, .optr s.nx 0, updO β s.nx (.pointer (some ⟨w.heap.size, 0, none⟩)), hrun, Ext.alloc _ _, S, ?_, ?_, hK⟩
      · exact new_cell h (zV_rel _ _ (repCB_ok _ _ hr))
      · simp only [VRel, updO, if_true]; exact ⟨w.heap.size, rfl, rfl⟩
    · exact hq.elim
  · exact hq.elim

theorem eBox_sound (h : ARelB C s β S a w) {e : TypeId} {x : AVal} {v : Value} {K : AState → AVal → Prop} (hx : VRel w β S x v) (hq : eBox s e x K) : DoesX P C a w (Instr.box e v) K := by
  unfold eBox at hq
  split at hq
  · rename_i us hus
    obtain ⟨h1, hK⟩ := hq
    have hcells := cellsV_rel h hx hus h1
    have hrun : (Instr.box e v).run P w = .ok (.pointer (some ⟨w.heap.size, 0, none⟩)) (w.alloc (.cells v.cells e)) := by
      simp only [Instr.box, Sem.run_bind, newVar, newRow]
      rfl
    refine ⟨_, _, _, .optr s.nx 0, updO β s.nx (.pointer (some ⟨w.heap.size, 0, none⟩)), hrun, Ext.alloc _ _, S, new_cell h hcells, ?_, hK⟩
    simp only [VRel, updO, if_true]; exact ⟨w.heap.size, rfl, rfl⟩
  · exact hq.elim

/-! ### Appends -/
theorem ownsV_of {w : World} {base : Nat} {e : TypeId} {sz : Nat} {v : Value} {n : Nat} {xs : List Value} (h : w.ownsRow base e sz v n xs) : OwnsV w e sz v n xs := by
  obtain ⟨hl, h⟩ := h
  rcases h with ⟨e1, e2⟩ | ⟨g, cap, cur, e1, _, hh, hle, hm, hz, ht⟩
  · refine .inl ⟨none, e1, e2, ?_⟩
    subst e2; simpa using hl
  · by_cases hc : cap = 0
    · refine .inl ⟨some ⟨g, 0, none⟩, ?_, by omega, ?_⟩
      · rw [e1, hc]; congr 1; omega
      · have : n = 0 := by omega
        subst this; simpa using hl
    · exact .inr ⟨g, cap, cur, e1, by omega, hh, hle, hm, hz, hl, ht⟩

theorem append_zero_run {w : World} {t t2 ty e e2 : TypeId} {i : TypeInfo} (ht : P.underlying t = some (.slice e)) (ht2 : P.underlying t2 = some (.slice e2)) (hi : P.info? e = some i) {A A' : Option Addr} {n c c' : Nat} (hn : n ≤ c) :
    (Builtin.append_ #[t, t2] ty #[.slice A n c, .slice A' 0 c']).run P w = .ok (.slice A n c) w := by
  cases A' with
  | none => cases A <;> simp [Builtin.append_, run_underlying ht, run_underlying ht2, sizeOf, typeInfo, hi, Builtin.lenOf, Builtin.firstCells, hn, storeCells]
  | some a' =>
    have hl : ∀ w', (loadCells a' 0).run P w' = .ok #[] w' := fun w' => by simpa using run_loadCells_list (P := P) w' a' [] (by simp)
    cases A <;> simp [Builtin.append_, run_underlying ht, run_underlying ht2, sizeOf, typeInfo, hi, Builtin.lenOf, Builtin.firstCells, hn, storeCells, hl]

theorem append_types {w : World} {t t2 ty e e2 : TypeId} {i : TypeInfo} (ht : P.underlying t = some (.slice e)) (ht2 : P.underlying t2 = some (.slice e2)) (hi : P.info? e = some i) (A A' : Option Addr) (n c m c' : Nat) :
    (Builtin.append_ #[t, t2] ty #[.slice A n c, .slice A' m c']).run P w = (Builtin.append_ #[t, t] ty #[.slice A n c, .slice A' m c']).run P w := by
  simp [Builtin.append_, run_underlying ht, run_underlying ht2, sizeOf, typeInfo, hi, Builtin.lenOf]

/-- A slice without capacity: as nil. -/
theorem append_nocap {w : World} {t ty e : TypeId} {i : TypeInfo} (ht : P.underlying t = some (.slice e)) (hi : P.info? e = some i) {b : Addr} {A' : Option Addr} {m c' : Nat} (hm : 0 < m) (hb : m * i.bytes ≤ 140737488355328) :
    (Builtin.append_ #[t, t] ty #[.slice (some b) 0 0, .slice A' m c']).run P w = (Builtin.append_ #[t, t] ty #[.slice none 0 0, .slice A' m c']).run P w := by
  have hl : ∀ w', (loadCells b 0).run P w' = .ok #[] w' := fun w' => by simpa using run_loadCells_list (P := P) w' b [] (by simp)
  have hcap : Builtin.nextslicecap m 0 = m := by simp [Builtin.nextslicecap, hm]
  have hbig : ¬ (281474976710656 < m * i.bytes) := by omega
  have hm0 : m ≠ 0 := by omega
  simp [Builtin.append_, run_underlying ht, sizeOf, typeInfo, hi, Builtin.lenOf, Builtin.firstCells, hcap, hbig, hm0, hl]

/-- What an append comes to. -/
theorem append_run {t t2 ty e e2 : TypeId} {i : TypeInfo} {z : Value} (ht : P.underlying t = some (.slice e)) (ht2 : P.underlying t2 = some (.slice e2)) (hi : P.info? e = some i) (hz : i.zero = some z)
    (hzs : z.cells.size = i.size) (hsz : 0 < i.size) (hby : 1 ≤ i.bytes) {v : Value} {n : Nat} {xs : List Value} (hown : OwnsV w e i.size v n xs) {A' : Option Addr} {m c' : Nat} {news : List Value} (hl : news.length = m * i.size)
    (hne : 0 < m → ∃ b o, A' = some ⟨b, o, none⟩ ∧ Cells w b o news) (h1 : ∀ u ∈ news, u.oneCell' = true) (hbytes : (n + m) * i.bytes ≤ 140737488355328) :
    ∃ v' w', (Builtin.append_ #[t, t2] ty #[v, .slice A' m c']).run P w = .ok v' w' ∧ OwnsV w' e i.size v' (n + m) (xs ++ news) ∧ w.grownBy w' (blk v) ∧
      ∀ b, blk v' = some b → (blk v = some b ∨ (w.heap.size ≤ b ∧ b < w'.heap.size)) := by
  rcases Nat.eq_zero_or_pos m with h0 | h0
  · subst h0
    have : news = [] := List.eq_nil_of_length_eq_zero (by simpa using hl)
    subst this
    obtain ⟨A, c, rfl⟩ := ownsV_slice hown
    have hle : n ≤ c := by
      rcases hown with ⟨A, e1, e2, _⟩ | ⟨g, cap, cur, e1, _, _, hle, _⟩
      · omega
      · injection e1 with _ _ e3; omega
    exact ⟨_, _, append_zero_run ht ht2 hi hle, by simpa using hown, World.grownBy.refl w _, fun b hb => .inl hb⟩
  · obtain ⟨b, o, rfl, hc⟩ := hne h0
    have hnm : n + m ≤ 140737488355328 := Nat.le_trans (Nat.le_mul_of_pos_right _ hby) hbytes
    have hmax : n + m ≤ maxLen := by unfold maxLen; omega
    have core : ∀ {v : Value} {n : Nat} {xs : List Value}, w.ownsRow 0 e i.size v n xs → (n + m) * i.bytes ≤ 140737488355328 → n + m ≤ maxLen → ∃ v' w', (Builtin.append_ #[t, t] ty #[v, .slice (some ⟨b, o, none⟩) m c']).run P w = .ok v' w' ∧
        w'.ownsRow 0 e i.size v' (n + m) (xs ++ news) ∧ w.grownBy w' v.ownBlock ∧ (v'.ownBlock = v.ownBlock ∨ v'.ownBlock = some w.heap.size) := fun {v n xs} hrow hb hm' => by
      obtain ⟨v', w', h2, h3, h4, _, h6⟩ := run_append_own_at (P := P) w 0 t ty e i z i.size i.bytes ht hi hz rfl rfl hzs hsz v n xs hrow ⟨b, o, none⟩ m c' news hl (fun j u hu => by rw [addr_add]; exact hc j u hu) h1 hm' hb (Nat.zero_le _)
      exact ⟨v', w', h2, h3, h4, h6⟩
    have blkOf : ∀ {w' : World} {v' : Value} {k : Nat} {ys : List Value} {b : Nat}, w'.ownsRow 0 e i.size v' k ys → blk v' = some b → v'.ownBlock = some b ∧ b < w'.heap.size := fun {w' v' k ys b} hrow hb => by
      rcases hrow.2 with ⟨e1, _⟩ | ⟨g, cap, cur, e1, _, hh, _⟩
      · rw [e1] at hb; simp [blk] at hb
      · rw [e1] at hb ⊢
        simp only [blk] at hb
        split at hb
        · cases hb
        · injection hb with hb
          subst hb
          refine ⟨rfl, ?_⟩
          rcases Nat.lt_or_ge g w'.heap.size with h | h
          · exact h
          · rw [Array.getElem?_eq_none h] at hh; cases hh
    rcases hown with ⟨A, rfl, rfl, rfl⟩ | ⟨g, cap, cur, rfl, hcp, hh, hle, hm, hzz, hxl, htk⟩
    · obtain ⟨v', w', h2, h3, h4, h6⟩ := core (v := .slice none 0 0) (n := 0) (xs := []) ⟨by simp, .inl ⟨rfl, rfl⟩⟩ hbytes hmax
      refine ⟨v', w', ?_, ownsV_of h3, ?_, fun bb hbb => ?_⟩
      · rw [append_types ht ht2 hi]
        cases A with
        | none => exact h2
        | some A => rw [append_nocap ht hi h0 (by simpa using hbytes)]; exact h2
      · have : blk (.slice A 0 0) = none := by cases A <;> simp [blk]
        rw [this]; exact h4
      · obtain ⟨e1, e2⟩ := blkOf h3 hbb
        rcases h6 with h6 | h6
        · rw [e1] at h6; simp [Value.ownBlock] at h6
        · rw [e1] at h6; injection h6 with h6; subst h6; exact .inr ⟨Nat.le_refl _, e2⟩
    · obtain ⟨v', w', h2, h3, h4, h6⟩ := core (v := .slice (some ⟨g, 0, none⟩) n cap) (n := n) (xs := xs) ⟨hxl, .inr ⟨g, cap, cur, rfl, Nat.zero_le _, hh, hle, hm, hzz, htk⟩⟩ hbytes hmax
      have hbv : blk (.slice (some ⟨g, 0, none⟩) n cap) = some g := by simp [blk]; omega
      refine ⟨v', w', by rw [append_types ht ht2 hi]; exact h2, ownsV_of h3, by rw [hbv]; exact h4, fun bb hbb => ?_⟩
      obtain ⟨e1, e2⟩ := blkOf h3 hbb
      rcases h6 with h6 | h6
      · rw [e1] at h6; exact .inl (by rw [hbv]; exact h6.symm)
      · rw [e1] at h6; injection h6 with h6; subst h6; exact .inr ⟨Nat.le_refl _, e2⟩

end

section
variable {P : Program} {C : Ctx} {s : AState} {β : Nat → Option Value} {S : Nat → Prop} {a : Act} {w : World}

theorem leaf_ones {d : D} {cs : List Value} (h : Rep w S d cs) (hd : d.isAgg = false) : ∀ v ∈ cs, v.oneCell' = true := by
  obtain ⟨u, rfl, h1, _⟩ := rep_oneCell h hd
  intro v hv
  simp at hv; subst hv; exact h1

mutual
theorem rep_ones : ∀ (d : D) (cs : List Value), Rep w S d cs → ∀ v ∈ cs, v.oneCell' = true
  | .agg ds, cs, h => by simp only [Rep] at h; exact reps_ones ds cs h
  | .int k n, cs, h => leaf_ones h rfl
  | .bool b, cs, h => leaf_ones h rfl
  | .str xs, cs, h => leaf_ones h rfl
  | .raw v, cs, h => leaf_ones h rfl
  | .ints k xs, cs, h => leaf_ones h rfl
  | .sl sz es, cs, h => leaf_ones h rfl
  | .ptr d, cs, h => leaf_ones h rfl
  | .nilp, cs, h => leaf_ones h rfl
  | .fn f caps, cs, h => leaf_ones h rfl
theorem reps_ones : ∀ (ds : List D) (cs : List Value), RepAll w S ds cs → ∀ v ∈ cs, v.oneCell' = true
  | [], cs, h => by simp only [RepAll] at h; subst h; simp
  | d :: ds, cs, h => by
    simp only [RepAll] at h
    obtain ⟨c1, c2, rfl, h1, h2⟩ := h
    intro v hv
    rcases List.mem_append.1 hv with hv | hv
    · exact rep_ones d c1 h1 v hv
    · exact reps_ones ds c2 h2 v hv
end

theorem Cells.append {b o : Nat} {xs ys : List Value} (h1 : Cells w b o xs) (h2 : Cells w b (o + xs.length) ys) : Cells w b o (xs ++ ys) := by
  intro i v hv
  rcases Nat.lt_or_ge i xs.length with h | h
  · rw [List.getElem?_append_left h] at hv; exact h1 i v hv
  · rw [List.getElem?_append_right h] at hv
    have := h2 (i - xs.length) v hv
    rwa [show o + xs.length + (i - xs.length) = o + i by omega] at this

theorem RepRow.cells {sz : Nat} : ∀ (es : List D) (b o : Nat), RepRow w S sz es b o → ∃ vs, Cells w b o vs ∧ RepAll w S es vs ∧ vs.length = es.length * sz ∧ ∀ e ∈ es, e.size = sz
  | [], b, o, _ => ⟨[], fun i v h => by simp at h, by simp only [RepAll], by simp, by simp⟩
  | e :: es, b, o, h => by
    simp only [RepRow] at h
    obtain ⟨⟨vs, hl, hc, hr⟩, h2⟩ := h
    obtain ⟨ws, h3, h4, h5, h6⟩ := RepRow.cells es b (o + sz) h2
    refine ⟨vs ++ ws, hc.append (by rw [hl]; exact h3), ?_, ?_, fun x hx => ?_⟩
    · simp only [RepAll]; exact ⟨vs, ws, rfl, hr, h4⟩
    · simp [hl, h5, Nat.add_mul]; omega
    · rcases List.mem_cons.1 hx with rfl | hx
      · exact (Rep.size _ _ hr).symm.trans hl
      · exact h6 x hx

/-- What a source stands for. -/
def SrcRel (w : World) (S : Nat → Prop) (v : Value) : Src → Prop
  | .i k xs => ∃ A c, v = .slice A xs.length c ∧ xs.length ≤ LIM ∧ (∀ x ∈ xs, k.wrap x = x) ∧ (0 < xs.length → ∃ b o, A = some ⟨b, o, none⟩ ∧ Cells w b o (xs.map (Value.int k)))
  | .r sz es => ∃ A c, v = .slice A es.length c ∧ es.length ≤ LIM ∧ ∃ vs, RepAll w S es vs ∧ vs.length = es.length * sz ∧ (0 < es.length → (∃ b o, A = some ⟨b, o, none⟩ ∧ Cells w b o vs) ∧ ∀ e ∈ es, e.size = sz)

theorem srcD_rel {x : D} {cs : List Value} {src : Src} (h : Rep w S x cs) (hs : srcD x = some src) : SrcRel w S (packD x cs) src := by
  cases x <;> simp only [srcD] at hs
  case ints k xs =>
    injection hs with hs; subst hs
    simp only [Rep] at h
    obtain ⟨A, c, rfl, _, hl, hwf, hne⟩ := h
    refine ⟨A, c, rfl, hl, hwf, fun hp => ?_⟩
    obtain ⟨b, o, e, _, hc⟩ := hne (by intro e; subst e; simp at hp)
    exact ⟨b, o, e, hc⟩
  case sl sz es =>
    injection hs with hs; subst hs
    simp only [Rep] at h
    obtain ⟨A, c, rfl, _, hl, hne⟩ := h
    by_cases he : es = []
    · subst he
      exact ⟨A, c, rfl, by simp, [], by simp only [RepAll], by simp, fun hp => by simp at hp⟩
    · obtain ⟨b, o, e, _, hrow⟩ := hne he
      obtain ⟨vs, h1, h2, h3, h4⟩ := RepRow.cells es b o hrow
      exact ⟨A, c, rfl, hl, vs, h2, h3, fun _ => ⟨⟨b, o, e, h1⟩, h4⟩⟩
  all_goals cases hs

theorem srcOf_rel (h : ARelB C s β S a w) {x : AVal} {v : Value} {src : Src} (hx : VRel w β S x v) (hs : srcOf s x = some src) : SrcRel w S v src := by
  unfold srcOf at hs
  split at hs
  · obtain ⟨cs, h1, rfl⟩ := dv_rel hx rfl; exact srcD_rel h1 hs
  · obtain ⟨cs, h1, rfl⟩ := dv_rel hx rfl; exact srcD_rel h1 hs
  · obtain ⟨cs, h1, rfl⟩ := dv_rel hx rfl; exact srcD_rel h1 hs
  · rename_i j
    split at hs
    · rename_i k t xs ho
      injection hs with hs; subst hs
      obtain ⟨bv, hβ0, hob⟩ := h.st.obj j _ (getO_mem ho)
      simp only [ORel] at hob
      simp only [VRel] at hx
      rw [hβ0] at hx; injection hx with hx; subst hx
      obtain ⟨A, c, e⟩ := ownsV_slice hob.1
      refine ⟨A, c, e, hob.2.2, hob.2.1, fun hp => ?_⟩
      obtain ⟨g, cap, e1, _, _, hc, _⟩ := ownsV_cell hob.1 hp
      rw [e] at e1
      injection e1 with e1 _ _
      exact ⟨g, 0, e1, hc⟩
    · rename_i t sz es ho
      injection hs with hs; subst hs
      obtain ⟨bv, hβ0, hob⟩ := h.st.obj j _ (getO_mem ho)
      simp only [ORel] at hob
      obtain ⟨vs, hown, hall, hsizes, hlim, _⟩ := hob
      simp only [VRel] at hx
      rw [hβ0] at hx; injection hx with hx; subst hx
      obtain ⟨A, c, e⟩ := ownsV_slice hown
      refine ⟨A, c, e, hlim, vs, hall, ?_, fun hp => ⟨?_, hsizes⟩⟩
      · rcases hown with ⟨_, _, e2, e3⟩ | ⟨g, cap, cur, _, _, _, _, _, _, hl, _⟩
        · rw [e2, e3]; simp
        · exact hl
      · obtain ⟨g, cap, e1, _, _, hc, _⟩ := ownsV_cell hown hp
        rw [e] at e1
        injection e1 with e1 _ _
        exact ⟨g, 0, e1, hc⟩
    · cases hs
  · rename_i j off len
    split at hs
    · rename_i k t xs ho
      split at hs
      · rename_i hle
        injection hs with hs; subst hs
        obtain ⟨bv, hβ0, hob⟩ := h.st.obj j _ (getO_mem ho)
        simp only [ORel] at hob
        simp only [VRel] at hx
        obtain ⟨A, c, rfl, _, hA⟩ := hx
        have hlen : ((xs.drop off).take len).length = len := by simp; omega
        refine ⟨A, c, by rw [hlen], by rw [hlen]; have := hob.2.2; omega, fun z hz => hob.2.1 z (List.mem_of_mem_drop (List.mem_of_mem_take hz)), fun hp => ?_⟩
        rw [hlen] at hp
        obtain ⟨b, hb, rfl⟩ := hA hp
        obtain ⟨g, cap, e1, hbg, _, hc, _⟩ := ownsV_cell hob.1 (by omega)
        rw [hβ0, Option.bind_some, hbg] at hb; injection hb with hb; subst hb
        refine ⟨g, off, rfl, ?_⟩
        have := hc.sub off len
        simpa [List.map_take, List.map_drop] using this
      · cases hs
    · cases hs
  · cases hs

theorem ones_ints (k : IntKind) (xs : List Int) : ∀ u ∈ xs.map (Value.int k), u.oneCell' = true := by
  intro u hu
  obtain ⟨n, _, rfl⟩ := List.mem_map.1 hu
  rfl

theorem RepAll.append : ∀ {xs ys : List D} {as bs : List Value}, RepAll w S xs as → RepAll w S ys bs → RepAll w S (xs ++ ys) (as ++ bs)
  | [], ys, as, bs, h1, h2 => by simp only [RepAll] at h1; subst h1; simpa using h2
  | x :: xs, ys, as, bs, h1, h2 => by
    simp only [RepAll] at h1
    obtain ⟨c1, c2, rfl, h3, h4⟩ := h1
    simp only [List.cons_append, RepAll]
    exact ⟨c1, c2 ++ bs, by simp, h3, RepAll.append h4 h2⟩

theorem emp_value {x : AVal} {v : Value} (hx : VRel w β S x v) (he : isEmp x = true) : ∃ A, v = .slice A 0 0 := by
  cases x <;> simp [isEmp] at he
  · simp only [VRel] at hx; exact hx.1
  · simp only [VRel] at hx; exact ⟨none, hx.1⟩

theorem blk_empty (A : Option Addr) : blk (.slice A 0 0) = none := by cases A <;> simp [blk]

theorem eAppend_sound (h : ARelB C s β S a w) {t t2 ty : TypeId} {x y : AVal} {u v : Value} {K : AState → AVal → Prop} (hx : VRel w β S x u) (hy : VRel w β S y v) (hq : eAppend P C.m s t t2 x y K) :
    Does P C a w (Builtin.append_ #[t, t2] ty #[u, v]) K := by
  unfold eAppend at hq
  split at hq
  · rename_i e e2 ht ht2
    split at hq
    · rename_i i hi
      split at hq
      · rename_i z hz
        obtain ⟨hzs, hby, hq⟩ := hq
        replace hq := qSrc_spec hq; obtain ⟨src, hsrc, hq⟩ := hq
        cases src with
        | i k ys =>
          obtain ⟨hsz1, hq⟩ := hq
          obtain ⟨A, c, rfl, hlim, hwf, hne⟩ := srcOf_rel h hy hsrc
          have fresh : ∀ {A0 : Option Addr}, u = .slice A0 0 0 → ys.length * i.bytes ≤ 140737488355328 → K (s.newO (.row k e ys)) (.own s.nx) → Does P C a w (Builtin.append_ #[t, t2] ty #[u, .slice A ys.length c]) K := fun {A0} e0 hb hK => by
            subst e0
            obtain ⟨v', w', h1, h2, h3, h4⟩ := append_run (ty := ty) (w := w) ht ht2 hi hz hzs (by omega) hby (v := .slice A0 0 0) (n := 0) (xs := []) (.inl ⟨A0, rfl, rfl, rfl⟩) (A' := A) (m := ys.length) (c' := c) (news := ys.map (Value.int k)) (by simp [hsz1]) hne (ones_ints k ys) (by simpa using hb)
            rw [blk_empty] at h3 h4
            refine ⟨v', w', _, .own s.nx, updO β s.nx v', h1, S, h.fresh h3 (fun b hb => by rcases h4 b hb with h | h; cases h; exact h) ?_, by simp only [VRel, updO, if_true], hK⟩
            simp only [ORel]
            rw [hsz1] at h2
            exact ⟨by simpa using h2, hwf, hlim⟩
          split at hq
          · obtain ⟨A0, e0⟩ := emp_value hx rfl; exact fresh e0 hq.1 hq.2
          · obtain ⟨A0, e0⟩ := emp_value hx rfl; exact fresh e0 hq.1 hq.2
          · rename_i j
            split at hq
            · rename_i k' e' xs ho
              obtain ⟨hjm, rfl, rfl, hb, hK⟩ := hq
              obtain ⟨bv, hβ0, hob⟩ := h.st.obj j _ (getO_mem ho)
              simp only [ORel] at hob
              simp only [VRel] at hx
              rw [hβ0] at hx; injection hx with hx; subst hx
              obtain ⟨v', w', h1, h2, h3, h4⟩ := append_run (ty := ty) (w := w) ht ht2 hi hz hzs (by omega) hby (by rw [hsz1]; exact hob.1) (A' := A) (m := ys.length) (c' := c) (news := ys.map (Value.int k')) (by simp [hsz1]) hne (ones_ints k' ys) hb
              refine ⟨v', w', _, .own j, updO β j v', h1, S, h.move hjm (o' := .row k' e' (xs ++ ys)) (getO_mem ho) hβ0 h3 h4 ?_, by simp only [VRel, updO, if_true], hK⟩
              simp only [ORel]
              rw [hsz1] at h2
              refine ⟨by simpa using h2, fun z hz => ?_, ?_⟩
              · rcases List.mem_append.1 hz with hz | hz
                · exact hob.2.1 z hz
                · exact hwf z hz
              · have : xs.length + ys.length ≤ 140737488355328 := Nat.le_trans (Nat.le_mul_of_pos_right _ hby) hb
                simpa [LIM] using this
            · exact hq.elim
          · exact hq.elim
        | r sz ys =>
          obtain ⟨hszz, hpos, hys0, hq⟩ := hq
          have hys : ∀ d ∈ ys, d.size = sz := fun y hy => by simpa using List.all_eq_true.1 hys0 y hy
          obtain ⟨A, c, rfl, hlim, vs, hall, hvl, hne⟩ := srcOf_rel h hy hsrc
          subst hszz
          have fresh : ∀ {A0 : Option Addr}, u = .slice A0 0 0 → ys.length * i.bytes ≤ 140737488355328 → K (s.newO (.rowD e i.size ys)) (.own s.nx) → Does P C a w (Builtin.append_ #[t, t2] ty #[u, .slice A ys.length c]) K := fun {A0} e0 hb hK => by
            subst e0
            obtain ⟨v', w', h1, h2, h3, h4⟩ := append_run (ty := ty) (w := w) ht ht2 hi hz hzs hpos hby (v := .slice A0 0 0) (n := 0) (xs := []) (.inl ⟨A0, rfl, rfl, rfl⟩) (A' := A) (m := ys.length) (c' := c) (news := vs) hvl (fun hp => (hne hp).1) (reps_ones _ _ hall) (by simpa using hb)
            rw [blk_empty] at h3 h4
            refine ⟨v', w', _, .own s.nx, updO β s.nx v', h1, S, h.fresh h3 (fun b hb => by rcases h4 b hb with h | h; cases h; exact h) ?_, by simp only [VRel, updO, if_true], hK⟩
            simp only [ORel]
            exact ⟨vs, by simpa using h2, RepAll.keep (h.imm h3 (by simp)) _ _ hall, hys, hlim, hpos⟩
          split at hq
          · obtain ⟨A0, e0⟩ := emp_value hx rfl; exact fresh e0 hq.1 hq.2
          · obtain ⟨A0, e0⟩ := emp_value hx rfl; exact fresh e0 hq.1 hq.2
          · rename_i j
            split at hq
            · rename_i e' sz' xs ho
              obtain ⟨hjm, rfl, rfl, hb, hK⟩ := hq
              obtain ⟨bv, hβ0, hob⟩ := h.st.obj j _ (getO_mem ho)
              simp only [ORel] at hob
              obtain ⟨us, hown, hall0, hsizes, hlim0, _⟩ := hob
              simp only [VRel] at hx
              rw [hβ0] at hx; injection hx with hx; subst hx
              obtain ⟨v', w', h1, h2, h3, h4⟩ := append_run (ty := ty) (w := w) ht ht2 hi hz hzs hpos hby hown (A' := A) (m := ys.length) (c' := c) (news := vs) hvl (fun hp => (hne hp).1) (reps_ones _ _ hall) hb
              have himm := h.imm h3 (fun g e => ⟨j, _, getO_mem ho, by rw [hβ0]; exact e⟩)
              refine ⟨v', w', _, .own j, updO β j v', h1, S, h.move hjm (o' := .rowD e' i.size (xs ++ ys)) (getO_mem ho) hβ0 h3 h4 ?_, by simp only [VRel, updO, if_true], hK⟩
              simp only [ORel]
              refine ⟨us ++ vs, by simpa using h2, RepAll.append (RepAll.keep himm _ _ hall0) (RepAll.keep himm _ _ hall), fun z hz => ?_, ?_, hpos⟩
              · rcases List.mem_append.1 hz with hz | hz
                · exact hsizes z hz
                · exact hys z hz
              · have : xs.length + ys.length ≤ 140737488355328 := Nat.le_trans (Nat.le_mul_of_pos_right _ hby) hb
                simpa [LIM] using this
            · exact hq.elim
          · exact hq.elim
      · exact hq.elim
    · exact hq.elim
  · exact hq.elim

theorem splice_take (cur us : List Value) (o n : Nat) (h : o + us.length ≤ n) (hn : n ≤ cur.length) : (cur.take o ++ us ++ cur.drop (o + us.length)).take n = (cur.take n).take o ++ us ++ (cur.take n).drop (o + us.length) := by
  apply List.ext_getElem?
  intro i
  simp only [List.getElem?_take, List.getElem?_append, List.getElem?_drop, List.length_append, List.length_take]
  by_cases h1 : i < n
  · simp only [h1, if_true]
    by_cases h2 : i < min o cur.length + us.length
    · have h2' : i < min o (min n cur.length) + us.length := by omega
      simp only [h2, h2', if_true]
      by_cases h3 : i < min o cur.length
      · have h3' : i < min o (min n cur.length) := by omega
        simp only [h3, h3', if_true]
      · have h3' : ¬ i < min o (min n cur.length) := by omega
        simp only [h3, h3', if_false]
        congr 1; omega
    · have h2' : ¬ i < min o (min n cur.length) + us.length := by omega
      simp only [h2, h2', if_false]
      have e1 : o + us.length + (i - (min o cur.length + us.length)) = i := by omega
      have e2 : o + us.length + (i - (min o (min n cur.length) + us.length)) = i := by omega
      simp [e1, e2, h1]
  · have h2' : ¬ i < min o (min n cur.length) + us.length := by omega
    have e2 : o + us.length + (i - (min o (min n cur.length) + us.length)) = i := by omega
    simp [h1, h2', e2]

theorem ownsV_setCells {w : World} {t : TypeId} {v : Value} {n : Nat} {vs : List Value} (h : OwnsV w t 1 v n vs) {us : List Value} {o : Nat} (hle : o + us.length ≤ n) (hn : 0 < n) :
    ∃ g cap cur, v = .slice (some ⟨g, 0, none⟩) n cap ∧ blk v = some g ∧ w.heap[g]? = some (.cells cur t (0, 0)) ∧ o + us.length ≤ cur.size ∧ OwnsV (w.setCells g o us) t 1 v n (vs.take o ++ us ++ vs.drop (o + us.length)) := by
  rcases h with ⟨A, _, h0, _⟩ | ⟨g, cap, cur, e, hc, hh, hl, hm, hz, hvl, ht⟩
  · omega
  · obtain ⟨cur', h1, h2, h3⟩ := heap_setCells us o w cur hh (by omega)
    refine ⟨g, cap, cur, e, by rw [e]; simp [blk]; omega, hh, by omega, .inr ⟨g, cap, cur', e, hc, h1, hl, hm, by rw [h3]; exact hz, ?_, ?_⟩⟩
    · simp at hvl ⊢; omega
    · rw [Nat.mul_one] at ht ⊢
      rw [h2, splice_take _ _ _ _ hle (by simp; omega), ht]

theorem eCopy_sound (h : ARelB C s β S a w) {t t2 ty : TypeId} {x y : AVal} {u v : Value} {K : AState → AVal → Prop} (hx : VRel w β S x u) (hy : VRel w β S y v) (hq : eCopy P s t x y K) :
    Does P C a w (Builtin.copy_ #[t, t2] ty #[u, v]) K := by
  unfold eCopy at hq
  split at hq
  · rename_i e ht
    obtain ⟨hsz, hq⟩ := hq
    have hsz' : (P.info? e).map (·.size) = some 1 := hsz
    replace hq := qSrc_spec hq; obtain ⟨src, hsrc, hq⟩ := hq
    cases src with
    | i k ys =>
      dsimp only at hq
      obtain ⟨A, c, rfl, hlim, hwf, hne⟩ := srcOf_rel h hy hsrc
      -- a copy into a stretch of an owned row
      have core : ∀ {j : Nat} {e' : TypeId} {xs : List Int} {off len : Nat} {A' : Option Addr} {c' : Nat}, getO s.st j = some (.row k e' xs) → off + len ≤ xs.length → (0 < len → ∃ b, (β j).bind blk = some b ∧ A' = some ⟨b, off, none⟩) →
          K (s.withSt (setO j (.row k e' (xs.take off ++ ys.take len ++ xs.drop (off + min ys.length len))) s.st)) (.d (.int .i64 (min ys.length len : Nat))) →
          Does P C a w (Builtin.copy_ #[t, t2] ty #[.slice A' len c', .slice A ys.length c]) K := fun {j e' xs off len A' c'} ho hle hA hK => by
        obtain ⟨bv, hβ0, hob⟩ := h.st.obj j _ (getO_mem ho)
        simp only [ORel] at hob
        have hmin : IntKind.i64.wrap ((min ys.length len : Nat) : Int) = (min ys.length len : Nat) := len_wrap (by omega)
        rcases Nat.eq_zero_or_pos (min ys.length len) with h0 | h0
        · have hrun := run_copy_none (P := P) w t t2 ty e A' A len c' ys.length c ht hsz' h0
          have e0 : xs.take off ++ ys.take len ++ xs.drop (off + min ys.length len) = xs := by
            have : ys.take len = [] := by
              apply List.eq_nil_of_length_eq_zero; rw [List.length_take, Nat.min_comm]; exact h0
            rw [this, h0]; simp
          rw [e0] at hK
          refine ⟨.int .i64 ((min ys.length len : Nat) : Int), w, _, _, β, by rw [h0]; exact hrun, S, ?_, vrel_int hmin, hK⟩
          exact h.touch (getO_mem ho) hβ0 (World.grownBy.refl w _) (by simp only [ORel]; exact hob)
        · obtain ⟨b, hb, rfl⟩ := hA (by omega)
          obtain ⟨b2, o2, rfl, hc⟩ := hne (by omega)
          have hul : ((ys.take len).map (Value.int k)).length = min ys.length len := by simp; omega
          obtain ⟨g, cap, cur, e1, hbg, hh, hfit, hown'⟩ := ownsV_setCells (us := (ys.take len).map (Value.int k)) (o := off) hob.1 (by rw [hul]; omega) (by omega)
          rw [hβ0, Option.bind_some, hbg] at hb; injection hb with hb; subst hb
          have hcells : ∀ j v, ((ys.take len).map (Value.int k))[j]? = some v → w.cell? ((⟨b2, o2, none⟩ : Addr).add j) = some v := fun j v hv => by
            rw [addr_add]
            refine hc j v ?_
            have hj : j < len := by
              have := (List.getElem?_eq_some_iff.1 hv).1
              simp at this; omega
            rw [List.map_take, List.getElem?_take_of_lt hj] at hv
            exact hv
          have hrun := run_copy_cells (P := P) w t t2 ty e g off len c' ⟨b2, o2, none⟩ ys.length c ((ys.take len).map (Value.int k)) ht hsz' (by rw [hul]) hcells
            (fun j hj => by obtain ⟨u, hu⟩ := cell_of hh (i := off + j) (by omega); rw [hu]; rfl) (fun j _ => unfrozen hh) (ones_ints k _)
          rw [hul] at hrun
          refine ⟨.int .i64 ((min ys.length len : Nat) : Int), _, _, _, β, hrun, S, h.touch (o' := .row k e' (xs.take off ++ ys.take len ++ xs.drop (off + min ys.length len))) (getO_mem ho) hβ0 (by rw [hbg]; exact grown_setCells _ _ _ _) ?_, vrel_int hmin, hK⟩
          have hxl : (xs.take off ++ ys.take len ++ xs.drop (off + min ys.length len)).length = xs.length := by simp; omega
          simp only [ORel]
          refine ⟨?_, fun z hz => ?_, by rw [hxl]; exact hob.2.2⟩
          · rw [hxl]
            rw [hul] at hown'
            simpa [List.map_take, List.map_drop] using hown'
          · simp only [List.append_assoc, List.mem_append] at hz
            rcases hz with hz | hz | hz
            · exact hob.2.1 z (List.mem_of_mem_take hz)
            · exact hwf z (List.mem_of_mem_take hz)
            · exact hob.2.1 z (List.mem_of_mem_drop hz)
      split at hq
      · rename_i j
        split at hq
        · rename_i k' e' xs ho
          obtain ⟨rfl, hK⟩ := hq
          obtain ⟨bv, hβ0, hob⟩ := h.st.obj j _ (getO_mem ho)
          simp only [ORel] at hob
          simp only [VRel] at hx
          rw [hβ0] at hx; injection hx with hx; subst hx
          obtain ⟨A', c', e1⟩ := ownsV_slice hob.1
          rw [e1]
          refine core (off := 0) ho (by omega) (fun hp => ?_) ?_
          · obtain ⟨g, cap, e2, hbg, _⟩ := ownsV_cell hob.1 hp
            rw [e1] at e2
            injection e2 with e2 _ _
            exact ⟨g, by rw [hβ0]; exact hbg, e2⟩
          · have e0 : xs.take 0 ++ ys.take xs.length ++ xs.drop (0 + min ys.length xs.length) = ys.take xs.length ++ xs.drop ys.length := by
              simp only [List.take_zero, List.nil_append, Nat.zero_add]
              rcases Nat.le_total ys.length xs.length with hh | hh
              · rw [Nat.min_eq_left hh]
              · rw [Nat.min_eq_right hh, List.drop_eq_nil_of_le hh, List.drop_eq_nil_of_le (Nat.le_refl _)]
            rw [e0]; exact hK
        · exact hq.elim
      · rename_i j off len
        split at hq
        · rename_i k' e' xs ho
          obtain ⟨rfl, hle, hK⟩ := hq
          simp only [VRel] at hx
          obtain ⟨A', c', rfl, _, hA⟩ := hx
          exact core ho hle hA hK
        · exact hq.elim
      · exact hq.elim
    | r sz ys => exact hq.elim
  · exact hq.elim

end

def eBuildSlice (P : Program) (s : AState) (t : TypeId) (len : Nat) (ix : List Nat) (xs : List AVal) (K : AState → AVal → Prop) : Prop :=
  match P.underlying t with
  | some (.slice e) =>
    (match P.info? e with
    | some i => i.zero.isSome = true ∧ ix = List.range xs.length ∧ len = xs.length ∧ 0 < i.size ∧ len * i.size ≤ 16777216 ∧
      (match P.underlying e with
      | some (.int k) => i.size = 1 ∧ (match (allDv xs).bind (intsOf k) with
        | some ns => (s.new (.row k e ns) fun s' j => K s' (.own j))
        | none => False)
      | _ => qToDs P xs fun ys => (ys.all fun y => y.size == i.size) = true ∧ (s.new (.rowD e i.size ys) fun s' j => K s' (.own j)))
    | none => False)
  | _ => False

/-- A struct's cells, part by part. -/
def eFill (P : Program) (s : AState) (fs : List Field) : List (Nat × AVal) → List AVal → (List AVal → Prop) → Prop
  | [], base, K => K base
  | (i, x) :: r, base, K =>
    match fs[i]?, cellsV x with
    | some f, some us => szT P f.type = some us.length ∧ us.all (oneV s.st) = true ∧ f.offset + us.length ≤ base.length ∧ eFill P s fs r (base.take f.offset ++ us ++ base.drop (f.offset + us.length)) K
    | _, _ => False

/-- An array's elements, as if they were fields. -/
def arrFs (e : TypeId) (size len : Nat) : List Field := (List.range len).map fun i => { name := "", type := e, offset := i * size, embedded := false, tag := "", pkgPath := "", byteOffset := 0 }

def eBuild (P : Program) (s : AState) (t : TypeId) (parts : List (Nat × AVal)) (K : AVal → Prop) : Prop :=
  match P.underlying t with
  | some (.struct fs) =>
    (match (P.info? t).bind (·.zero) with
    | some z => repCB (zeroD P t) z.cells.toList = true ∧ (∀ f ∈ fs.toList, (szT P f.type).isSome = true) ∧ eFill P s fs.toList parts ((flatD (zeroD P t)).map zV) fun cs => K (.ag t cs)
    | none => False)
  | some (.array len e) =>
    (match (P.info? t).bind (·.zero) with
    | some z => repCB (zeroD P t) z.cells.toList = true ∧ (szT P e).isSome = true ∧ eFill P s (arrFs e ((szT P e).getD 0) len) parts ((flatD (zeroD P t)).map zV) fun cs => K (.ag t cs)
    | none => False)
  | _ => False

section
variable {P : Program} {C : Ctx} {s : AState} {β : Nat → Option Value} {S : Nat → Prop} {a : Act} {w : World}

theorem packD_cells {y : D} {cs : List Value} (h : Rep w S y cs) : (packD y cs).cells.toList = cs := by
  by_cases hy : y.isAgg = false
  · obtain ⟨u, rfl, _, h2⟩ := rep_oneCell h hy
    rw [packD_one hy]
    simp [h2]
  · cases y <;> simp [D.isAgg] at hy
    simp [packD, Value.cells]

theorem zip_eq (ix : List Nat) (vs : List Value) (h : ix = List.range vs.length) : ix.zip vs = (vs.zipIdx 0).map fun x => (x.2, x.1) := by
  subst h
  apply List.ext_getElem?
  intro i
  simp only [List.getElem?_map, List.getElem?_zipIdx, List.zip]
  by_cases hi : i < vs.length
  · simp [hi]
  · simp [hi]

theorem buildSlice_run {w : World} {t e : TypeId} {len : Nat} {ie : TypeInfo} {vs : List Value} {ix : List Nat} (hu : P.underlying t = some (.slice e)) (hie : P.info? e = some ie) (hz : ie.zero.isSome = true)
    (hs : 0 < ie.size) (hl : len = vs.length) (hsm : len * ie.size ≤ 16777216) (hix : ix = List.range vs.length) (h1 : ∀ v ∈ vs, v.cells.size = ie.size) :
    (Instr.buildSlice t len (ix.zip vs).toArray).run P w = .ok (.slice (some ⟨w.heap.size, 0, none⟩) len len) (w.alloc (.cells (vs.flatMap fun v => v.cells.toList).toArray e)) := by
  obtain ⟨z, hz⟩ := Option.isSome_iff_exists.1 hz
  have hsm' : ¬ len * ie.size > 2 ^ 24 := by omega
  by_cases h0 : len = 0
  · have : vs = [] := List.eq_nil_of_length_eq_zero (by omega)
    subst this
    simp [Instr.buildSlice, run_underlying hu, sizeOf, typeInfo, hie, h0, newRow, Instr.fill]
    congr 2
    apply Array.ext <;> simp
  · refine run_buildSlice w t e len _ _ ie z hu hie hz hsm' (by intro h; rcases Nat.mul_eq_zero.1 h with h | h <;> omega) ?_
    rw [zip_eq ix vs hix]
    exact Great.fill_whole hs vs _ h1 (by simp [hl])

theorem intsOf_map : ∀ {k : IntKind} {ds : List D} {ns : List Int}, intsOf k ds = some ns → ds = ns.map (D.int k)
  | k, [], ns, h => by simp [intsOf] at h; subst h; rfl
  | k, d :: r, ns, h => by
    cases d <;> simp only [intsOf] at h <;> try (cases h; done)
    rename_i k' n
    split at h
    · rename_i e; subst e
      split at h
      · rename_i ms h1
        injection h with h; subst h
        rw [intsOf_map h1]; rfl
      · cases h
    · cases h

theorem vall_ints : ∀ {k : IntKind} {ns : List Int} {vs : List Value}, VAll w β S ((ns.map (D.int k)).map .d) vs → vs = ns.map (Value.int k) ∧ ∀ x ∈ ns, k.wrap x = x
  | k, [], vs, h => by simp only [List.map_nil, VAll] at h; subst h; simp
  | k, n :: ns, vs, h => by
    simp only [List.map_cons, VAll] at h
    obtain ⟨v, r, rfl, h1, h2⟩ := h
    obtain ⟨rfl, hw⟩ := d_int h1
    obtain ⟨rfl, h3⟩ := vall_ints h2
    exact ⟨rfl, fun x hx => by rcases List.mem_cons.1 hx with rfl | hx; exact hw; exact h3 x hx⟩

theorem zip_all : ∀ {ys : List D} {css : List (List Value)}, All2 (fun y cs => Rep w S y cs) ys css → ((List.zipWith packD ys css).flatMap fun v => v.cells.toList) = css.flatten ∧ RepAll w S ys css.flatten ∧ (List.zipWith packD ys css).length = ys.length ∧
    (∀ n, (∀ y ∈ ys, y.size = n) → ∀ v ∈ List.zipWith packD ys css, v.cells.size = n)
  | [], [], .nil => ⟨rfl, by simp [RepAll], rfl, by simp⟩
  | y :: ys, cs :: css, .cons h h' => by
    obtain ⟨h1, h2, h3, h4⟩ := zip_all h'
    have e := packD_cells h
    refine ⟨by simp [h1, e], ?_, by simp [h3], fun n hn v hv => ?_⟩
    · simp only [List.flatten_cons, RepAll]; exact ⟨cs, _, rfl, h, h2⟩
    · simp only [List.zipWith_cons_cons, List.mem_cons] at hv
      rcases hv with rfl | hv
      · have := Rep.size _ _ h
        have h5 : (packD y cs).cells.size = cs.length := by have := congrArg List.length e; simpa using this
        rw [h5, this]; exact hn y (by simp)
      · exact h4 n (fun y hy => hn y (List.mem_cons_of_mem _ hy)) v hv

theorem eBuildSlice_sound (h : ARelB C s β S a w) {t : TypeId} {len : Nat} {ix : List Nat} {xs : List AVal} {vs : List Value} {K : AState → AVal → Prop} (hx : VAll w β S xs vs) (hq : eBuildSlice P s t len ix xs K) :
    DoesX P C a w (Instr.buildSlice t len (ix.zip vs).toArray) K := by
  unfold eBuildSlice at hq
  have hvl := VAll.length _ _ hx
  split at hq
  · rename_i e hu
    split at hq
    · rename_i i hi
      obtain ⟨hz, hix, hlen, hpos, hsm, hq⟩ := hq
      have hsm1 : len ≤ 16777216 := Nat.le_trans (Nat.le_mul_of_pos_right _ hpos) hsm
      split at hq
      · rename_i k hk
        obtain ⟨h1, hq⟩ := hq
        split at hq
        · rename_i ns hns
          obtain ⟨ds, hd1, hd2⟩ := Option.bind_eq_some_iff.1 hns
          have := allDv_rel hd1 hx
          rw [intsOf_map hd2] at this
          obtain ⟨rfl, hwf⟩ := vall_ints this
          have hnl : ns.length = len := by rw [hlen, ← hvl]; simp
          have hrun := buildSlice_run (P := P) (w := w) hu hi hz hpos (by rw [hvl]; exact hlen) hsm (ix := ix) (by rw [hvl]; exact hix) (vs := ns.map (Value.int k)) (fun v hv => by obtain ⟨n, _, rfl⟩ := List.mem_map.1 hv; rw [h1]; rfl)
          have e1 : ((ns.map (Value.int k)).flatMap fun v => v.cells.toList) = ns.map (Value.int k) := by
            clear hrun hnl this hns hd2 hwf hq hx hvl
            induction ns with
            | nil => rfl
            | cons n ns ih => simp only [List.map_cons, List.flatMap_cons, ih]; rfl
          rw [e1] at hrun
          refine ⟨_, _, _, .own s.nx, _, hrun, Ext.alloc _ _, S, h.alloc_row (k := k) (e := e) (xs := ns) hnl (Nat.le_refl _) (by unfold maxLen; omega) (by unfold LIM; omega) (by simp [hnl]) (List.take_of_length_le (by simp; omega)) hwf, ?_, hq⟩
          simp only [VRel, updO, if_true]
        · exact hq.elim
      · obtain ⟨ys, css, hall, rfl, hsz0, hK⟩ := qToDs_sound hx hq
        have hsz : ∀ y ∈ ys, y.size = i.size := fun y hy => by simpa using List.all_eq_true.1 hsz0 y hy
        obtain ⟨e1, e2, e3, e4⟩ := zip_all hall
        have hyl : ys.length = len := by rw [hlen, ← hvl, e3]
        have hrun := buildSlice_run (P := P) (w := w) hu hi hz hpos (by rw [hvl]; exact hlen) hsm (ix := ix) (by rw [hvl]; exact hix) (e4 _ hsz)
        rw [e1] at hrun
        have hcl : css.flatten.length = len * i.size := by
          have h5 : ∀ {ys : List D} {cs : List Value}, (∀ y ∈ ys, y.size = i.size) → RepAll w S ys cs → cs.length = ys.length * i.size := fun {ys} => by
            induction ys with
            | nil => intro cs _ h; simp only [RepAll] at h; subst h; simp
            | cons y ys ih =>
              intro cs hy h
              simp only [RepAll] at h
              obtain ⟨c1, c2, rfl, h6, h7⟩ := h
              rw [List.length_append, Rep.size _ _ h6, hy y (by simp), ih (fun y h => hy y (List.mem_cons_of_mem _ h)) h7, List.length_cons, Nat.add_mul]; omega
          rw [h5 hsz e2, hyl]
        refine ⟨_, _, _, .own s.nx, updO β s.nx (.slice (some ⟨w.heap.size, 0, none⟩) len len), hrun, Ext.alloc _ _, S, h.fresh (grown_alloc _ _) (fun b hb => ?_) ?_, ?_, hK⟩
        · simp only [blk] at hb
          split at hb
          · cases hb
          · injection hb with hb; subst hb; simp
        · simp only [ORel]
          refine ⟨css.flatten, ?_, e2.keep fun b hb => ⟨hb, Below.heap_alloc _ _ _ (h.st.inS b hb)⟩, hsz, by unfold LIM; omega, hpos⟩
          by_cases h0 : len = 0
          · exact .inl ⟨some ⟨w.heap.size, 0, none⟩, by rw [h0], by omega, List.eq_nil_of_length_eq_zero (by rw [hcl, h0]; simp)⟩
          · refine .inr ⟨w.heap.size, len, _, by rw [hyl], by omega, heap_alloc_new w _, by omega, by unfold maxLen; omega, by simp [hcl], by rw [hcl, hyl], ?_⟩
            rw [List.take_of_length_le (by simp [hcl, hyl])]
        · simp only [VRel, updO, if_true]
    · exact hq.elim
  · exact hq.elim

theorem foldl_splice (off : Nat) (l : List Value) (cs : Array Value) (hle : off + l.length ≤ cs.size) :
    ((l.zipIdx 0).foldl (fun cs (x : Value × Nat) => cs.setIfInBounds (off + x.2) x.1) cs).toList = cs.toList.take off ++ l ++ cs.toList.drop (off + l.length) := by
  obtain ⟨h1, h2⟩ := Great.foldl_set off l 0 cs
  apply List.ext_getElem?
  intro i
  rw [Array.getElem?_toList, h2 i]
  simp only [Nat.add_zero]
  by_cases ha : i < off
  · rw [if_neg (by omega), List.append_assoc, List.getElem?_append_left (by simp; omega), List.getElem?_take_of_lt ha, Array.getElem?_toList]
  · by_cases hb : i < off + l.length
    · rw [if_pos (by omega), List.append_assoc, List.getElem?_append_right (by simp; omega), List.getElem?_append_left (by simp; omega)]
      congr 1; simp; omega
    · rw [if_neg (by omega), List.getElem?_append_right (by simp; omega), List.getElem?_drop, ← Array.getElem?_toList]
      congr 1; simp; omega

theorem eFill_sound (h : ARelB C s β S a w) {fs : List Field} {place : Nat → Option (Nat × Nat)} (hp : ∀ i f n, fs[i]? = some f → szT P f.type = some n → place i = some (f.offset, n)) :
    ∀ {xs : List AVal} {ix : List Nat} {vs : List Value} {base : List AVal} {cells : Array Value} {K : List AVal → Prop}, VAll w β S xs vs → VAll w β S base cells.toList → eFill P s fs (ix.zip xs) base K →
    ∃ cells' base', Instr.fill place cells (ix.zip vs) = some cells' ∧ VAll w β S base' cells'.toList ∧ K base'
  | [], ix, vs, base, cells, K, hx, hb, hq => by
    simp only [VAll] at hx; subst hx
    simp only [List.zip_nil_right, eFill] at hq ⊢
    exact ⟨cells, base, rfl, hb, hq⟩
  | x :: xs, [], vs, base, cells, K, hx, hb, hq => by
    simp only [List.zip_nil_left, eFill] at hq ⊢
    exact ⟨cells, base, rfl, hb, hq⟩
  | x :: xs, i :: ix, vs, base, cells, K, hx, hb, hq => by
    simp only [VAll] at hx
    obtain ⟨v, r, rfl, h1, h2⟩ := hx
    simp only [List.zip_cons_cons, eFill] at hq ⊢
    split at hq
    · rename_i f us hf hc
      obtain ⟨hsz, hone, hle, hq⟩ := hq
      have hcv := cellsV_rel h h1 hc hone
      have hcl := VAll.length _ _ hcv
      have hbl := VAll.length _ _ hb
      have hcl' : v.cells.size = us.length := by simpa using hcl
      have hsp := foldl_splice f.offset v.cells.toList cells (by simp at hbl hcl ⊢; omega)
      have hb' := VAll.splice hb hcv f.offset
      have : Instr.fill place cells ((i, v) :: ix.zip r) = Instr.fill place ((v.cells.toList.zipIdx 0).foldl (fun cs (x : Value × Nat) => cs.setIfInBounds (f.offset + x.2) x.1) cells) (ix.zip r) := by
        conv => lhs; unfold Instr.fill
        simp only [hp i f _ hf hsz, hcl']
        rw [if_neg (by simp at hbl ⊢; omega)]
        congr 1
        rw [← Array.foldl_toList]
        simp
      rw [this]
      exact eFill_sound h hp h2 (by rw [hsp]; simpa [hcl'] using hb') hq
    · exact hq.elim

theorem fields_mapM : ∀ (fs : List Field), (∀ f ∈ fs, (szT P f.type).isSome = true) →
    fs.mapM (fun f => (P.info? f.type).map fun i => (f.offset, i.size)) = some (fs.map fun f => (f.offset, (szT P f.type).getD 0))
  | [], _ => by simp
  | f :: fs, h => by
    obtain ⟨n, hn⟩ := Option.isSome_iff_exists.1 (h f (by simp))
    have ih := fields_mapM fs fun g hg => h g (List.mem_cons_of_mem _ hg)
    obtain ⟨i, hi, rfl⟩ := Option.map_eq_some_iff.1 hn
    simp [List.mapM_cons, hi, ih, szT]

theorem eBuild_sound (h : ARelB C s β S a w) {t : TypeId} {ix : List Nat} {xs : List AVal} {vs : List Value} {K : AVal → Prop} (hx : VAll w β S xs vs) (hq : eBuild P s t (ix.zip xs) K) :
    ∃ u r, (∀ w', (Instr.build t (ix.zip vs).toArray).run P w' = .ok u w') ∧ VRel w β S r u ∧ K r := by
  unfold eBuild at hq
  split at hq
  · rename_i fs hu
    split at hq
    · rename_i z hz
      obtain ⟨hrep, hsz, hq⟩ := hq
      have hbase := zV_rel (w := w) (β := β) (S := S) _ _ (repCB_ok _ _ hrep)
      obtain ⟨cells', base', hf, hv, hK⟩ := eFill_sound h (place := fun i => (fs.map fun f => (f.offset, (szT P f.type).getD 0))[i]?) (fun i f n h1 h2 => by
        simp only [Array.getElem?_map]
        rw [← Array.getElem?_toList, h1]
        simp [h2]) hx hbase hq
      refine ⟨.agg cells', _, fun w' => ?_, by simp only [VRel]; exact ⟨_, rfl, hv⟩, hK⟩
      refine run_build w' t _ cells' ?_
      obtain ⟨i, hi, hz⟩ := Option.bind_eq_some_iff.1 hz
      have hm := fields_mapM (P := P) fs.toList hsz
      simp only [Program.built, hi, hu, hz, hm]
      rw [List.toList_toArray]
      simpa using hf
    · exact hq.elim
  · rename_i len e hu
    split at hq
    · rename_i z hz
      obtain ⟨hrep, hsz, hq⟩ := hq
      obtain ⟨i, hi, hz⟩ := Option.bind_eq_some_iff.1 hz
      obtain ⟨n, hn⟩ := Option.isSome_iff_exists.1 hsz
      obtain ⟨ie, hie, hien⟩ : ∃ ie, P.info? e = some ie ∧ ie.size = n := by
        unfold szT at hn
        cases h' : P.info? e with
        | none => rw [h'] at hn; simp at hn
        | some ie => rw [h'] at hn; exact ⟨ie, rfl, by simpa using hn⟩
      have hbase := zV_rel (w := w) (β := β) (S := S) _ _ (repCB_ok _ _ hrep)
      obtain ⟨cells', base', hf, hv, hK⟩ := eFill_sound h (place := fun i => some (i * ie.size, ie.size)) (fun i f m h1 h2 => by
        unfold arrFs at h1
        rw [List.getElem?_map] at h1
        cases hr : (List.range len)[i]? with
        | none => rw [hr] at h1; simp at h1
        | some i' =>
          rw [hr] at h1
          have hi' : i' = i := by
            have := (List.getElem?_eq_some_iff.1 hr).2
            simpa using this.symm
          subst hi'
          simp only [Option.map_some, Option.some.injEq] at h1
          subst h1
          simp only at h2 ⊢
          rw [hn] at h2
          injection h2 with h2
          rw [hn, Option.getD_some, hien, h2]) hx hbase hq
      refine ⟨.agg cells', _, fun w' => ?_, by simp only [VRel]; exact ⟨_, rfl, hv⟩, hK⟩
      refine run_build w' t _ cells' ?_
      simp only [Program.built, hi, hu, hz, hie]
      exact hf
    · exact hq.elim
  · exact hq.elim

end
end Go.Proofs.YtniaeiikdgbnfaaDoor.AW
