/- Parts AW1, AW2, AW3, AW4, AW5. No condition of its own. -/
import Derived.Below
import Derived.OwnWalk
import Derived.Laws.MakeOwn
import Derived.Laws.OwnMore
import Derived.Deep.Quiet
import Derived.Deep.LoopGhost
import Derived.Deep.AppendLies
import Derived.Maps.AppendAt
import Derived.RangeFuncRecord
import Derived.RangeFuncSeq

namespace Go.Proofs.YtniaeiikdgbnfaaDoor.AW
open Go Go.RowKit

def LIM : Nat := 140737488355328

/-- Deep values: what never changes any more. -/
inductive D where
  | int (k : IntKind) (n : Int)
  | bool (b : Bool)
  | str (xs : List Int)
  | raw (v : Value)
  | ints (k : IntKind) (xs : List Int)
  | sl (sz : Nat) (es : List D)
  | ptr (d : D)
  | nilp
  | agg (ds : List D)
  | fn (f : FuncId) (caps : List D)

instance : Inhabited D := ⟨.bool false⟩

def bytesOf (s : ByteArray) : List Int := s.data.toList.map fun b => (b.toNat : Int)

def plainV : Value → Bool
  | .float .. | .complex .. | .nilIface | .nilFunc | .map none => true
  | _ => false

/-- The cells from an offset of a block on. -/
def Cells (w : World) (b o : Nat) (vs : List Value) : Prop := ∀ i v, vs[i]? = some v → w.cell? ⟨b, o + i, none⟩ = some v

mutual
def Rep (w : World) (S : Nat → Prop) : D → List Value → Prop
  | .int k n, cs => cs = [.int k n] ∧ k.wrap n = n
  | .bool b, cs => cs = [.bool b]
  | .str xs, cs => ∃ s, cs = [.string s] ∧ bytesOf s = xs ∧ s.size ≤ LIM
  | .raw v, cs => cs = [v] ∧ plainV v = true
  | .ints k xs, cs => ∃ A c, cs = [.slice A xs.length c] ∧ xs.length ≤ c ∧ xs.length ≤ LIM ∧ (∀ x ∈ xs, k.wrap x = x) ∧
      (xs ≠ [] → ∃ b o, A = some ⟨b, o, none⟩ ∧ S b ∧ Cells w b o (xs.map (Value.int k)))
  | .sl sz es, cs => ∃ A c, cs = [.slice A es.length c] ∧ es.length ≤ c ∧ es.length ≤ LIM ∧
      (es ≠ [] → ∃ b o, A = some ⟨b, o, none⟩ ∧ S b ∧ RepRow w S sz es b o)
  | .ptr d, cs => ∃ b o, cs = [.pointer (some ⟨b, o, none⟩)] ∧ S b ∧ ∃ vs, Cells w b o vs ∧ Rep w S d vs
  | .nilp, cs => cs = [.pointer none]
  | .agg ds, cs => RepAll w S ds cs
  | .fn f caps, cs => ∃ vs, cs = [.func (.func f) #[] vs] ∧ RepAll w S caps vs.toList
def RepAll (w : World) (S : Nat → Prop) : List D → List Value → Prop
  | [], cs => cs = []
  | d :: ds, cs => ∃ c1 c2, cs = c1 ++ c2 ∧ Rep w S d c1 ∧ RepAll w S ds c2
def RepRow (w : World) (S : Nat → Prop) (sz : Nat) : List D → Nat → Nat → Prop
  | [], _, _ => True
  | d :: ds, b, o => (∃ vs, vs.length = sz ∧ Cells w b o vs ∧ Rep w S d vs) ∧ RepRow w S sz ds b (o + sz)
end

mutual
def D.size : D → Nat
  | .agg ds => D.sizes ds
  | _ => 1
def D.sizes : List D → Nat
  | [] => 0
  | d :: ds => d.size + D.sizes ds
end

def D.isAgg : D → Bool
  | .agg _ => true
  | _ => false

theorem Cells.keep {w w' : World} {b o : Nat} {vs : List Value} (h : Cells w b o vs) (hw : w'.heap[b]? = w.heap[b]?) : Cells w' b o vs :=
  fun i v hv => (World.cell?_of_block (a := ⟨b, o + i, none⟩) hw).trans (h i v hv)

mutual
theorem Rep.keep {w w' : World} {S S' : Nat → Prop} (hS : ∀ b, S b → S' b ∧ w'.heap[b]? = w.heap[b]?) : ∀ (d : D) (cs : List Value), Rep w S d cs → Rep w' S' d cs
  | .int k n, cs, h => by simpa only [Rep] using h
  | .bool b, cs, h => by simpa only [Rep] using h
  | .str xs, cs, h => by simpa only [Rep] using h
  | .raw v, cs, h => by simpa only [Rep] using h
  | .ints k xs, cs, h => by
    simp only [Rep] at h ⊢
    obtain ⟨A, c, h1, h2, h3, h4, h5⟩ := h
    refine ⟨A, c, h1, h2, h3, h4, fun hne => ?_⟩
    obtain ⟨b, o, e, hb, hc⟩ := h5 hne
    exact ⟨b, o, e, (hS b hb).1, hc.keep (hS b hb).2⟩
  | .sl sz es, cs, h => by
    simp only [Rep] at h ⊢
    obtain ⟨A, c, h1, h2, h3, h5⟩ := h
    refine ⟨A, c, h1, h2, h3, fun hne => ?_⟩
    obtain ⟨b, o, e, hb, hc⟩ := h5 hne
    exact ⟨b, o, e, (hS b hb).1, RepRow.keep hS sz es b o (hS b hb).2 hc⟩
  | .ptr d, cs, h => by
    simp only [Rep] at h ⊢
    obtain ⟨b, o, h1, h2, vs, h3, h4⟩ := h
    exact ⟨b, o, h1, (hS b h2).1, vs, h3.keep (hS b h2).2, Rep.keep hS d vs h4⟩
  | .nilp, cs, h => by simpa only [Rep] using h
  | .agg ds, cs, h => by
    simp only [Rep] at h ⊢
    exact RepAll.keep hS ds cs h
  | .fn f caps, cs, h => by
    simp only [Rep] at h ⊢
    obtain ⟨vs, h1, h2⟩ := h
    exact ⟨vs, h1, RepAll.keep hS caps _ h2⟩
theorem RepAll.keep {w w' : World} {S S' : Nat → Prop} (hS : ∀ b, S b → S' b ∧ w'.heap[b]? = w.heap[b]?) : ∀ (ds : List D) (cs : List Value), RepAll w S ds cs → RepAll w' S' ds cs
  | [], cs, h => by simpa only [RepAll] using h
  | d :: ds, cs, h => by
    simp only [RepAll] at h ⊢
    obtain ⟨c1, c2, e, h1, h2⟩ := h
    exact ⟨c1, c2, e, Rep.keep hS d c1 h1, RepAll.keep hS ds c2 h2⟩
theorem RepRow.keep {w w' : World} {S S' : Nat → Prop} (hS : ∀ b, S b → S' b ∧ w'.heap[b]? = w.heap[b]?) (sz : Nat) : ∀ (ds : List D) (b o : Nat), w'.heap[b]? = w.heap[b]? → RepRow w S sz ds b o → RepRow w' S' sz ds b o
  | [], b, o, _, h => by simp only [RepRow]
  | d :: ds, b, o, hb, h => by
    simp only [RepRow] at h ⊢
    obtain ⟨⟨vs, e, h1, h2⟩, h3⟩ := h
    exact ⟨⟨vs, e, h1.keep hb, Rep.keep hS d vs h2⟩, RepRow.keep hS sz ds b (o + sz) hb h3⟩
end

mutual
theorem Rep.size {w : World} {S : Nat → Prop} : ∀ (d : D) (cs : List Value), Rep w S d cs → cs.length = d.size
  | .int k n, cs, h => by simp only [Rep] at h; simp [h.1, D.size]
  | .bool b, cs, h => by simp only [Rep] at h; simp [h, D.size]
  | .str xs, cs, h => by simp only [Rep] at h; obtain ⟨s, h1, _⟩ := h; simp [h1, D.size]
  | .raw v, cs, h => by simp only [Rep] at h; simp [h.1, D.size]
  | .ints k xs, cs, h => by simp only [Rep] at h; obtain ⟨A, c, h1, _⟩ := h; simp [h1, D.size]
  | .sl sz es, cs, h => by simp only [Rep] at h; obtain ⟨A, c, h1, _⟩ := h; simp [h1, D.size]
  | .ptr d, cs, h => by simp only [Rep] at h; obtain ⟨b, o, h1, _⟩ := h; simp [h1, D.size]
  | .nilp, cs, h => by simp only [Rep] at h; simp [h, D.size]
  | .agg ds, cs, h => by simp only [Rep] at h; simp only [D.size]; exact RepAll.size ds cs h
  | .fn f caps, cs, h => by simp only [Rep] at h; obtain ⟨vs, h1, _⟩ := h; simp [h1, D.size]
theorem RepAll.size {w : World} {S : Nat → Prop} : ∀ (ds : List D) (cs : List Value), RepAll w S ds cs → cs.length = D.sizes ds
  | [], cs, h => by simp only [RepAll] at h; simp [h, D.sizes]
  | d :: ds, cs, h => by
    simp only [RepAll] at h
    obtain ⟨c1, c2, e, h1, h2⟩ := h
    simp [e, D.sizes, Rep.size d c1 h1, RepAll.size ds c2 h2]
end

/-- What the package's variables hold that a statement lists. -/
class Globs where
  gl : Nat → Option D

set_option linter.unusedSectionVars false
variable [Globs]

/-- They hold it. -/
def GlobOk (w : World) (S : Nat → Prop) : Prop := ∀ g d, Globs.gl g = some d → S g ∧ ∃ vs, Cells w g 0 vs ∧ Rep w S d vs

theorem GlobOk.keep {w w' : World} {S S' : Nat → Prop} (hS : ∀ b, S b → S' b ∧ w'.heap[b]? = w.heap[b]?) (h : GlobOk w S) : GlobOk w' S' := fun g d hg =>
  let ⟨h1, vs, h2, h3⟩ := h g d hg
  ⟨(hS g h1).1, vs, h2.keep (hS g h1).2, Rep.keep hS d vs h3⟩

/-- A part of an aggregate. -/
theorem RepAll.get {w : World} {S : Nat → Prop} : ∀ (ds : List D) (cs : List Value), RepAll w S ds cs → ∀ (i : Nat) (d : D), ds[i]? = some d →
    Rep w S d ((cs.drop (D.sizes (ds.take i))).take d.size)
  | [], cs, h, i, d, hi => by simp at hi
  | e :: ds, cs, h, i, d, hi => by
    simp only [RepAll] at h
    obtain ⟨c1, c2, rfl, h1, h2⟩ := h
    cases i with
    | zero =>
      simp at hi; subst hi
      have := Rep.size _ _ h1
      simp [D.sizes, ← this, h1]
    | succ i =>
      simp at hi
      have ih := RepAll.get ds c2 h2 i d hi
      have hs := Rep.size _ _ h1
      simp only [List.take_succ_cons, D.sizes]
      rw [List.drop_append, List.drop_eq_nil_of_le (by omega), ← hs]
      simpa using ih

/-- An element of a row. -/
theorem RepRow.get {w : World} {S : Nat → Prop} {sz : Nat} : ∀ (ds : List D) (b o : Nat), RepRow w S sz ds b o → ∀ (i : Nat) (d : D), ds[i]? = some d →
    ∃ vs, vs.length = sz ∧ Cells w b (o + i * sz) vs ∧ Rep w S d vs
  | [], b, o, h, i, d, hi => by simp at hi
  | e :: ds, b, o, h, i, d, hi => by
    simp only [RepRow] at h
    obtain ⟨h1, h2⟩ := h
    cases i with
    | zero => simp at hi; subst hi; simpa using h1
    | succ i =>
      simp at hi
      have ih := RepRow.get ds b (o + sz) h2 i d hi
      rwa [show o + sz + i * sz = o + (i + 1) * sz by rw [Nat.add_mul]; omega] at ih

/-- Abstract values: what a slot of a frame holds. -/
inductive AVal where
  | any
  | un
  | d (x : D)
  | em (x : D)
  | nls (x : D)
  | own (j : Nat)
  | view (j off len : Nat)
  | optr (j off : Nat)
  | ag (t : TypeId) (cs : List AVal)
  | tup (vs : List AVal)
  | ofn (f : FuncId) (caps : List AVal)

instance : Inhabited AVal := ⟨.any⟩

/-- Owned objects. -/
inductive Ob where
  | row (k : IntKind) (t : TypeId) (xs : List Int)
  | rowD (t : TypeId) (sz : Nat) (es : List D)
  | cell (t : TypeId) (cs : List AVal)

def packD : D → List Value → Value
  | .agg _, cs => .agg cs.toArray
  | _, cs => cs.headD undef

def blk : Value → Option Nat
  | .slice (some a) _ c => if c = 0 then none else some a.block
  | .pointer (some a) => some a.block
  | _ => none

def emptyD : D → Bool
  | .ints _ [] | .sl _ [] => true
  | _ => false

mutual
def VRel (w : World) (β : Nat → Option Value) (S : Nat → Prop) : AVal → Value → Prop
  | .any, _ => True
  | .un, v => v = undef
  | .d x, v => ∃ cs, Rep w S x cs ∧ v = packD x cs
  | .em x, v => (∃ A, v = .slice A 0 0) ∧ emptyD x = true
  | .nls x, v => v = .slice none 0 0 ∧ emptyD x = true
  | .own j, v => β j = some v
  | .view j off len, v => ∃ A c, v = .slice A len c ∧ len ≤ c ∧ (0 < len → ∃ b, (β j).bind blk = some b ∧ A = some ⟨b, off, none⟩)
  | .optr j off, v => ∃ b, (β j).bind blk = some b ∧ v = .pointer (some ⟨b, off, none⟩)
  | .ag _ cs, v => ∃ vs, v = .agg vs ∧ VAll w β S cs vs.toList
  | .tup cs, v => ∃ vs, v = .tuple vs ∧ VAll w β S cs vs.toList
  | .ofn f caps, v => ∃ vs, v = .func (.func f) #[] vs ∧ VAll w β S caps vs.toList
def VAll (w : World) (β : Nat → Option Value) (S : Nat → Prop) : List AVal → List Value → Prop
  | [], vs => vs = []
  | x :: xs, vs => ∃ v r, vs = v :: r ∧ VRel w β S x v ∧ VAll w β S xs r
end

/-- A row of the call's own, or an empty slice without capacity. -/
def OwnsV (w : World) (t : TypeId) (sz : Nat) (v : Value) (n : Nat) (vs : List Value) : Prop :=
  (∃ A, v = .slice A 0 0 ∧ n = 0 ∧ vs = []) ∨
  ∃ g cap cur, v = .slice (some ⟨g, 0, none⟩) n cap ∧ 0 < cap ∧ w.heap[g]? = some (.cells cur t (0, 0)) ∧ n ≤ cap ∧ cap ≤ maxLen ∧ cur.size = cap * sz ∧ vs.length = n * sz ∧ cur.toList.take (n * sz) = vs

theorem OwnsV.keep {w w' : World} {t : TypeId} {sz : Nat} {v : Value} {n : Nat} {vs : List Value} (h : OwnsV w t sz v n vs) (hj : ∀ b, blk v = some b → w'.heap[b]? = w.heap[b]?) : OwnsV w' t sz v n vs := by
  rcases h with h | ⟨g, cap, cur, e, hc, hh, r⟩
  · exact .inl h
  · exact .inr ⟨g, cap, cur, e, hc, by rw [hj g (by rw [e]; simp [blk]; omega)]; exact hh, r⟩

def ORel (w : World) (β : Nat → Option Value) (S : Nat → Prop) (v : Value) : Ob → Prop
  | .row k t xs => OwnsV w t 1 v xs.length (xs.map (Value.int k)) ∧ (∀ x ∈ xs, k.wrap x = x) ∧ xs.length ≤ LIM
  | .rowD t sz es => ∃ vs, OwnsV w t sz v es.length vs ∧ RepAll w S es vs ∧ (∀ e ∈ es, e.size = sz) ∧ es.length ≤ LIM ∧ 0 < sz
  | .cell t cs => ∃ b vs, v = .pointer (some ⟨b, 0, none⟩) ∧ w.heap[b]? = some (.cells vs t (0, 0)) ∧ VAll w β S cs vs.toList

theorem keepB {β β' : Nat → Option Value} (hβ : ∀ j u, β j = some u → β' j = some u) {j b : Nat} (h : (β j).bind blk = some b) : (β' j).bind blk = some b := by
  cases e : β j with
  | none => simp [e] at h
  | some u => rw [e] at h; rw [hβ j u e]; exact h

mutual
theorem VRel.keep {w w' : World} {β β' : Nat → Option Value} {S S' : Nat → Prop} (hS : ∀ b, S b → S' b ∧ w'.heap[b]? = w.heap[b]?) (hβ : ∀ j u, β j = some u → β' j = some u) :
    ∀ (x : AVal) (v : Value), VRel w β S x v → VRel w' β' S' x v
  | .any, v, h => by simp only [VRel]
  | .un, v, h => by simpa only [VRel] using h
  | .d x, v, h => by
    simp only [VRel] at h ⊢
    obtain ⟨cs, h1, h2⟩ := h
    exact ⟨cs, h1.keep hS, h2⟩
  | .em x, v, h => by simpa only [VRel] using h
  | .nls x, v, h => by simpa only [VRel] using h
  | .own j, v, h => by simp only [VRel] at h ⊢; exact hβ _ _ h
  | .view j off len, v, h => by
    simp only [VRel] at h ⊢
    obtain ⟨A, c, e, hl, hA⟩ := h
    exact ⟨A, c, e, hl, fun hp => let ⟨b, hb, e'⟩ := hA hp; ⟨b, keepB hβ hb, e'⟩⟩
  | .optr j off, v, h => by
    simp only [VRel] at h ⊢
    obtain ⟨b, hb, e⟩ := h
    exact ⟨b, keepB hβ hb, e⟩
  | .ag _ cs, v, h => by
    simp only [VRel] at h ⊢
    obtain ⟨vs, h1, h2⟩ := h
    exact ⟨vs, h1, VAll.keep hS hβ cs _ h2⟩
  | .tup cs, v, h => by
    simp only [VRel] at h ⊢
    obtain ⟨vs, h1, h2⟩ := h
    exact ⟨vs, h1, VAll.keep hS hβ cs _ h2⟩
  | .ofn f cs, v, h => by
    simp only [VRel] at h ⊢
    obtain ⟨vs, h1, h2⟩ := h
    exact ⟨vs, h1, VAll.keep hS hβ cs _ h2⟩
theorem VAll.keep {w w' : World} {β β' : Nat → Option Value} {S S' : Nat → Prop} (hS : ∀ b, S b → S' b ∧ w'.heap[b]? = w.heap[b]?) (hβ : ∀ j u, β j = some u → β' j = some u) :
    ∀ (xs : List AVal) (vs : List Value), VAll w β S xs vs → VAll w' β' S' xs vs
  | [], vs, h => by simpa only [VAll] using h
  | x :: xs, vs, h => by
    simp only [VAll] at h ⊢
    obtain ⟨v, r, e, h1, h2⟩ := h
    exact ⟨v, r, e, VRel.keep hS hβ x v h1, VAll.keep hS hβ xs r h2⟩
end

theorem VAll.length {w : World} {β : Nat → Option Value} {S : Nat → Prop} : ∀ (xs : List AVal) (vs : List Value), VAll w β S xs vs → vs.length = xs.length
  | [], vs, h => by simp only [VAll] at h; simp [h]
  | x :: xs, vs, h => by
    simp only [VAll] at h
    obtain ⟨v, r, e, h1, h2⟩ := h
    simp [e, VAll.length xs r h2]

theorem VAll.get {w : World} {β : Nat → Option Value} {S : Nat → Prop} : ∀ (xs : List AVal) (vs : List Value), VAll w β S xs vs → ∀ (i : Nat) (x : AVal), xs[i]? = some x → ∃ v, vs[i]? = some v ∧ VRel w β S x v
  | [], vs, h, i, x, hi => by simp at hi
  | y :: xs, vs, h, i, x, hi => by
    simp only [VAll] at h
    obtain ⟨v, r, rfl, h1, h2⟩ := h
    cases i with
    | zero => simp at hi; subst hi; exact ⟨v, by simp, h1⟩
    | succ i => simp at hi; obtain ⟨u, hu, hr⟩ := VAll.get xs r h2 i x hi; exact ⟨u, by simpa using hu, hr⟩

theorem ORel.keep {w w' : World} {β β' : Nat → Option Value} {S S' : Nat → Prop} (hS : ∀ b, S b → S' b ∧ w'.heap[b]? = w.heap[b]?) (hβ : ∀ j u, β j = some u → β' j = some u) {v : Value}
    (hj : ∀ b, blk v = some b → w'.heap[b]? = w.heap[b]?) : ∀ {o : Ob}, ORel w β S v o → ORel w' β' S' v o
  | .row k t xs, h => by
    simp only [ORel] at h ⊢
    obtain ⟨h1, h2, h3⟩ := h
    exact ⟨h1.keep hj, h2, h3⟩
  | .rowD t sz es, h => by
    simp only [ORel] at h ⊢
    obtain ⟨vs, h1, h2, h3, h4⟩ := h
    exact ⟨vs, h1.keep hj, RepAll.keep hS es vs h2, h3, h4⟩
  | .cell t cs, h => by
    simp only [ORel] at h ⊢
    obtain ⟨b, vs, h1, h2, h3⟩ := h
    exact ⟨b, vs, h1, by rw [hj b (by rw [h1]; rfl)]; exact h2, VAll.keep hS hβ cs _ h3⟩

end Go.Proofs.YtniaeiikdgbnfaaDoor.AW
namespace Go.Proofs.YtniaeiikdgbnfaaDoor.AW
open Go Go.RowKit
set_option linter.unusedSectionVars false
variable [Globs]

structure Ctx where
  w0 : World
  S0 : Nat → Prop
  E0 : Nat → Prop
  /-- Objects below 'm' are the caller's: they stay where they are. -/
  m : Nat
  B0 : Nat → Option Value
  /-- The loop over a function in whose round this is, if any. -/
  rd : Option Nat

structure AState where
  n : Nat
  fr : Nat → AVal
  st : List (Nat × Ob)
  nx : Nat

def upd (f : Nat → AVal) (t : Nat) (v : AVal) : Nat → AVal := fun u => if u = t then v else f u

def AState.put : AState → Option Tmp → AVal → AState
  | ⟨n, fr, st, nx⟩, some t, v => ⟨n, upd fr t v, st, nx⟩
  | s, none, _ => s
def AState.withSt : AState → List (Nat × Ob) → AState
  | ⟨n, fr, _, nx⟩, st => ⟨n, fr, st, nx⟩

/-! ### A walk by reduction: values and states are taken apart and put together again, so that no reckoning is left standing in them. -/
mutual
def forceV : AVal → (AVal → Prop) → Prop
  | .any, K => K .any
  | .un, K => K .un
  | .d (.int k n), K => K (.d (.int k n))
  | .d (.bool b), K => K (.d (.bool b))
  | .d (.str xs), K => K (.d (.str xs))
  | .d (.raw v), K => K (.d (.raw v))
  | .d (.ints k xs), K => K (.d (.ints k xs))
  | .d (.sl n es), K => K (.d (.sl n es))
  | .d (.ptr x), K => K (.d (.ptr x))
  | .d .nilp, K => K (.d .nilp)
  | .d (.agg ds), K => K (.d (.agg ds))
  | .d (.fn f cs), K => K (.d (.fn f cs))
  | .em (.ints k xs), K => K (.em (.ints k xs))
  | .em (.sl n es), K => K (.em (.sl n es))
  | .em x, K => K (.em x)
  | .nls (.ints k xs), K => K (.nls (.ints k xs))
  | .nls (.sl n es), K => K (.nls (.sl n es))
  | .nls x, K => K (.nls x)
  | .own j, K => K (.own j)
  | .view j o l, K => K (.view j o l)
  | .optr j o, K => K (.optr j o)
  | .ag t cs, K => forceL cs fun cs => K (.ag t cs)
  | .tup cs, K => forceL cs fun cs => K (.tup cs)
  | .ofn f cs, K => forceL cs fun cs => K (.ofn f cs)
def forceL : List AVal → (List AVal → Prop) → Prop
  | [], K => K []
  | x :: r, K => forceV x fun x => forceL r fun r => K (x :: r)
end
mutual
theorem forceV_of : ∀ (x : AVal) {K : AVal → Prop}, forceV x K → K x
  | .any, K, h => by simpa only [forceV] using h
  | .un, K, h => by simpa only [forceV] using h
  | .d x, K, h => by cases x <;> simpa only [forceV] using h
  | .em x, K, h => by cases x <;> simpa only [forceV] using h
  | .nls x, K, h => by cases x <;> simpa only [forceV] using h
  | .own j, K, h => by simpa only [forceV] using h
  | .view j o l, K, h => by simpa only [forceV] using h
  | .optr j o, K, h => by simpa only [forceV] using h
  | .ag t cs, K, h => by simp only [forceV] at h; exact forceL_of cs h
  | .tup cs, K, h => by simp only [forceV] at h; exact forceL_of cs h
  | .ofn f cs, K, h => by simp only [forceV] at h; exact forceL_of cs h
theorem forceL_of : ∀ (xs : List AVal) {K : List AVal → Prop}, forceL xs K → K xs
  | [], K, h => by simpa only [forceL] using h
  | x :: r, K, h => by
    simp only [forceL] at h
    exact forceL_of r (forceV_of x h)
end
mutual
theorem forceV_to : ∀ (x : AVal) {K : AVal → Prop}, K x → forceV x K
  | .any, K, h => by simpa only [forceV] using h
  | .un, K, h => by simpa only [forceV] using h
  | .d x, K, h => by cases x <;> simpa only [forceV] using h
  | .em x, K, h => by cases x <;> simpa only [forceV] using h
  | .nls x, K, h => by cases x <;> simpa only [forceV] using h
  | .own j, K, h => by simpa only [forceV] using h
  | .view j o l, K, h => by simpa only [forceV] using h
  | .optr j o, K, h => by simpa only [forceV] using h
  | .ag t cs, K, h => by simp only [forceV]; exact forceL_to cs h
  | .tup cs, K, h => by simp only [forceV]; exact forceL_to cs h
  | .ofn f cs, K, h => by simp only [forceV]; exact forceL_to cs h
theorem forceL_to : ∀ (xs : List AVal) {K : List AVal → Prop}, K xs → forceL xs K
  | [], K, h => by simpa only [forceL] using h
  | x :: r, K, h => by
    simp only [forceL]
    exact forceV_to x (forceL_to r h)
end
def forceOb : Ob → (Ob → Prop) → Prop
  | .row k t xs, K => K (.row k t xs)
  | .rowD t sz es, K => K (.rowD t sz es)
  | .cell t cs, K => forceL cs fun cs => K (.cell t cs)
theorem forceOb_of (o : Ob) {K : Ob → Prop} (h : forceOb o K) : K o := by
  cases o with
  | row k t xs => exact h
  | rowD t sz es => exact h
  | cell t cs => exact forceL_of cs h
def forceSt : List (Nat × Ob) → (List (Nat × Ob) → Prop) → Prop
  | [], K => K []
  | (i, o) :: r, K => forceOb o fun o => forceSt r fun r => K ((i, o) :: r)
theorem forceSt_of : ∀ (st : List (Nat × Ob)) {K : List (Nat × Ob) → Prop}, forceSt st K → K st
  | [], K, h => h
  | (i, o) :: r, K, h => by
    simp only [forceSt] at h
    have := forceOb_of o h
    exact forceSt_of r this
def forceS : AState → (AState → Prop) → Prop
  | ⟨n, fr, st, nx⟩, K => forceSt st fun st => K ⟨n, fr, st, nx⟩
theorem forceS_of (s : AState) {K : AState → Prop} (h : forceS s K) : K s := forceSt_of s.st h

def Owned (β : Nat → Option Value) (st : List (Nat × Ob)) (b : Nat) : Prop := ∃ j o, (j, o) ∈ st ∧ (β j).bind blk = some b

structure SRel (w : World) (β : Nat → Option Value) (S : Nat → Prop) (st : List (Nat × Ob)) : Prop where
  obj : ∀ j o, (j, o) ∈ st → ∃ v, β j = some v ∧ ORel w β S v o
  nodup : (st.map (·.1)).Nodup
  apart : ∀ i o j o', (i, o) ∈ st → (j, o') ∈ st → i ≠ j → ∀ b, (β i).bind blk = some b → (β j).bind blk ≠ some b
  own : ∀ b, Owned β st b → ¬ S b ∧ b < w.heap.size
  inS : ∀ b, S b → b < w.heap.size
  gl : GlobOk w S

/-- The frame: what has not turned since the call began. -/
structure Fr (C : Ctx) (w : World) (S own : Nat → Prop) : Prop where
  size : C.w0.heap.size ≤ w.heap.size
  os : w.os = C.w0.os
  tape : w.tape = C.w0.tape
  output : w.output = C.w0.output
  old : ∀ b, b < C.w0.heap.size → ¬ C.E0 b → w.heap[b]? = C.w0.heap[b]?
  inS : ∀ b, S b → C.S0 b ∨ C.E0 b ∨ C.w0.heap.size ≤ b
  own : ∀ b, own b → C.E0 b ∨ C.w0.heap.size ≤ b

/-- What is laid aside for the activation's end: the marks of its loops over functions, alone. -/
def Marks (C : Ctx) (S : Nat → Prop) (a : Act) (w : World) : Prop :=
  (∀ d ∈ a.defers, ∃ D, d = { target := .collected D, args := #[] } ∧ w.heap[D]? = some (.deferred (some [])) ∧ ¬ S D ∧ C.w0.heap.size ≤ D) ∧ a.defers.Nodup ∧ (C.rd ≠ none → a.defers = [])

structure ARelB (C : Ctx) (s : AState) (β : Nat → Option Value) (S : Nat → Prop) (a : Act) (w : World) : Prop where
  fr : ∀ t, VRel w β S (s.fr t) (a.tmps.getD t undef)
  size : a.tmps.size = s.n
  st : SRel w β S s.st
  frame : Fr C w S (Owned β s.st)
  nx : ∀ j, s.nx ≤ j → β j = none
  defers : Marks C S a w
  pin : ∀ j, j < C.m → β j = C.B0 j
  nxm : C.m ≤ s.nx

def ARel (C : Ctx) (s : AState) (a : Act) (w : World) : Prop := ∃ β S, ARelB C s β S a w

/-- What stood there stands there. -/
def Ext (w w' : World) : Prop := ∀ b, b < w.heap.size → w'.heap[b]? = w.heap[b]?
theorem Ext.refl (w : World) : Ext w w := fun _ _ => rfl

/-! ### Types -/
def aggD : TypeDesc → Bool
  | .struct _ | .array _ _ => true
  | _ => false
def aggT (P : Program) (t : TypeId) : Option Bool := (P.underlying t).map aggD

def szT (P : Program) (t : TypeId) : Option Nat := (P.info? t).map (·.size)

/-! ### Constants -/
def loK : IntKind → Int
  | .i8 => -128 | .i16 => -32768 | .i32 => -2147483648 | .i64 => -9223372036854775808
  | _ => 0
def hiK : IntKind → Int
  | .i8 => 127 | .i16 => 32767 | .i32 => 2147483647 | .i64 => 9223372036854775807
  | .u8 => 255 | .u16 => 65535 | .u32 => 4294967295 | .u64 => 18446744073709551615

theorem wrap_in {k : IntKind} {n : Int} : k.wrap n = n ↔ loK k ≤ n ∧ n ≤ hiK k := by
  cases k <;> simp [IntKind.wrap, IntKind.bits, IntKind.signed, loK, hiK] <;> (try split) <;> omega
theorem wrap_wrap (k : IntKind) (n : Int) : k.wrap (k.wrap n) = k.wrap n := by
  cases k <;> simp [IntKind.wrap, IntKind.bits, IntKind.signed] <;> (repeat' split) <;> omega

/-- A constant's deep value, by its type. -/
def constT (P : Program) : Nat → TypeId → List Value → D
  | 0, _, _ => .nilp
  | n + 1, t, cs =>
    match P.underlying t with
    | some (.struct fs) => .agg (fs.toList.map fun f => constT P n f.type ((cs.drop f.offset).take ((szT P f.type).getD 0)))
    | some (.array len e) => .agg ((List.range len).map fun i => constT P n e ((cs.drop (i * (szT P e).getD 0)).take ((szT P e).getD 0)))
    | some (.slice e) =>
      match P.underlying e with
      | some (.int k) => .ints k []
      | _ => .sl ((szT P e).getD 0) []
    | _ =>
      match cs with
      | [.int k n] => .int k n
      | [.bool b] => .bool b
      | [.string s] => .str (bytesOf s)
      | [.pointer none] => .nilp
      | [v] => .raw v
      | _ => .nilp

mutual
/-- Does a deep value stand for these constant cells? -/
def RepC : D → List Value → Prop
  | .int k n, cs => cs = [.int k n] ∧ loK k ≤ n ∧ n ≤ hiK k
  | .bool b, cs => cs = [.bool b]
  | .str xs, cs => ∃ s, cs = [.string s] ∧ bytesOf s = xs ∧ s.size ≤ 100000
  | .raw v, cs => cs = [v] ∧ plainV v = true
  | .ints _ xs, cs => xs = [] ∧ cs = [.slice none 0 0]
  | .sl _ es, cs => es = [] ∧ cs = [.slice none 0 0]
  | .nilp, cs => cs = [.pointer none]
  | .agg ds, cs => RepCs ds cs
  | .ptr _, _ => False
  | .fn f caps, cs => caps = [] ∧ cs = [.func (.func f) #[] #[]]
def RepCs : List D → List Value → Prop
  | [], cs => cs = []
  | d :: ds, cs => RepC d (cs.take d.size) ∧ RepCs ds (cs.drop d.size)
end

mutual
theorem RepC.rep {w : World} {S : Nat → Prop} : ∀ (d : D) (cs : List Value), RepC d cs → Rep w S d cs
  | .int k n, cs, h => by simp only [RepC] at h; simp only [Rep]; exact ⟨h.1, wrap_in.2 h.2⟩
  | .bool b, cs, h => by simp only [RepC] at h; simp only [Rep]; exact h
  | .str xs, cs, h => by
    simp only [RepC] at h; simp only [Rep]
    obtain ⟨s, h1, h2, h3⟩ := h
    exact ⟨s, h1, h2, by unfold LIM; omega⟩
  | .raw v, cs, h => by simp only [RepC] at h; simp only [Rep]; exact h
  | .ints k xs, cs, h => by
    simp only [RepC] at h; simp only [Rep]
    obtain ⟨rfl, rfl⟩ := h
    exact ⟨none, 0, rfl, by simp, by simp, by simp, fun h => (h rfl).elim⟩
  | .sl sz es, cs, h => by
    simp only [RepC] at h; simp only [Rep]
    obtain ⟨rfl, rfl⟩ := h
    exact ⟨none, 0, rfl, by simp, by simp, fun h => (h rfl).elim⟩
  | .ptr d, cs, h => by simp only [RepC] at h
  | .nilp, cs, h => by simp only [RepC] at h; simp only [Rep]; exact h
  | .agg ds, cs, h => by
    simp only [RepC] at h; simp only [Rep]
    exact RepCs.rep ds cs h
  | .fn f caps, cs, h => by
    simp only [RepC] at h; simp only [Rep]
    obtain ⟨rfl, rfl⟩ := h
    exact ⟨#[], rfl, by simp only [RepAll]⟩
theorem RepCs.rep {w : World} {S : Nat → Prop} : ∀ (ds : List D) (cs : List Value), RepCs ds cs → RepAll w S ds cs
  | [], cs, h => by simp only [RepCs] at h; simp only [RepAll]; exact h
  | d :: ds, cs, h => by
    simp only [RepCs] at h; simp only [RepAll]
    exact ⟨_, _, (List.take_append_drop d.size cs).symm, RepC.rep d _ h.1, RepCs.rep ds _ h.2⟩
end


def getO : List (Nat × Ob) → Nat → Option Ob
  | [], _ => none
  | (i, o) :: r, j => if i = j then some o else getO r j

theorem getO_mem : ∀ {st : List (Nat × Ob)} {j : Nat} {o : Ob}, getO st j = some o → (j, o) ∈ st
  | [], _, _, h => by simp [getO] at h
  | (i, p) :: r, j, o, h => by
    simp only [getO] at h
    split at h
    · rename_i e; subst e; injection h with h; subst h; simp
    · exact List.mem_cons_of_mem _ (getO_mem h)

/-- An operand's abstract value; 'ty': the type that it has there. -/
def aev (P : Program) (s : AState) (ty : TypeId) : Operand → AVal
  | .tmp t => s.fr t
  | .const (.slice none 0 0) => .nls (constT P 1 ty [])
  | .const v => .d (constT P 6 ty v.cells.toList)
  | .func f => .d (.fn f [])
  | .global g => match Globs.gl g with
    | some d => .d (.ptr d)
    | none => .any

/-- Is the type one whose values are single cells, and no slice? -/
def scalarT (P : Program) (ty : TypeId) : Bool := match P.underlying ty with
  | some (.struct _) | some (.array _ _) | some (.slice _) => false
  | _ => true

mutual
def repCB : D → List Value → Bool
  | .int k n, [.int k' n'] => k == k' && n == n' && decide (loK k ≤ n) && decide (n ≤ hiK k)
  | .bool b, [.bool b'] => b == b'
  | .ints _ [], [.slice none 0 0] => true
  | .sl _ [], [.slice none 0 0] => true
  | .nilp, [.pointer none] => true
  | .str [], [.string s] => s.size == 0
  | .raw .nilFunc, [.nilFunc] => true
  | .raw .nilIface, [.nilIface] => true
  | .raw (.map none), [.map none] => true
  | .agg ds, cs => repCBs ds cs
  | _, _ => false
def repCBs : List D → List Value → Bool
  | [], cs => cs.isEmpty
  | d :: ds, cs => repCB d (cs.take d.size) && repCBs ds (cs.drop d.size)
end

def constB (P : Program) (ty : TypeId) : Operand → Bool
  | .const (.slice none 0 0) => match constT P 1 ty [] with
    | .ints _ [] => true
    | .sl _ [] => true
    | _ => false
  | .const (.int k n) => scalarT P ty && decide (loK k ≤ n) && decide (n ≤ hiK k)
  | .const (.bool _) => scalarT P ty
  | .const (.string s) => scalarT P ty && decide (s.size ≤ 100000)
  | .const (.pointer none) => scalarT P ty
  | .const .nilFunc => scalarT P ty
  | .const .nilIface => scalarT P ty
  | .const (.agg cs) => (constT P 6 ty cs.toList).isAgg && repCB (constT P 6 ty cs.toList) cs.toList
  | .const _ => false
  | _ => true

def constOk (P : Program) (ty : TypeId) (x : Operand) : Prop := constB P ty x = true

mutual
theorem repCB_ok : ∀ (d : D) (cs : List Value), repCB d cs = true → RepC d cs
  | .int k n, cs, h => by
    unfold repCB at h
    split at h <;> simp_all [RepC]
    rename_i h2
    obtain ⟨⟨⟨rfl, rfl⟩, h3⟩, h4⟩ := h
    exact ⟨h3, h4⟩
  | .bool b, cs, h => by
    unfold repCB at h
    split at h <;> simp_all [RepC]
  | .str xs, cs, h => by
    unfold repCB at h
    split at h <;> simp_all [RepC]
    rfl
  | .raw v, cs, h => by
    unfold repCB at h
    split at h <;> simp_all [RepC, plainV]
  | .ints k xs, cs, h => by
    unfold repCB at h
    split at h <;> simp_all [RepC]
  | .sl sz es, cs, h => by
    unfold repCB at h
    split at h <;> simp_all [RepC]
  | .ptr d, cs, h => by unfold repCB at h; simp at h
  | .nilp, cs, h => by
    unfold repCB at h
    split at h <;> simp_all [RepC]
  | .agg ds, cs, h => by
    simp only [repCB] at h
    simp only [RepC]
    exact repCBs_ok ds cs h
  | .fn f caps, cs, h => by unfold repCB at h; simp at h
theorem repCBs_ok : ∀ (ds : List D) (cs : List Value), repCBs ds cs = true → RepCs ds cs
  | [], cs, h => by simp only [repCBs, List.isEmpty_iff] at h; simp only [RepCs]; exact h
  | d :: ds, cs, h => by
    simp only [repCBs, Bool.and_eq_true] at h
    simp only [RepCs]
    exact ⟨repCB_ok d _ h.1, repCBs_ok ds _ h.2⟩
end

theorem constT_scalar {P : Program} {ty : TypeId} (h : scalarT P ty = true) (n : Nat) (cs : List Value) : constT P (n + 1) ty cs = match cs with
    | [.int k n] => .int k n
    | [.bool b] => .bool b
    | [.string s] => .str (bytesOf s)
    | [.pointer none] => .nilp
    | [v] => .raw v
    | _ => .nilp := by
  unfold scalarT at h
  unfold constT
  split at h <;> first | (cases h; done) | rfl | skip
  all_goals
    rename_i h1 h2 h3
    split
    · rename_i e; exact (h1 _ e).elim
    · rename_i e; exact (h2 _ _ e).elim
    · rename_i e; exact (h3 _ e).elim
    · rfl

theorem constOk.spec {P : Program} {ty : TypeId} {v : Value} (h : constOk P ty (.const v)) (hne : v ≠ .slice none 0 0) : RepC (constT P 6 ty v.cells.toList) v.cells.toList ∧ packD (constT P 6 ty v.cells.toList) v.cells.toList = v := by
  unfold constOk constB at h
  split at h
  · rename_i e; injection e with e; exact (hne e).elim
  · rename_i k n e; injection e with e; subst e
    simp only [Bool.and_eq_true, decide_eq_true_eq] at h
    simp only [Value.cells, constT_scalar h.1.1, RepC, packD, List.headD, and_true, true_and]
    exact ⟨h.1.2, h.2⟩
  · rename_i b e; injection e with e; subst e
    simp only [Value.cells, constT_scalar h, RepC, packD, List.headD, and_true]
  · rename_i s e; injection e with e; subst e
    simp only [Bool.and_eq_true, decide_eq_true_eq] at h
    simp only [Value.cells, constT_scalar h.1, RepC, packD, List.headD, and_true]
    exact ⟨s, rfl, rfl, h.2⟩
  · rename_i e; injection e with e; subst e
    simp only [Value.cells, constT_scalar h, RepC, packD, List.headD, and_true]
  · rename_i e; injection e with e; subst e
    simp only [Value.cells, constT_scalar h, RepC, packD, List.headD, and_true, plainV]
  · rename_i e; injection e with e; subst e
    simp only [Value.cells, constT_scalar h, RepC, packD, List.headD, and_true, plainV]
  · rename_i cs e; injection e with e; subst e
    simp only [Bool.and_eq_true] at h
    refine ⟨repCB_ok _ _ h.2, ?_⟩
    simp only [Value.cells]
    have := h.1
    revert this
    cases constT P 6 ty cs.toList <;> simp [D.isAgg, packD]
  · cases h
  · rename_i h1 h2 h3 h4 h5 h6 h7 h8 h9; exact (h9 v rfl).elim

theorem aev_rel {P : Program} {C : Ctx} {s : AState} {β : Nat → Option Value} {S : Nat → Prop} {a : Act} {w : World} (h : ARelB C s β S a w) {ty : TypeId} {x : Operand} (hc : constOk P ty x) :
    VRel w β S (aev P s ty x) (a.eval x) := by
  cases x with
  | tmp t => simpa [Act.eval, aev] using h.fr t
  | func f => simp only [aev, VRel, Act.eval]; exact ⟨[.func (.func f) #[] #[]], by simp only [Rep]; exact ⟨#[], rfl, by simp only [RepAll]⟩, rfl⟩
  | global g =>
    simp only [aev]
    split
    · rename_i d hd
      obtain ⟨h1, vs, h2, h3⟩ := h.st.gl g d hd
      exact ⟨_, by simp only [Rep]; exact ⟨g, 0, rfl, h1, vs, h2, h3⟩, rfl⟩
    · simp only [VRel]
  | const v =>
    unfold aev
    split
    · rename_i e; cases e
    · rename_i e; injection e with e; subst e
      unfold constOk constB at hc
      simp only [VRel, Act.eval, true_and]
      split at hc
      · revert hc
        cases constT P 1 ty [] <;> simp [emptyD] <;> intro hc <;> (split at hc <;> simp_all)
      all_goals simp_all
    · rename_i v' hne e; injection e with e; subst e
      have := hc.spec fun e => hne (by rw [e])
      simp only [VRel, Act.eval]
      exact ⟨v.cells.toList, RepC.rep _ _ this.1, this.2.symm⟩
    · rename_i e; cases e
    · rename_i e; cases e

/-- A slot's deep value, if it is one. -/
def dv : AVal → Option D
  | .d x => some x
  | .em x => some x
  | .nls x => some x
  | _ => none

theorem dv_rel {w : World} {β : Nat → Option Value} {S : Nat → Prop} {x : AVal} {v : Value} {y : D} (h : VRel w β S x v) (hd : dv x = some y) : ∃ cs, Rep w S y cs ∧ v = packD y cs := by
  cases x <;> simp [dv] at hd
  case d z => subst hd; simpa only [VRel] using h
  case em z =>
    subst hd
    simp only [VRel] at h
    obtain ⟨⟨A, rfl⟩, he⟩ := h
    refine ⟨[.slice A 0 0], ?_, ?_⟩
    · unfold emptyD at he
      split at he <;> simp_all [Rep]
    · unfold emptyD at he
      split at he <;> simp_all [packD]
  case nls z =>
    subst hd
    simp only [VRel] at h
    obtain ⟨rfl, he⟩ := h
    refine ⟨[.slice none 0 0], ?_, ?_⟩
    · unfold emptyD at he
      split at he <;> simp_all [Rep]
    · unfold emptyD at he
      split at he <;> simp_all [packD]

/-! ### What each operation asks and gives -/
def qLoad (P : Program) (s : AState) (t : TypeId) (x : AVal) (K : AVal → Prop) : Prop :=
  match x with
  | .d (.ptr y) => aggT P t = some y.isAgg ∧ (y.isAgg = true → szT P t = some y.size) ∧ K (.d y)
  | .optr j off =>
    match getO s.st j with
    | some (.cell _ cs) =>
      (match aggT P t with
      | some true => off + (szT P t).getD 0 ≤ cs.length ∧ (szT P t).isSome = true ∧ K (.ag t ((cs.drop off).take ((szT P t).getD 0)))
      | some false => match cs[off]? with
        | some v => K v
        | none => False
      | none => False)
    | some (.row k _ xs) =>
      (match aggT P t with
      | some true => off + (szT P t).getD 0 ≤ xs.length ∧ 0 < (szT P t).getD 0 ∧ K (.d (.agg (((xs.drop off).take ((szT P t).getD 0)).map (D.int k))))
      | some false => off < xs.length ∧ K (.d (.int k (xs.getD off 0)))
      | none => False)
    | some (.rowD _ sz es) => sz = 1 ∧ aggT P t = some false ∧ off < es.length ∧ (es.getD off default).isAgg = false ∧ K (.d (es.getD off default))
    | none => False
  | _ => False

def qNil (x : AVal) (K : AVal → Prop) : Prop :=
  match x with
  | .d (.ptr y) => K (.d (.ptr y))
  | .d (.fn f cs) => K (.d (.fn f cs))
  | .optr j o => K (.optr j o)
  | .ofn f cs => K (.ofn f cs)
  | _ => False

def qField (P : Program) (t : TypeId) (x : AVal) (f : Nat) (K : AVal → Prop) : Prop :=
  match P.underlying t with
  | some (.struct fs) =>
    match fs[f]? with
    | some fd =>
      match x with
      | .d (.agg ds) =>
        match ds[f]? with
        | some y => D.sizes (ds.take f) = fd.offset ∧ aggT P fd.type = some y.isAgg ∧ (y.isAgg = true → szT P fd.type = some y.size) ∧ K (.d y)
        | none => False
      | .ag _ cs => aggT P fd.type = some false ∧ (match cs[fd.offset]? with | some v => K v | none => False)
      | _ => False
    | none => False
  | _ => False

def posB : Option Nat → Bool
  | some (_ + 1) => true
  | _ => false
theorem posB_spec {x : Option Nat} (h : posB x = true) : ∃ n, x = some (n + 1) := by
  unfold posB at h
  split at h
  · exact ⟨_, rfl⟩
  · cases h

def qFieldAddr (P : Program) (t : TypeId) (x : AVal) (f : Nat) (K : AVal → Prop) : Prop :=
  match P.underlying t with
  | some (.struct fs) =>
    match fs[f]? with
    | some fd =>
      posB (szT P fd.type) = true ∧
      match x with
      | .d (.ptr (.agg ds)) =>
        match ds[f]? with
        | some y => D.sizes (ds.take f) = fd.offset ∧ K (.d (.ptr y))
        | none => False
      | .optr j off => K (.optr j (off + fd.offset))
      | _ => False
    | none => False
  | _ => False

def qIndexAddr (P : Program) (s : AState) (t : TypeId) (x i : AVal) (K : AVal → Prop) : Prop :=
  match dv i with
  | some (.int _ n) =>
    match P.underlying t with
    | some (.slice e) =>
      match x with
      | .d (.ints k xs) => szT P e = some 1 ∧ 0 ≤ n ∧ n < xs.length ∧ K (.d (.ptr (.int k (xs.getD n.toNat 0))))
      | .d (.sl sz es) => szT P e = some sz ∧ 0 ≤ n ∧ n < es.length ∧ K (.d (.ptr (es.getD n.toNat default)))
      | .own j =>
        match getO s.st j with
        | some (.row _ _ xs) => szT P e = some 1 ∧ 0 ≤ n ∧ n < xs.length ∧ K (.optr j n.toNat)
        | some (.rowD _ sz es) => szT P e = some sz ∧ 0 ≤ n ∧ n < es.length ∧ K (.optr j (n.toNat * sz))
        | _ => False
      | .view j off len => szT P e = some 1 ∧ 0 ≤ n ∧ n < len ∧ K (.optr j (off + n.toNat))
      | _ => False
    | some (.array len e) =>
      match x with
      | .optr j off => szT P e = some 1 ∧ 0 ≤ n ∧ n < len ∧ K (.optr j (off + n.toNat))
      | _ => False
    | _ => False
  | _ => False

/-- Are these numbers of one kind? -/
def agInts : List D → Option (IntKind × List Int)
  | [] => none
  | [.int k n] => some (k, [n])
  | .int k n :: r => (match agInts r with
    | some (k', xs) => if k = k' then some (k, n :: xs) else none
    | none => none)
  | _ => none

def allD : List AVal → Option (List D)
  | [] => some []
  | .d x :: r => (match allD r with
    | some ds => some (x :: ds)
    | none => none)
  | _ :: _ => none

def qIndex (P : Program) (t : TypeId) (x i : AVal) (K : AVal → Prop) : Prop :=
  match dv i with
  | some (.int _ n) =>
    match P.underlying t with
    | some .string =>
      (match x with
      | .d (.str xs) => 0 ≤ n ∧ n < xs.length ∧ K (.d (.int .u8 (xs.getD n.toNat 0)))
      | _ => False)
    | some (.array len e) =>
      (match x with
      | .d (.agg ds) =>
        (match agInts ds with
        | some (k, xs) => aggT P e = some false ∧ szT P e = some 1 ∧ xs.length = len ∧ 0 ≤ n ∧ n < len ∧ K (.d (.int k (xs.getD n.toNat 0)))
        | none => False)
      | .ag _ cs =>
        (match (allD cs).bind agInts with
        | some (k, xs) => aggT P e = some false ∧ szT P e = some 1 ∧ xs.length = len ∧ 0 ≤ n ∧ n < len ∧ K (.d (.int k (xs.getD n.toNat 0)))
        | none => aggT P e = some false ∧ szT P e = some 1 ∧ 0 ≤ n ∧ n < len ∧ (match cs[n.toNat]? with | some v => K v | none => False))
      | _ => False)
    | _ => False
  | _ => False

def qExtract (x : AVal) (i : Nat) (K : AVal → Prop) : Prop :=
  match x with
  | .tup vs => match vs[i]? with
    | some v => K v
    | none => False
  | _ => False

def qLen (P : Program) (s : AState) (t : TypeId) (x : AVal) (K : AVal → Prop) : Prop :=
  match P.underlying t with
  | some (.slice _) =>
    match x with
    | .d (.ints _ xs) => K (.d (.int .i64 xs.length))
    | .d (.sl _ es) => K (.d (.int .i64 es.length))
    | .em _ | .nls _ => K (.d (.int .i64 0))
    | .own j =>
      match getO s.st j with
      | some (.row _ _ xs) => K (.d (.int .i64 xs.length))
      | some (.rowD _ _ es) => K (.d (.int .i64 es.length))
      | _ => False
    | .view _ _ len => len ≤ LIM ∧ K (.d (.int .i64 len))
    | _ => False
  | some .string =>
    match x with
    | .d (.str xs) => K (.d (.int .i64 xs.length))
    | _ => False
  | some (.array n _) => n ≤ LIM ∧ K (.d (.int .i64 n))
  | _ => False

/-- Bits, as the model has them. -/
def bitsK (op : BinOp) (k : IntKind) (x y : Int) : Int :=
  let a := BitVec.ofInt k.bits x
  let b := BitVec.ofInt k.bits y
  match op with
  | .and => k.wrap (a &&& b).toNat
  | .or => k.wrap (a ||| b).toNat
  | .xor => k.wrap (a ^^^ b).toNat
  | _ => k.wrap (a &&& ~~~b).toNat

def qInts (op : BinOp) (k : IntKind) (a b : Int) (K : AVal → Prop) : Prop :=
  match op with
  | .add => K (.d (.int k (k.wrap (a + b))))
  | .sub => K (.d (.int k (k.wrap (a - b))))
  | .mul => K (.d (.int k (k.wrap (a * b))))
  | .quo => b ≠ 0 ∧ K (.d (.int k (k.wrap (a.tdiv b))))
  | .rem => b ≠ 0 ∧ K (.d (.int k (a.tmod b)))
  | .and => K (.d (.int k (bitsK .and k a b)))
  | .or => K (.d (.int k (bitsK .or k a b)))
  | .xor => K (.d (.int k (bitsK .xor k a b)))
  | .andNot => K (.d (.int k (bitsK .andNot k a b)))
  | .eql => K (.d (.bool (decide (a = b))))
  | .neq => K (.d (.bool (!decide (a = b))))
  | .lss => K (.d (.bool (decide (a < b))))
  | .leq => K (.d (.bool (decide (a ≤ b))))
  | .gtr => K (.d (.bool (decide (b < a))))
  | .geq => K (.d (.bool (decide (b ≤ a))))
  | _ => False

def isNilPtr : AVal → Bool
  | .d .nilp => true
  | _ => false

/-- A slice held against nil: an empty one may be, or not. -/
def qNilSl (x : AVal) (s : AState) (K : Bool → Prop) : Prop :=
  match x with
  | .em _ => K true ∧ K false
  | .nls _ => K true
  | .d (.ints _ xs) => (xs = [] → K true) ∧ K false
  | .d (.sl _ es) => (es = [] → K true) ∧ K false
  | .own j =>
    match getO s.st j with
    | some (.row _ _ xs) => (xs = [] → K true) ∧ K false
    | some (.rowD _ _ es) => (es = [] → K true) ∧ K false
    | _ => False
  | _ => False

/-- Which text stands ahead of which. -/
def strLt : List Int → List Int → Bool
  | _, [] => false
  | [], _ :: _ => true
  | a :: x, b :: y => decide (a < b) || (decide (a = b) && strLt x y)

def qBin (P : Program) (s : AState) (op : BinOp) (t : TypeId) (x y : AVal) (K : AVal → Prop) : Prop :=
  match op, x, y with
  | .shl, .d (.int k a), .d (.int _ b) => 0 ≤ b ∧ K (.d (.int k (k.wrap (a * 2 ^ (min b.toNat k.bits)))))
  | .shr, .d (.int k a), .d (.int _ b) => 0 ≤ b ∧ K (.d (.int k (a / 2 ^ (min b.toNat k.bits))))
  | op, .d (.int k a), .d (.int k' b) => k = k' ∧ qInts op k a b K
  | .eql, .d (.str a), .d (.str b) => K (.d (.bool (decide (a = b))))
  | .neq, .d (.str a), .d (.str b) => K (.d (.bool (!decide (a = b))))
  | .lss, .d (.str a), .d (.str b) => K (.d (.bool (strLt a b)))
  | .leq, .d (.str a), .d (.str b) => K (.d (.bool (strLt a b || decide (a = b))))
  | .gtr, .d (.str a), .d (.str b) => K (.d (.bool (!(strLt a b || decide (a = b)))))
  | .geq, .d (.str a), .d (.str b) => K (.d (.bool (!strLt a b)))
  | .add, .d (.str a), .d (.str b) => a.length + b.length ≤ LIM ∧ K (.d (.str (a ++ b)))
  | .eql, .d (.bool a), .d (.bool b) => P.underlying t = some .bool ∧ K (.d (.bool (decide (a = b))))
  | .neq, .d (.bool a), .d (.bool b) => P.underlying t = some .bool ∧ K (.d (.bool (!decide (a = b))))
  | .eql, x, y =>
    match P.underlying t with
    | some (.slice _) => (match y with | .nls _ => qNilSl x s fun b => K (.d (.bool b)) | _ => False)
    | some (.pointer _) =>
      (match x, y with
      | .d .nilp, .d .nilp => K (.d (.bool true))
      | .d (.ptr _), .d .nilp | .d .nilp, .d (.ptr _) | .optr _ _, .d .nilp | .d .nilp, .optr _ _ => K (.d (.bool false))
      | _, _ => False)
    | _ => False
  | .neq, x, y =>
    match P.underlying t with
    | some (.slice _) => (match y with | .nls _ => qNilSl x s fun b => K (.d (.bool (!b))) | _ => False)
    | some (.pointer _) =>
      (match x, y with
      | .d .nilp, .d .nilp => K (.d (.bool false))
      | .d (.ptr _), .d .nilp | .d .nilp, .d (.ptr _) | .optr _ _, .d .nilp | .d .nilp, .optr _ _ => K (.d (.bool true))
      | _, _ => False)
    | _ => False
  | _, _, _ => False

def qUn (op : UnOp) (x : AVal) (K : AVal → Prop) : Prop :=
  match op, x with
  | .not, .d (.bool b) => K (.d (.bool (!b)))
  | .neg, .d (.int k n) => K (.d (.int k (k.wrap (0 - n))))
  | .xor, .d (.int k n) => K (.d (.int k (bitsK .xor k (if k.signed then -1 else k.max) n)))
  | _, _ => False

def qConv (P : Program) (src dst : TypeId) (x : AVal) (K : AVal → Prop) : Prop :=
  match P.underlying src, P.underlying dst, x with
  | some (.int _), some (.int k), .d (.int _ n) => K (.d (.int k (k.wrap n)))
  | some .string, some .string, .d (.str xs) => K (.d (.str xs))
  | some (.slice e), some .string, .d (.ints .u8 xs) => P.underlying e = some (.int .u8) ∧ K (.d (.str xs))
  | some (.slice e), some .string, .em _ => P.underlying e = some (.int .u8) ∧ K (.d (.str []))
  | some (.slice e), some .string, .nls _ => P.underlying e = some (.int .u8) ∧ K (.d (.str []))
  | _, _, _ => False

/-- A bound of a cut, where there is one. -/
def qBound (v : Option AVal) (dflt : Int) (K : Int → Prop) : Prop :=
  match v with
  | none => K dflt
  | some (.d (.int _ n)) => K n
  | _ => False

def qSlice (P : Program) (s : AState) (t : TypeId) (x : AVal) (lo hi mx : Option AVal) (K : AVal → Prop) : Prop :=
  match P.underlying t with
  | some (.slice e) =>
    match mx with
    | none =>
      (match x with
      | .d (.ints k xs) => qBound hi xs.length fun h => qBound lo 0 fun l => 0 ≤ l ∧ l ≤ h ∧ h ≤ xs.length ∧ szT P e = some 1 ∧ K (.d (.ints k ((xs.take h.toNat).drop l.toNat)))
      | .d (.sl sz es) => qBound hi es.length fun h => qBound lo 0 fun l => 0 ≤ l ∧ l ≤ h ∧ h ≤ es.length ∧ szT P e = some sz ∧ K (.d (.sl sz ((es.take h.toNat).drop l.toNat)))
      | .own j =>
        match getO s.st j with
        | some (.row _ _ xs) => qBound hi xs.length fun h => qBound lo 0 fun l => 0 ≤ l ∧ l ≤ h ∧ h ≤ xs.length ∧ szT P e = some 1 ∧ K (.view j l.toNat (h.toNat - l.toNat))
        | _ => False
      | .view j off len => qBound hi len fun h => qBound lo 0 fun l => 0 ≤ l ∧ l ≤ h ∧ h ≤ len ∧ szT P e = some 1 ∧ K (.view j (off + l.toNat) (h.toNat - l.toNat))
      | .em y => qBound hi 0 fun h => qBound lo 0 fun l => l = 0 ∧ h = 0 ∧ (szT P e).isSome = true ∧ K (.em y)
      | .nls y => qBound hi 0 fun h => qBound lo 0 fun l => l = 0 ∧ h = 0 ∧ (szT P e).isSome = true ∧ K (.nls y)
      | _ => False)
    | some (.d (.int _ 0)) =>
      (match x with
      | .d (.ints k _) => qBound hi 1 fun h => qBound lo 0 fun l => l = 0 ∧ h = 0 ∧ (szT P e).isSome = true ∧ K (.em (.ints k []))
      | .d (.sl sz _) => qBound hi 1 fun h => qBound lo 0 fun l => l = 0 ∧ h = 0 ∧ (szT P e).isSome = true ∧ K (.em (.sl sz []))
      | .em y => qBound hi 1 fun h => qBound lo 0 fun l => l = 0 ∧ h = 0 ∧ (szT P e).isSome = true ∧ K (.em y)
      | .nls y => qBound hi 1 fun h => qBound lo 0 fun l => l = 0 ∧ h = 0 ∧ (szT P e).isSome = true ∧ K (.nls y)
      | _ => False)
    | _ => False
  | some (.array n e) =>
    match mx, x with
    | none, .d (.ptr (.agg ds)) =>
      (match agInts ds with
      | some (k, xs) => xs.length = n ∧ n ≤ LIM ∧ qBound hi n fun h => qBound lo 0 fun l => 0 ≤ l ∧ l ≤ h ∧ h ≤ n ∧ szT P e = some 1 ∧ K (.d (.ints k ((xs.take h.toNat).drop l.toNat)))
      | none => False)
    | _, _ => False
  | some .string =>
    match mx, x with
    | none, .d (.str xs) => qBound hi xs.length fun h => qBound lo 0 fun l => 0 ≤ l ∧ l ≤ h ∧ h ≤ xs.length ∧ K (.d (.str ((xs.take h.toNat).drop l.toNat)))
    | _, _ => False
  | _ => False

def noAgg : List D → Bool
  | [] => true
  | d :: r => !d.isAgg && noAgg r
theorem noAgg_spec : ∀ {ds : List D}, noAgg ds = true → ∀ d ∈ ds, d.isAgg = false
  | [], _, d, h => by simp at h
  | x :: r, h, d, hd => by
    simp only [noAgg, Bool.and_eq_true, Bool.not_eq_true'] at h
    rcases List.mem_cons.1 hd with rfl | hd
    · exact h.1
    · exact noAgg_spec h.2 d hd

def qFunc (f : Fn) (first caps : List AVal) (K : AVal → Prop) : Prop :=
  match f, first with
  | .func f, [] => match allD caps with
    | some ds => noAgg ds = true ∧ K (.d (.fn f ds))
    | none => K (.ofn f caps)
  | _, _ => False

def qMinMax (isMax : Bool) (xs : List AVal) (K : AVal → Prop) : Prop :=
  match isMax, xs with
  | true, [.d (.int k a), .d (.int k' b)] => k = k' ∧ K (.d (.int k (max a b)))
  | true, [.d (.int k a), .d (.int k' b), .d (.int k'' c)] => k = k' ∧ k = k'' ∧ K (.d (.int k (max (max a b) c)))
  | true, [.d (.int k a), .d (.int k' b), .d (.int k'' c), .d (.int k3 e)] => k = k' ∧ k = k'' ∧ k = k3 ∧ K (.d (.int k (max (max (max a b) c) e)))
  | false, [.d (.int k a), .d (.int k' b)] => k = k' ∧ K (.d (.int k (min a b)))
  | false, [.d (.int k a), .d (.int k' b), .d (.int k'' c)] => k = k' ∧ k = k'' ∧ K (.d (.int k (min (min a b) c)))
  | false, [.d (.int k a), .d (.int k' b), .d (.int k'' c), .d (.int k3 e)] => k = k' ∧ k = k'' ∧ k = k3 ∧ K (.d (.int k (min (min (min a b) c) e)))
  | _, _ => False


theorem VAll.sub {w : World} {β : Nat → Option Value} {S : Nat → Prop} : ∀ (xs : List AVal) (vs : List Value), VAll w β S xs vs → ∀ off n, VAll w β S ((xs.drop off).take n) ((vs.drop off).take n)
  | [], vs, h, off, n => by simp only [VAll] at h; subst h; simp [VAll]
  | x :: xs, vs, h, off, n => by
    simp only [VAll] at h
    obtain ⟨v, r, rfl, h1, h2⟩ := h
    cases off with
    | succ off => simpa using VAll.sub xs r h2 off n
    | zero =>
      cases n with
      | zero => simp [VAll]
      | succ n =>
        have := VAll.sub xs r h2 0 n
        simp only [List.drop_zero] at this ⊢
        simp only [List.take_succ_cons, VAll]
        exact ⟨v, _, rfl, h1, this⟩

theorem sizes_one : ∀ (es : List D), (∀ e ∈ es, e.size = 1) → D.sizes es = es.length
  | [], _ => by simp [D.sizes]
  | e :: es, h => by simp [D.sizes, h e (by simp), sizes_one es fun x hx => h x (List.mem_cons_of_mem _ hx)]; omega

theorem take_one_drop {α : Type} {l : List α} {i : Nat} (h : i < l.length) : (l.drop i).take 1 = [l[i]] := by
  rw [List.drop_eq_getElem_cons h, List.take_succ_cons, List.take_zero]

section
variable {P : Program} {C : Ctx} {s : AState} {β : Nat → Option Value} {S : Nat → Prop} {a : Act} {w : World}

/-- What an operation comes to, in each world that has all that stood there. -/
def Runs (P : Program) (w : World) (m : Sem Value) (v : Value) : Prop := ∀ w', Ext w w' → m.run P w' = .ok v w'
/-- Whatever the world. -/
def Runs0 (P : Program) (_ : World) (m : Sem Value) (v : Value) : Prop := ∀ w' : World, True → m.run P w' = .ok v w'

theorem Ext.cell {w w' : World} (h : Ext w w') {b o : Nat} (hb : b < w.heap.size) : w'.cell? ⟨b, o, none⟩ = w.cell? ⟨b, o, none⟩ :=
  World.cell?_of_block (a := ⟨b, o, none⟩) (h b hb)

theorem run_isAggT {w : World} {t : TypeId} {b : Bool} (h : aggT P t = some b) : (isAgg t).run P w = .ok b w := by
  unfold aggT at h
  cases hd : P.underlying t with
  | none => simp [hd] at h
  | some d =>
    simp only [isAgg, Sem.run_bind, run_underlying hd, Result.andThen_ok]
    rw [hd] at h
    cases d <;> simp_all [aggD]

theorem run_sizeT {w : World} {t : TypeId} {n : Nat} (h : szT P t = some n) : (sizeOf t).run P w = .ok n w := by
  unfold szT at h
  simp only [sizeOf, typeInfo, Sem.run_bind, run_program, Result.andThen_ok]
  cases hi : P.info? t with
  | none => simp [hi] at h
  | some i => simp [hi] at h; simp [h]

theorem addr_add (b o n : Nat) : (⟨b, o, none⟩ : Addr).add n = ⟨b, o + n, none⟩ := by
  unfold Addr.add; split <;> simp_all

theorem loadCells_run {w : World} {b o : Nat} {cs : List Value} (h : Cells w b o cs) : (loadCells ⟨b, o, none⟩ cs.length).run P w = .ok cs.toArray w := by
  refine run_loadCells_list w ⟨b, o, none⟩ cs ?_
  intro j v hv
  rw [addr_add]
  exact h j v hv

/-- A load out of memory that holds these cells. -/
theorem loadVar_run {w : World} {t : TypeId} {b o : Nat} {x : D} {cs : List Value} (h1 : aggT P t = some x.isAgg) (h2 : x.isAgg = true → szT P t = some x.size)
    (hr : cs.length = x.size) (hc : Cells w b o cs) : (loadVar t ⟨b, o, none⟩).run P w = .ok (packD x cs) w := by
  unfold loadVar
  simp only [Sem.run_bind, run_isAggT h1, Result.andThen_ok]
  cases x with
  | agg ds =>
    have h3 := h2 rfl
    simp only [D.isAgg, if_true, Sem.run_bind, run_sizeT h3, Result.andThen_ok]
    rw [← hr, loadCells_run hc]
    simp [packD]
  | _ =>
    simp only [D.size] at hr
    match cs, hr with
    | [u], _ =>
      have := hc 0 u rfl
      simp only [Nat.add_zero] at this
      simp [D.isAgg, packD, this]

theorem packD_one {x : D} {cs : List Value} (hx : x.isAgg = false) : packD x cs = cs.headD undef := by cases x <;> simp_all [D.isAgg, packD]

theorem ownsV_cell {w : World} {t : TypeId} {sz : Nat} {v : Value} {n : Nat} {vs : List Value} (h : OwnsV w t sz v n vs) (hn : 0 < n) :
    ∃ g cap, v = .slice (some ⟨g, 0, none⟩) n cap ∧ blk v = some g ∧ n ≤ cap ∧ Cells w g 0 vs ∧ vs.length = n * sz ∧ g < w.heap.size ∧ ∀ o, w.frozen? ⟨g, o, none⟩ = false := by
  rcases h with ⟨A, _, h0, _⟩ | ⟨g, cap, cur, e, hc, hh, hle, hm, hz, hl, ht⟩
  · omega
  · refine ⟨g, cap, e, by rw [e]; simp [blk]; omega, hle, ?_, hl, ?_, fun o => by simp [World.frozen?, hh]⟩
    · intro i u hu
      simp only [World.cell?, hh, Option.isSome_none, Bool.false_eq_true, if_false, Nat.zero_add]
      rw [← ht] at hu
      have hi : i < n * sz := by
        have := (List.getElem?_eq_some_iff.1 hu).1
        simp at this; omega
      rw [List.getElem?_take_of_lt hi] at hu
      simpa using hu
    · rcases Nat.lt_or_ge g w.heap.size with h | h
      · exact h
      · rw [Array.getElem?_eq_none h] at hh; cases hh

/-- The block of an object lies in the world. -/
theorem ARelB.blk_lt (h : ARelB C s β S a w) {j : Nat} {o : Ob} (ho : getO s.st j = some o) {b : Nat} (hb : (β j).bind blk = some b) : b < w.heap.size :=
  (h.st.own b ⟨j, o, getO_mem ho, hb⟩).2

theorem repInts {w : World} {S : Nat → Prop} {k : IntKind} : ∀ {xs : List Int}, (∀ x ∈ xs, k.wrap x = x) → RepAll w S (xs.map (D.int k)) (xs.map (Value.int k))
  | [], _ => by simp [RepAll]
  | x :: xs, h => by
    simp only [List.map_cons, RepAll, Rep]
    exact ⟨[_], _, rfl, ⟨rfl, h x (by simp)⟩, repInts fun y hy => h y (by simp [hy])⟩

theorem qLoad_sound (h : ARelB C s β S a w) {t : TypeId} {x : AVal} {v : Value} {K : AVal → Prop} (hx : VRel w β S x v) (hq : qLoad P s t x K) :
    ∃ u r, Runs P w (Instr.loadAt t v) u ∧ VRel w β S r u ∧ K r := by
  unfold qLoad at hq
  split at hq
  · rename_i y
    obtain ⟨h1, h2, hK⟩ := hq
    simp only [VRel, Rep] at hx
    obtain ⟨cs, ⟨b, o, rfl, hb, vs, hc, hr⟩, rfl⟩ := hx
    refine ⟨packD y vs, .d y, fun w' hw => ?_, by simp only [VRel]; exact ⟨vs, hr, rfl⟩, hK⟩
    have hc' : Cells w' b o vs := hc.keep (hw b (h.st.inS b hb))
    simp only [packD, List.headD_cons, Instr.loadAt, Instr.sureAddr, Sem.run_bind, Sem.run_pure, Result.andThen_ok]
    exact loadVar_run h1 h2 (Rep.size _ _ hr) hc'
  · rename_i j off
    split at hq
    · rename_i t' cs ho
      obtain ⟨bv, hβ0, hob⟩ := h.st.obj j _ (getO_mem ho)
      simp only [ORel] at hob
      obtain ⟨g, vs, hβ, hh, hv⟩ := hob
      simp only [VRel] at hx
      obtain ⟨b, hb, rfl⟩ := hx
      have hbg : b = g := by rw [hβ0, hβ] at hb; simpa [blk] using hb.symm
      subst hbg
      have hlt : b < w.heap.size := h.blk_lt ho hb
      have hlen := VAll.length _ _ hv
      split at hq
      · rename_i hagg
        obtain ⟨h1, h2, hK⟩ := hq
        obtain ⟨n, hn⟩ := Option.isSome_iff_exists.1 h2
        rw [hn] at h1 hK
        simp only [Option.getD_some] at h1 hK
        have hcells : Cells w b off ((vs.toList.drop off).take n) := by
          intro i u hu
          simp only [World.cell?, hh, Option.isSome_none, Bool.false_eq_true, if_false]
          have hi : i < n := by
            have := (List.getElem?_eq_some_iff.1 hu).1
            simp at this; omega
          rw [List.getElem?_take_of_lt hi, List.getElem?_drop] at hu
          simpa using hu
        have hl2 : ((vs.toList.drop off).take n).length = n := by simp at hlen ⊢; omega
        refine ⟨.agg ((vs.toList.drop off).take n).toArray, .ag t ((cs.drop off).take n), fun w' hw => ?_, ?_, hK⟩
        · have hc' := hcells.keep (hw b hlt)
          simp only [Instr.loadAt, Instr.sureAddr, Sem.run_bind, Sem.run_pure, Result.andThen_ok, loadVar, run_isAggT hagg, if_true, run_sizeT hn]
          have := loadCells_run (P := P) hc'
          rw [hl2] at this
          rw [this]; rfl
        · simp only [VRel]
          refine ⟨_, rfl, ?_⟩
          exact VAll.sub _ _ hv off n
      · rename_i hagg
        split at hq
        · rename_i u hu
          obtain ⟨val, hval, hr⟩ := VAll.get _ _ hv off u hu
          refine ⟨val, u, fun w' hw => ?_, hr, hq⟩
          have hc : w'.cell? ⟨b, off, none⟩ = some val := by
            rw [hw.cell hlt]
            simp only [World.cell?, hh, Option.isSome_none, Bool.false_eq_true, if_false]
            simpa using hval
          simp only [Instr.loadAt, Instr.sureAddr, Sem.run_bind, Sem.run_pure, Result.andThen_ok, loadVar, run_isAggT hagg, Bool.false_eq_true, if_false]
          simp [hc]
        · exact hq.elim
      · exact hq.elim
    · rename_i k t' xs ho
      split at hq
      · rename_i hagg
        obtain ⟨h1, h2, hK⟩ := hq
        obtain ⟨n, hn⟩ : ∃ n, szT P t = some n := by
          cases hs : szT P t with
          | none => rw [hs] at h2; simp at h2
          | some n => exact ⟨n, rfl⟩
        rw [hn] at h1 h2 hK
        simp only [Option.getD_some] at h1 h2 hK
        obtain ⟨bv, hβ0, hob⟩ := h.st.obj j _ (getO_mem ho)
        simp only [ORel] at hob
        obtain ⟨hown, hwf, _⟩ := hob
        obtain ⟨g, cap, hβ, hbg, hle, hc, hl, hlt, _⟩ := ownsV_cell hown (by omega)
        simp only [VRel] at hx
        obtain ⟨b, hb, rfl⟩ := hx
        rw [hβ0, Option.bind_some, hbg] at hb; injection hb with hb; subst hb
        have hl2 : (((xs.drop off).take n).map (Value.int k)).length = n := by simp; omega
        have hcells : Cells w g off (((xs.drop off).take n).map (Value.int k)) := by
          intro i u hu
          have hi : i < n := by
            have := (List.getElem?_eq_some_iff.1 hu).1
            omega
          have := hc (off + i) u (by
            rw [List.getElem?_map, List.getElem?_take_of_lt hi, List.getElem?_drop] at hu
            rw [List.getElem?_map]
            exact hu)
          rwa [Nat.zero_add] at this
        refine ⟨.agg (((xs.drop off).take n).map (Value.int k)).toArray, _, fun w' hw => ?_, ?_, hK⟩
        · have hc' := hcells.keep (hw g hlt)
          simp only [Instr.loadAt, Instr.sureAddr, Sem.run_bind, Sem.run_pure, Result.andThen_ok, loadVar, run_isAggT hagg, if_true, run_sizeT hn]
          have := loadCells_run (P := P) hc'
          rw [hl2] at this
          rw [this]; rfl
        · simp only [VRel, Rep]
          exact ⟨_, repInts (fun x hx => hwf x (List.mem_of_mem_drop (List.mem_of_mem_take hx))), rfl⟩
      rotate_left
      · exact hq.elim
      rename_i hagg
      obtain ⟨hlt0, hK⟩ := hq
      obtain ⟨bv, hβ0, hob⟩ := h.st.obj j _ (getO_mem ho)
      simp only [ORel] at hob
      obtain ⟨hown, hwf, _⟩ := hob
      obtain ⟨g, cap, hβ, hbg, hle, hc, hl, hlt, _⟩ := ownsV_cell hown (by omega)
      simp only [VRel] at hx
      obtain ⟨b, hb, rfl⟩ := hx
      rw [hβ0, Option.bind_some, hbg] at hb; injection hb with hb; subst hb
      have hget : xs[off]? = some (xs.getD off 0) := by simp [List.getD, List.getElem?_eq_getElem hlt0]
      refine ⟨.int k (xs.getD off 0), _, fun w' hw => ?_, ?_, hK⟩
      · have hc1 := hc off (.int k (xs.getD off 0)) (by simp [hlt0])
        simp only [Nat.zero_add] at hc1
        rw [← hw.cell hlt] at hc1
        simp only [Instr.loadAt, Instr.sureAddr, Sem.run_bind, Sem.run_pure, Result.andThen_ok, loadVar, run_isAggT hagg, Bool.false_eq_true, if_false]
        simp [hc1]
      · simp only [VRel, Rep]
        exact ⟨_, ⟨rfl, hwf _ (List.mem_of_getElem? hget)⟩, rfl⟩
    · rename_i t' sz es ho
      obtain ⟨rfl, hagg, hlt0, hone, hK⟩ := hq
      obtain ⟨bv, hβ0, hob⟩ := h.st.obj j _ (getO_mem ho)
      simp only [ORel] at hob
      obtain ⟨vs, hown, hall, hsz, _⟩ := hob
      obtain ⟨g, cap, hβ, hbg, hle, hc, hl, hlt, _⟩ := ownsV_cell hown (by omega)
      simp only [VRel] at hx
      obtain ⟨b, hb, rfl⟩ := hx
      rw [hβ0, Option.bind_some, hbg] at hb; injection hb with hb; subst hb
      have hget : es[off]? = some (es.getD off default) := by simp [List.getD, List.getElem?_eq_getElem hlt0]
      have hrep := RepAll.get es vs hall off _ hget
      have hsize1 : ∀ (m : Nat), m ≤ es.length → D.sizes (es.take m) = m := by
        intro m hm
        exact sizes_one (es.take m) (fun e he => hsz e (List.mem_of_mem_take he)) |>.trans (by simp; omega)
      rw [hsize1 off (by omega), hsz _ (List.mem_of_getElem? hget)] at hrep
      have hvl : off < vs.length := by rw [hl]; omega
      rw [take_one_drop hvl] at hrep
      refine ⟨vs[off], _, fun w' hw => ?_, ?_, hK⟩
      · have hc1 := hc off vs[off] (List.getElem?_eq_getElem hvl)
        simp only [Nat.zero_add] at hc1
        rw [← hw.cell hlt] at hc1
        simp only [Instr.loadAt, Instr.sureAddr, Sem.run_bind, Sem.run_pure, Result.andThen_ok, loadVar, run_isAggT hagg, Bool.false_eq_true, if_false]
        simp [hc1]
      · simp only [VRel]
        exact ⟨_, hrep, by rw [packD_one hone]; rfl⟩
    · exact hq.elim
  · exact hq.elim

end

section
variable {P : Program} {C : Ctx} {s : AState} {β : Nat → Option Value} {S : Nat → Prop} {a : Act} {w : World}

theorem RunsP.pure {v : Value} : Runs0 P w (Pure.pure v) v := fun _ _ => rfl

theorem qNil_sound {x : AVal} {v : Value} {K : AVal → Prop} (hx : VRel w β S x v) (hq : qNil x K) {o : Oper} {y : Operand} (ho : o.op = .nilCheck y) (hy : a.eval y = v) :
    ∃ r, (∀ w', (execOp a.eval o).run P w' = .ok (.value v) w') ∧ VRel w β S r v ∧ K r := by
  unfold qNil at hq
  split at hq
  · refine ⟨_, fun w' => ?_, hx, hq⟩
    simp only [VRel, Rep] at hx
    obtain ⟨cs, ⟨b, o', rfl, _⟩, rfl⟩ := hx
    simp [execOp, ho, hy, packD]
  · refine ⟨_, fun w' => ?_, hx, hq⟩
    simp only [VRel, Rep] at hx
    obtain ⟨cs, ⟨vs, rfl, _⟩, rfl⟩ := hx
    simp [execOp, ho, hy, packD]
  · refine ⟨_, fun w' => ?_, hx, hq⟩
    simp only [VRel] at hx
    obtain ⟨b, _, rfl⟩ := hx
    simp [execOp, ho, hy]
  · refine ⟨_, fun w' => ?_, hx, hq⟩
    simp only [VRel] at hx
    obtain ⟨vs, rfl, _⟩ := hx
    simp [execOp, ho, hy]
  · exact hq.elim

theorem part_run {w : World} {t : TypeId} {cs : List Value} {off : Nat} {y : D} (h1 : aggT P t = some y.isAgg) (h2 : y.isAgg = true → szT P t = some y.size)
    (hsz : ((cs.drop off).take y.size).length = y.size) : (part t cs.toArray off).run P w = .ok (packD y ((cs.drop off).take y.size)) w := by
  unfold part
  simp only [Sem.run_bind, run_isAggT h1, Result.andThen_ok]
  cases hy : y.isAgg with
  | true =>
    simp only [if_true, Sem.run_bind, run_sizeT (h2 hy), Result.andThen_ok, Sem.run_pure]
    cases y <;> simp_all [D.isAgg, packD]
  | false =>
    simp only [Bool.false_eq_true, if_false]
    rw [packD_one hy]
    have h1 : y.size = 1 := by cases y <;> simp_all [D.isAgg, D.size]
    rw [h1] at hsz ⊢
    have hlt : off < cs.length := by simp at hsz; omega
    have : cs.toArray[off]? = some cs[off] := by simp [hlt]
    rw [this]
    simp only [Sem.run_pure]
    rw [take_one_drop hlt]
    simp

theorem qField_sound {t : TypeId} {x : AVal} {v : Value} {f : Nat} {K : AVal → Prop} (hx : VRel w β S x v) (hq : qField P t x f K) :
    ∃ u r, (∀ w' : World, True → (Instr.field t v f).run P w' = .ok u w') ∧ VRel w β S r u ∧ K r := by
  unfold qField at hq
  split at hq
  · rename_i fs hu
    split at hq
    · rename_i fd hf
      split at hq
      · rename_i ds
        split at hq
        · rename_i y hy
          obtain ⟨h1, h2, h3, hK⟩ := hq
          simp only [VRel, Rep] at hx
          obtain ⟨cs, hall, rfl⟩ := hx
          have hr := RepAll.get ds cs hall f y hy
          rw [h1] at hr
          refine ⟨packD y ((cs.drop fd.offset).take y.size), .d y, fun w' _ => ?_, by simp only [VRel]; exact ⟨_, hr, rfl⟩, hK⟩
          have h' := part_run (P := P) (w := w') (cs := cs) (off := fd.offset) h2 h3 (Rep.size _ _ hr)
          simp only [Instr.field, Sem.run_bind, run_underlying hu, Result.andThen_ok, hf, packD, asAgg, Sem.run_pure, h']
        · exact hq.elim
      · rename_i cs
        obtain ⟨h1, hq⟩ := hq
        split at hq
        · rename_i r hr
          simp only [VRel] at hx
          obtain ⟨vs, rfl, hall⟩ := hx
          obtain ⟨u, hu', hru⟩ := VAll.get _ _ hall _ _ hr
          refine ⟨u, r, fun w' _ => ?_, hru, hq⟩
          have : vs[fd.offset]? = some u := by simpa using hu'
          simp only [Instr.field, Sem.run_bind, run_underlying hu, Result.andThen_ok, hf, asAgg, Sem.run_pure, part, run_isAggT h1, Bool.false_eq_true, if_false, this]
        · exact hq.elim
      · exact hq.elim
    · exact hq.elim
  · exact hq.elim

theorem Cells.sub {w : World} {b o : Nat} {vs : List Value} (h : Cells w b o vs) (i n : Nat) : Cells w b (o + i) ((vs.drop i).take n) := by
  intro k u hu
  have hk : k < n := by
    have := (List.getElem?_eq_some_iff.1 hu).1
    simp at this; omega
  rw [List.getElem?_take_of_lt hk, List.getElem?_drop] at hu
  rw [Nat.add_assoc]
  exact h _ u hu

theorem qFieldAddr_sound {t : TypeId} {x : AVal} {v : Value} {f : Nat} {K : AVal → Prop} (hx : VRel w β S x v) (hq : qFieldAddr P t x f K) :
    ∃ u r, Runs0 P w (Instr.fieldAt t v f) u ∧ VRel w β S r u ∧ K r := by
  unfold qFieldAddr at hq
  split at hq
  · rename_i fs hu
    split at hq
    · rename_i fd hf
      obtain ⟨hn0, hq⟩ := hq
      obtain ⟨n, hn⟩ := posB_spec hn0
      have hrun : ∀ (b o : Nat) (w' : World), (Instr.fieldAt t (.pointer (some ⟨b, o, none⟩)) f).run P w' = .ok (.pointer (some ⟨b, o + fd.offset, none⟩)) w' := fun b o w' => by
        simp only [Instr.fieldAt, Sem.run_bind, run_underlying hu, Result.andThen_ok, hf, Instr.sureAddr, Sem.run_pure, fieldPlace, run_sizeT hn, Nat.add_eq_zero_iff, Nat.one_ne_zero, and_false, if_false, addr_add]
      split at hq
      · rename_i ds
        split at hq
        · rename_i y hy
          obtain ⟨h1, hK⟩ := hq
          simp only [VRel, Rep] at hx
          obtain ⟨cs, ⟨b, o, rfl, hb, vs, hc, hall⟩, rfl⟩ := hx
          have hr := RepAll.get ds vs hall f y hy
          rw [h1] at hr
          refine ⟨.pointer (some ⟨b, o + fd.offset, none⟩), .d (.ptr y), fun w' _ => by simpa [packD] using hrun b o w', ?_, hK⟩
          simp only [VRel, Rep]
          exact ⟨_, ⟨b, _, rfl, hb, _, hc.sub fd.offset y.size, hr⟩, rfl⟩
        · exact hq.elim
      · rename_i j off
        simp only [VRel] at hx
        obtain ⟨b, hb, rfl⟩ := hx
        exact ⟨_, _, fun w' _ => hrun b off w', by simp only [VRel]; exact ⟨b, hb, rfl⟩, hq⟩
      · exact hq.elim
    · exact hq.elim
  · exact hq.elim

theorem dv_int {x : AVal} {v : Value} {k : IntKind} {n : Int} (hx : VRel w β S x v) (hd : dv x = some (.int k n)) : v = .int k n ∧ k.wrap n = n := by
  obtain ⟨cs, hr, rfl⟩ := dv_rel hx hd
  simp only [Rep] at hr
  obtain ⟨rfl, hw⟩ := hr
  exact ⟨rfl, hw⟩

theorem d_int {v : Value} {k : IntKind} {n : Int} (hx : VRel w β S (.d (.int k n)) v) : v = .int k n ∧ k.wrap n = n := dv_int hx rfl

theorem qIndexAddr_sound (h : ARelB C s β S a w) {t : TypeId} {x i : AVal} {v u : Value} {K : AVal → Prop} (hx : VRel w β S x v) (hi : VRel w β S i u) (hq : qIndexAddr P s t x i K) :
    ∃ y r, Runs0 P w (Instr.indexAt t v u) y ∧ VRel w β S r y ∧ K r := by
  unfold qIndexAddr at hq
  split at hq
  · rename_i k n hd
    obtain ⟨rfl, hkn⟩ := dv_int hi hd
    split at hq
    · rename_i e hu
      have hrun : ∀ (b o len c sz : Nat) (w' : World), szT P e = some sz → 0 ≤ n → n < len →
          (Instr.indexAt t (.slice (some ⟨b, o, none⟩) len c) (.int k n)).run P w' = .ok (.pointer (some ⟨b, o + n.toNat * sz, none⟩)) w' := fun b o len c sz w' hsz h0 h1 => by
        simp only [Instr.indexAt, asIntOf, Sem.run_bind, Sem.run_pure, Result.andThen_ok, run_underlying hu, h0, h1, and_self, if_true, run_sizeT hsz, addr_add]
      split at hq
      · rename_i kk xs
        obtain ⟨h1, h0, hlt, hK⟩ := hq
        simp only [VRel, Rep] at hx
        obtain ⟨cs, ⟨A, c, rfl, _, _, hwf, hne⟩, rfl⟩ := hx
        have hlt' : n.toNat < xs.length := by omega
        obtain ⟨b, o, rfl, hb, hc⟩ := hne (by intro e; subst e; simp at hlt')
        have hget : xs[n.toNat]? = some (xs.getD n.toNat 0) := by simp [List.getD, List.getElem?_eq_getElem hlt']
        refine ⟨.pointer (some ⟨b, o + n.toNat, none⟩), _, fun w' _ => by simpa [packD] using hrun b o xs.length c 1 w' h1 h0 hlt, ?_, hK⟩
        simp only [VRel, Rep]
        refine ⟨[.pointer (some ⟨b, o + n.toNat, none⟩)], ⟨b, o + n.toNat, rfl, hb, [.int kk (xs.getD n.toNat 0)], ?_, rfl, hwf _ (List.mem_of_getElem? hget)⟩, rfl⟩
        intro i w hw
        cases i with
        | zero =>
          simp at hw; subst hw
          simpa using hc n.toNat (.int kk (xs.getD n.toNat 0)) (by simp [hlt'])
        | succ i => simp at hw
      · rename_i sz es
        obtain ⟨h1, h0, hlt, hK⟩ := hq
        simp only [VRel, Rep] at hx
        obtain ⟨cs, ⟨A, c, rfl, _, _, hne⟩, rfl⟩ := hx
        have hlt' : n.toNat < es.length := by omega
        obtain ⟨b, o, rfl, hb, hrow⟩ := hne (by intro e; subst e; simp at hlt')
        have hget : es[n.toNat]? = some (es.getD n.toNat default) := by simp [List.getD, List.getElem?_eq_getElem hlt']
        obtain ⟨vs, hl, hc, hr⟩ := RepRow.get es b o hrow _ _ hget
        refine ⟨.pointer (some ⟨b, o + n.toNat * sz, none⟩), _, fun w' _ => by simpa [packD] using hrun b o es.length c sz w' h1 h0 hlt, ?_, hK⟩
        simp only [VRel, Rep]
        exact ⟨[.pointer (some ⟨b, o + n.toNat * sz, none⟩)], ⟨b, o + n.toNat * sz, rfl, hb, vs, hc, hr⟩, rfl⟩
      · rename_i j
        split at hq
        · rename_i kk t' xs ho
          obtain ⟨h1, h0, hlt, hK⟩ := hq
          obtain ⟨bv, hβ0, hob⟩ := h.st.obj j _ (getO_mem ho)
          simp only [ORel] at hob
          obtain ⟨g, cap, hβ, hbg, _⟩ := ownsV_cell hob.1 (by omega)
          simp only [VRel] at hx
          rw [hβ0] at hx; injection hx with hx; subst hx
          refine ⟨.pointer (some ⟨g, n.toNat, none⟩), _, fun w' _ => ?_, ?_, hK⟩
          · rw [hβ]; simpa using hrun g 0 xs.length cap 1 w' h1 h0 hlt
          · simp only [VRel]; exact ⟨g, by rw [hβ0]; exact hbg, rfl⟩
        · rename_i t' sz es ho
          obtain ⟨h1, h0, hlt, hK⟩ := hq
          obtain ⟨bv, hβ0, hob⟩ := h.st.obj j _ (getO_mem ho)
          simp only [ORel] at hob
          obtain ⟨vs, hown, _⟩ := hob
          obtain ⟨g, cap, hβ, hbg, _⟩ := ownsV_cell hown (by omega)
          simp only [VRel] at hx
          rw [hβ0] at hx; injection hx with hx; subst hx
          refine ⟨.pointer (some ⟨g, n.toNat * sz, none⟩), _, fun w' _ => ?_, ?_, hK⟩
          · rw [hβ]; simpa using hrun g 0 es.length cap sz w' h1 h0 hlt
          · simp only [VRel]; exact ⟨g, by rw [hβ0]; exact hbg, rfl⟩
        · exact hq.elim
      · rename_i j off len
        obtain ⟨h1, h0, hlt, hK⟩ := hq
        simp only [VRel] at hx
        obtain ⟨A, c, rfl, hle, hA⟩ := hx
        obtain ⟨b, hb, rfl⟩ := hA (by omega)
        refine ⟨.pointer (some ⟨b, off + n.toNat, none⟩), _, fun w' _ => by simpa using hrun b off len c 1 w' h1 h0 hlt, ?_, hK⟩
        simp only [VRel]; exact ⟨b, hb, rfl⟩
      · exact hq.elim
    · rename_i len e hu
      split at hq
      · rename_i j off
        obtain ⟨h1, h0, hlt, hK⟩ := hq
        simp only [VRel] at hx
        obtain ⟨b, hb, rfl⟩ := hx
        refine ⟨.pointer (some ⟨b, off + n.toNat, none⟩), _, fun w' _ => ?_, by simp only [VRel]; exact ⟨b, hb, rfl⟩, hK⟩
        simp only [Instr.indexAt, asIntOf, Sem.run_bind, Sem.run_pure, Result.andThen_ok, run_underlying hu, Instr.sureAddr, h0, hlt, and_self, if_true, run_sizeT h1, addr_add, Nat.mul_one]
      · exact hq.elim
    · exact hq.elim
  · exact hq.elim

end
end Go.Proofs.YtniaeiikdgbnfaaDoor.AW
