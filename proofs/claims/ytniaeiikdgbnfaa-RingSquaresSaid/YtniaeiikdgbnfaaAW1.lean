/- The abstract walker, part 1: deep values, owned objects, and what it is that they stand for in a world of the model. -/
import Derived.Below
import Derived.OwnWalk
import Derived.Laws.MakeOwn
import Derived.Laws.OwnMore
import Derived.Deep.Quiet
import Derived.Deep.LoopGhost
import Derived.Deep.AppendLies
import Derived.Maps.AppendAt
import Derived.RangeFuncRecord
import Derived.RangeFuncSeq
namespace Go.Proofs.Ytniaeiikdgbnfaa.AW
open Go Go.RowKit

def LIM : Nat := 140737488355328

/-- Deep values: what never changes any more. -/
inductive D where
  | int (k : IntKind) (n : Int)
  | bool (b : Bool)
  | str (xs : List Int)
  | raw (v : Value)
  | ints (k : IntKind) (xs : List Int)
  | sl (sz : Nat) (es : List D)
  | ptr (d : D)
  | nilp
  | agg (ds : List D)
  | fn (f : FuncId) (caps : List D)

instance : Inhabited D := ⟨.bool false⟩

def bytesOf (s : ByteArray) : List Int := s.data.toList.map fun b => (b.toNat : Int)

def plainV : Value → Bool
  | .float .. | .complex .. | .nilIface | .nilFunc | .map none => true
  | _ => false

/-- The cells from an offset of a block on. -/
def Cells (w : World) (b o : Nat) (vs : List Value) : Prop := ∀ i v, vs[i]? = some v → w.cell? ⟨b, o + i, none⟩ = some v

mutual
def Rep (w : World) (S : Nat → Prop) : D → List Value → Prop
  | .int k n, cs => cs = [.int k n] ∧ k.wrap n = n
  | .bool b, cs => cs = [.bool b]
  | .str xs, cs => ∃ s, cs = [.string s] ∧ bytesOf s = xs ∧ s.size ≤ LIM
  | .raw v, cs => cs = [v] ∧ plainV v = true
  | .ints k xs, cs => ∃ A c, cs = [.slice A xs.length c] ∧ xs.length ≤ c ∧ xs.length ≤ LIM ∧ (∀ x ∈ xs, k.wrap x = x) ∧
      (xs ≠ [] → ∃ b o, A = some ⟨b, o, none⟩ ∧ S b ∧ Cells w b o (xs.map (Value.int k)))
  | .sl sz es, cs => ∃ A c, cs = [.slice A es.length c] ∧ es.length ≤ c ∧ es.length ≤ LIM ∧
      (es ≠ [] → ∃ b o, A = some ⟨b, o, none⟩ ∧ S b ∧ RepRow w S sz es b o)
  | .ptr d, cs => ∃ b o, cs = [.pointer (some ⟨b, o, none⟩)] ∧ S b ∧ ∃ vs, Cells w b o vs ∧ Rep w S d vs
  | .nilp, cs => cs = [.pointer none]
  | .agg ds, cs => RepAll w S ds cs
  | .fn f caps, cs => ∃ vs, cs = [.func (.func f) #[] vs] ∧ RepAll w S caps vs.toList
def RepAll (w : World) (S : Nat → Prop) : List D → List Value → Prop
  | [], cs => cs = []
  | d :: ds, cs => ∃ c1 c2, cs = c1 ++ c2 ∧ Rep w S d c1 ∧ RepAll w S ds c2
def RepRow (w : World) (S : Nat → Prop) (sz : Nat) : List D → Nat → Nat → Prop
  | [], _, _ => True
  | d :: ds, b, o => (∃ vs, vs.length = sz ∧ Cells w b o vs ∧ Rep w S d vs) ∧ RepRow w S sz ds b (o + sz)
end

mutual
def D.size : D → Nat
  | .agg ds => D.sizes ds
  | _ => 1
def D.sizes : List D → Nat
  | [] => 0
  | d :: ds => d.size + D.sizes ds
end

def D.isAgg : D → Bool
  | .agg _ => true
  | _ => false

theorem Cells.keep {w w' : World} {b o : Nat} {vs : List Value} (h : Cells w b o vs) (hw : w'.heap[b]? = w.heap[b]?) : Cells w' b o vs :=
  fun i v hv => (World.cell?_of_block (a := ⟨b, o + i, none⟩) hw).trans (h i v hv)

mutual
theorem Rep.keep {w w' : World} {S S' : Nat → Prop} (hS : ∀ b, S b → S' b ∧ w'.heap[b]? = w.heap[b]?) : ∀ (d : D) (cs : List Value), Rep w S d cs → Rep w' S' d cs
  | .int k n, cs, h => by simpa only [Rep] using h
  | .bool b, cs, h => by simpa only [Rep] using h
  | .str xs, cs, h => by simpa only [Rep] using h
  | .raw v, cs, h => by simpa only [Rep] using h
  | .ints k xs, cs, h => by
    simp only [Rep] at h ⊢
    obtain ⟨A, c, h1, h2, h3, h4, h5⟩ := h
    refine ⟨A, c, h1, h2, h3, h4, fun hne => ?_⟩
    obtain ⟨b, o, e, hb, hc⟩ := h5 hne
    exact ⟨b, o, e, (hS b hb).1, hc.keep (hS b hb).2⟩
  | .sl sz es, cs, h => by
    simp only [Rep] at h ⊢
    obtain ⟨A, c, h1, h2, h3, h5⟩ := h
    refine ⟨A, c, h1, h2, h3, fun hne => ?_⟩
    obtain ⟨b, o, e, hb, hc⟩ := h5 hne
    exact ⟨b, o, e, (hS b hb).1, RepRow.keep hS sz es b o (hS b hb).2 hc⟩
  | .ptr d, cs, h => by
    simp only [Rep] at h ⊢
    obtain ⟨b, o, h1, h2, vs, h3, h4⟩ := h
    exact ⟨b, o, h1, (hS b h2).1, vs, h3.keep (hS b h2).2, Rep.keep hS d vs h4⟩
  | .nilp, cs, h => by simpa only [Rep] using h
  | .agg ds, cs, h => by
    simp only [Rep] at h ⊢
    exact RepAll.keep hS ds cs h
  | .fn f caps, cs, h => by
    simp only [Rep] at h ⊢
    obtain ⟨vs, h1, h2⟩ := h
    exact ⟨vs, h1, RepAll.keep hS caps _ h2⟩
theorem RepAll.keep {w w' : World} {S S' : Nat → Prop} (hS : ∀ b, S b → S' b ∧ w'.heap[b]? = w.heap[b]?) : ∀ (ds : List D) (cs : List Value), RepAll w S ds cs → RepAll w' S' ds cs
  | [], cs, h => by simpa only [RepAll] using h
  | d :: ds, cs, h => by
    simp only [RepAll] at h ⊢
    obtain ⟨c1, c2, e, h1, h2⟩ := h
    exact ⟨c1, c2, e, Rep.keep hS d c1 h1, RepAll.keep hS ds c2 h2⟩
theorem RepRow.keep {w w' : World} {S S' : Nat → Prop} (hS : ∀ b, S b → S' b ∧ w'.heap[b]? = w.heap[b]?) (sz : Nat) : ∀ (ds : List D) (b o : Nat), w'.heap[b]? = w.heap[b]? → RepRow w S sz ds b o → RepRow w' S' sz ds b o
  | [], b, o, _, h => by simp only [RepRow]
  | d :: ds, b, o, hb, h => by
    simp only [RepRow] at h ⊢
    obtain ⟨⟨vs, e, h1, h2⟩, h3⟩ := h
    exact ⟨⟨vs, e, h1.keep hb, Rep.keep hS d vs h2⟩, RepRow.keep hS sz ds b (o + sz) hb h3⟩
end

mutual
theorem Rep.size {w : World} {S : Nat → Prop} : ∀ (d : D) (cs : List Value), Rep w S d cs → cs.length = d.size
  | .int k n, cs, h => by simp only [Rep] at h; simp [h.1, D.size]
  | .bool b, cs, h => by simp only [Rep] at h; simp [h, D.size]
  | .str xs, cs, h => by simp only [Rep] at h; obtain ⟨s, h1, _⟩ := h; simp [h1, D.size]
  | .raw v, cs, h => by simp only [Rep] at h; simp [h.1, D.size]
  | .ints k xs, cs, h => by simp only [Rep] at h; obtain ⟨A, c, h1, _⟩ := h; simp [h1, D.size]
  | .sl sz es, cs, h => by simp only [Rep] at h; obtain ⟨A, c, h1, _⟩ := h; simp [h1, D.size]
  | .ptr d, cs, h => by simp only [Rep] at h; obtain ⟨b, o, h1, _⟩ := h; simp [h1, D.size]
  | .nilp, cs, h => by simp only [Rep] at h; simp [h, D.size]
  | .agg ds, cs, h => by simp only [Rep] at h; simp only [D.size]; exact RepAll.size ds cs h
  | .fn f caps, cs, h => by simp only [Rep] at h; obtain ⟨vs, h1, _⟩ := h; simp [h1, D.size]
theorem RepAll.size {w : World} {S : Nat → Prop} : ∀ (ds : List D) (cs : List Value), RepAll w S ds cs → cs.length = D.sizes ds
  | [], cs, h => by simp only [RepAll] at h; simp [h, D.sizes]
  | d :: ds, cs, h => by
    simp only [RepAll] at h
    obtain ⟨c1, c2, e, h1, h2⟩ := h
    simp [e, D.sizes, Rep.size d c1 h1, RepAll.size ds c2 h2]
end

/-- A part of an aggregate. -/
theorem RepAll.get {w : World} {S : Nat → Prop} : ∀ (ds : List D) (cs : List Value), RepAll w S ds cs → ∀ (i : Nat) (d : D), ds[i]? = some d →
    Rep w S d ((cs.drop (D.sizes (ds.take i))).take d.size)
  | [], cs, h, i, d, hi => by simp at hi
  | e :: ds, cs, h, i, d, hi => by
    simp only [RepAll] at h
    obtain ⟨c1, c2, rfl, h1, h2⟩ := h
    cases i with
    | zero =>
      simp at hi; subst hi
      have := Rep.size _ _ h1
      simp [D.sizes, ← this, h1]
    | succ i =>
      simp at hi
      have ih := RepAll.get ds c2 h2 i d hi
      have hs := Rep.size _ _ h1
      simp only [List.take_succ_cons, D.sizes]
      rw [List.drop_append, List.drop_eq_nil_of_le (by omega), ← hs]
      simpa using ih

/-- An element of a row. -/
theorem RepRow.get {w : World} {S : Nat → Prop} {sz : Nat} : ∀ (ds : List D) (b o : Nat), RepRow w S sz ds b o → ∀ (i : Nat) (d : D), ds[i]? = some d →
    ∃ vs, vs.length = sz ∧ Cells w b (o + i * sz) vs ∧ Rep w S d vs
  | [], b, o, h, i, d, hi => by simp at hi
  | e :: ds, b, o, h, i, d, hi => by
    simp only [RepRow] at h
    obtain ⟨h1, h2⟩ := h
    cases i with
    | zero => simp at hi; subst hi; simpa using h1
    | succ i =>
      simp at hi
      have ih := RepRow.get ds b (o + sz) h2 i d hi
      rwa [show o + sz + i * sz = o + (i + 1) * sz by rw [Nat.add_mul]; omega] at ih

/-- Abstract values: what a slot of a frame holds. -/
inductive AVal where
  | any
  | un
  | d (x : D)
  | em (x : D)
  | nls (x : D)
  | own (j : Nat)
  | view (j off len : Nat)
  | optr (j off : Nat)
  | ag (t : TypeId) (cs : List AVal)
  | tup (vs : List AVal)
  | ofn (f : FuncId) (caps : List AVal)

instance : Inhabited AVal := ⟨.any⟩

/-- Owned objects. -/
inductive Ob where
  | row (k : IntKind) (t : TypeId) (xs : List Int)
  | rowD (t : TypeId) (sz : Nat) (es : List D)
  | cell (t : TypeId) (cs : List AVal)

def packD : D → List Value → Value
  | .agg _, cs => .agg cs.toArray
  | _, cs => cs.headD undef

def blk : Value → Option Nat
  | .slice (some a) _ c => if c = 0 then none else some a.block
  | .pointer (some a) => some a.block
  | _ => none

def emptyD : D → Bool
  | .ints _ [] | .sl _ [] => true
  | _ => false

mutual
def VRel (w : World) (β : Nat → Option Value) (S : Nat → Prop) : AVal → Value → Prop
  | .any, _ => True
  | .un, v => v = undef
  | .d x, v => ∃ cs, Rep w S x cs ∧ v = packD x cs
  | .em x, v => (∃ A, v = .slice A 0 0) ∧ emptyD x = true
  | .nls x, v => v = .slice none 0 0 ∧ emptyD x = true
  | .own j, v => β j = some v
  | .view j off len, v => ∃ A c, v = .slice A len c ∧ len ≤ c ∧ (0 < len → ∃ b, (β j).bind blk = some b ∧ A = some ⟨b, off, none⟩)
  | .optr j off, v => ∃ b, (β j).bind blk = some b ∧ v = .pointer (some ⟨b, off, none⟩)
  | .ag _ cs, v => ∃ vs, v = .agg vs ∧ VAll w β S cs vs.toList
  | .tup cs, v => ∃ vs, v = .tuple vs ∧ VAll w β S cs vs.toList
  | .ofn f caps, v => ∃ vs, v = .func (.func f) #[] vs ∧ VAll w β S caps vs.toList
def VAll (w : World) (β : Nat → Option Value) (S : Nat → Prop) : List AVal → List Value → Prop
  | [], vs => vs = []
  | x :: xs, vs => ∃ v r, vs = v :: r ∧ VRel w β S x v ∧ VAll w β S xs r
end

/-- A row of the call's own, or an empty slice without capacity. -/
def OwnsV (w : World) (t : TypeId) (sz : Nat) (v : Value) (n : Nat) (vs : List Value) : Prop :=
  (∃ A, v = .slice A 0 0 ∧ n = 0 ∧ vs = []) ∨
  ∃ g cap cur, v = .slice (some ⟨g, 0, none⟩) n cap ∧ 0 < cap ∧ w.heap[g]? = some (.cells cur t (0, 0)) ∧ n ≤ cap ∧ cap ≤ maxLen ∧ cur.size = cap * sz ∧ vs.length = n * sz ∧ cur.toList.take (n * sz) = vs

theorem OwnsV.keep {w w' : World} {t : TypeId} {sz : Nat} {v : Value} {n : Nat} {vs : List Value} (h : OwnsV w t sz v n vs) (hj : ∀ b, blk v = some b → w'.heap[b]? = w.heap[b]?) : OwnsV w' t sz v n vs := by
  rcases h with h | ⟨g, cap, cur, e, hc, hh, r⟩
  · exact .inl h
  · exact .inr ⟨g, cap, cur, e, hc, by rw [hj g (by rw [e]; simp [blk]; omega)]; exact hh, r⟩

def ORel (w : World) (β : Nat → Option Value) (S : Nat → Prop) (v : Value) : Ob → Prop
  | .row k t xs => OwnsV w t 1 v xs.length (xs.map (Value.int k)) ∧ (∀ x ∈ xs, k.wrap x = x) ∧ xs.length ≤ LIM
  | .rowD t sz es => ∃ vs, OwnsV w t sz v es.length vs ∧ RepAll w S es vs ∧ (∀ e ∈ es, e.size = sz) ∧ es.length ≤ LIM ∧ 0 < sz
  | .cell t cs => ∃ b vs, v = .pointer (some ⟨b, 0, none⟩) ∧ w.heap[b]? = some (.cells vs t (0, 0)) ∧ VAll w β S cs vs.toList

theorem keepB {β β' : Nat → Option Value} (hβ : ∀ j u, β j = some u → β' j = some u) {j b : Nat} (h : (β j).bind blk = some b) : (β' j).bind blk = some b := by
  cases e : β j with
  | none => simp [e] at h
  | some u => rw [e] at h; rw [hβ j u e]; exact h

mutual
theorem VRel.keep {w w' : World} {β β' : Nat → Option Value} {S S' : Nat → Prop} (hS : ∀ b, S b → S' b ∧ w'.heap[b]? = w.heap[b]?) (hβ : ∀ j u, β j = some u → β' j = some u) :
    ∀ (x : AVal) (v : Value), VRel w β S x v → VRel w' β' S' x v
  | .any, v, h => by simp only [VRel]
  | .un, v, h => by simpa only [VRel] using h
  | .d x, v, h => by
    simp only [VRel] at h ⊢
    obtain ⟨cs, h1, h2⟩ := h
    exact ⟨cs, h1.keep hS, h2⟩
  | .em x, v, h => by simpa only [VRel] using h
  | .nls x, v, h => by simpa only [VRel] using h
  | .own j, v, h => by simp only [VRel] at h ⊢; exact hβ _ _ h
  | .view j off len, v, h => by
    simp only [VRel] at h ⊢
    obtain ⟨A, c, e, hl, hA⟩ := h
    exact ⟨A, c, e, hl, fun hp => let ⟨b, hb, e'⟩ := hA hp; ⟨b, keepB hβ hb, e'⟩⟩
  | .optr j off, v, h => by
    simp only [VRel] at h ⊢
    obtain ⟨b, hb, e⟩ := h
    exact ⟨b, keepB hβ hb, e⟩
  | .ag _ cs, v, h => by
    simp only [VRel] at h ⊢
    obtain ⟨vs, h1, h2⟩ := h
    exact ⟨vs, h1, VAll.keep hS hβ cs _ h2⟩
  | .tup cs, v, h => by
    simp only [VRel] at h ⊢
    obtain ⟨vs, h1, h2⟩ := h
    exact ⟨vs, h1, VAll.keep hS hβ cs _ h2⟩
  | .ofn f cs, v, h => by
    simp only [VRel] at h ⊢
    obtain ⟨vs, h1, h2⟩ := h
    exact ⟨vs, h1, VAll.keep hS hβ cs _ h2⟩
theorem VAll.keep {w w' : World} {β β' : Nat → Option Value} {S S' : Nat → Prop} (hS : ∀ b, S b → S' b ∧ w'.heap[b]? = w.heap[b]?) (hβ : ∀ j u, β j = some u → β' j = some u) :
    ∀ (xs : List AVal) (vs : List Value), VAll w β S xs vs → VAll w' β' S' xs vs
  | [], vs, h => by simpa only [VAll] using h
  | x :: xs, vs, h => by
    simp only [VAll] at h ⊢
    obtain ⟨v, r, e, h1, h2⟩ := h
    exact ⟨v, r, e, VRel.keep hS hβ x v h1, VAll.keep hS hβ xs r h2⟩
end

theorem VAll.length {w : World} {β : Nat → Option Value} {S : Nat → Prop} : ∀ (xs : List AVal) (vs : List Value), VAll w β S xs vs → vs.length = xs.length
  | [], vs, h => by simp only [VAll] at h; simp [h]
  | x :: xs, vs, h => by
    simp only [VAll] at h
    obtain ⟨v, r, e, h1, h2⟩ := h
    simp [e, VAll.length xs r h2]

theorem VAll.get {w : World} {β : Nat → Option Value} {S : Nat → Prop} : ∀ (xs : List AVal) (vs : List Value), VAll w β S xs vs → ∀ (i : Nat) (x : AVal), xs[i]? = some x → ∃ v, vs[i]? = some v ∧ VRel w β S x v
  | [], vs, h, i, x, hi => by simp at hi
  | y :: xs, vs, h, i, x, hi => by
    simp only [VAll] at h
    obtain ⟨v, r, rfl, h1, h2⟩ := h
    cases i with
    | zero => simp at hi; subst hi; exact ⟨v, by simp, h1⟩
    | succ i => simp at hi; obtain ⟨u, hu, hr⟩ := VAll.get xs r h2 i x hi; exact ⟨u, by simpa using hu, hr⟩

theorem ORel.keep {w w' : World} {β β' : Nat → Option Value} {S S' : Nat → Prop} (hS : ∀ b, S b → S' b ∧ w'.heap[b]? = w.heap[b]?) (hβ : ∀ j u, β j = some u → β' j = some u) {v : Value}
    (hj : ∀ b, blk v = some b → w'.heap[b]? = w.heap[b]?) : ∀ {o : Ob}, ORel w β S v o → ORel w' β' S' v o
  | .row k t xs, h => by
    simp only [ORel] at h ⊢
    obtain ⟨h1, h2, h3⟩ := h
    exact ⟨h1.keep hj, h2, h3⟩
  | .rowD t sz es, h => by
    simp only [ORel] at h ⊢
    obtain ⟨vs, h1, h2, h3, h4⟩ := h
    exact ⟨vs, h1.keep hj, RepAll.keep hS es vs h2, h3, h4⟩
  | .cell t cs, h => by
    simp only [ORel] at h ⊢
    obtain ⟨b, vs, h1, h2, h3⟩ := h
    exact ⟨b, vs, h1, by rw [hj b (by rw [h1]; rfl)]; exact h2, VAll.keep hS hβ cs _ h3⟩

end Go.Proofs.Ytniaeiikdgbnfaa.AW
