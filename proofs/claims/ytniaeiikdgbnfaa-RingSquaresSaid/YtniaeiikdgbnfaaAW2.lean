/- The abstract walker, part 2: states, their relation to the machine's, and operations that only read. -/
import Derived.Test.YtniaeiikdgbnfaaAW1
namespace Go.Proofs.Ytniaeiikdgbnfaa.AW
open Go Go.RowKit

structure Ctx where
  w0 : World
  S0 : Nat → Prop
  E0 : Nat → Prop
  /-- Objects below 'm' are the caller's: they stay where they are. -/
  m : Nat
  B0 : Nat → Option Value
  /-- The loop over a function in whose round this is, if any. -/
  rd : Option Nat

structure AState where
  n : Nat
  fr : Nat → AVal
  st : List (Nat × Ob)
  nx : Nat

def upd (f : Nat → AVal) (t : Nat) (v : AVal) : Nat → AVal := fun u => if u = t then v else f u

def AState.put : AState → Option Tmp → AVal → AState
  | ⟨n, fr, st, nx⟩, some t, v => ⟨n, upd fr t v, st, nx⟩
  | s, none, _ => s
def AState.withSt : AState → List (Nat × Ob) → AState
  | ⟨n, fr, _, nx⟩, st => ⟨n, fr, st, nx⟩

/-! ### A walk by reduction: values and states are taken apart and put together again, so that no reckoning is left standing in them. -/
mutual
def forceV : AVal → (AVal → Prop) → Prop
  | .any, K => K .any
  | .un, K => K .un
  | .d (.int k n), K => K (.d (.int k n))
  | .d (.bool b), K => K (.d (.bool b))
  | .d (.str xs), K => K (.d (.str xs))
  | .d (.raw v), K => K (.d (.raw v))
  | .d (.ints k xs), K => K (.d (.ints k xs))
  | .d (.sl n es), K => K (.d (.sl n es))
  | .d (.ptr x), K => K (.d (.ptr x))
  | .d .nilp, K => K (.d .nilp)
  | .d (.agg ds), K => K (.d (.agg ds))
  | .d (.fn f cs), K => K (.d (.fn f cs))
  | .em (.ints k xs), K => K (.em (.ints k xs))
  | .em (.sl n es), K => K (.em (.sl n es))
  | .em x, K => K (.em x)
  | .nls (.ints k xs), K => K (.nls (.ints k xs))
  | .nls (.sl n es), K => K (.nls (.sl n es))
  | .nls x, K => K (.nls x)
  | .own j, K => K (.own j)
  | .view j o l, K => K (.view j o l)
  | .optr j o, K => K (.optr j o)
  | .ag t cs, K => forceL cs fun cs => K (.ag t cs)
  | .tup cs, K => forceL cs fun cs => K (.tup cs)
  | .ofn f cs, K => forceL cs fun cs => K (.ofn f cs)
def forceL : List AVal → (List AVal → Prop) → Prop
  | [], K => K []
  | x :: r, K => forceV x fun x => forceL r fun r => K (x :: r)
end
mutual
theorem forceV_of : ∀ (x : AVal) {K : AVal → Prop}, forceV x K → K x
  | .any, K, h => by simpa only [forceV] using h
  | .un, K, h => by simpa only [forceV] using h
  | .d x, K, h => by cases x <;> simpa only [forceV] using h
  | .em x, K, h => by cases x <;> simpa only [forceV] using h
  | .nls x, K, h => by cases x <;> simpa only [forceV] using h
  | .own j, K, h => by simpa only [forceV] using h
  | .view j o l, K, h => by simpa only [forceV] using h
  | .optr j o, K, h => by simpa only [forceV] using h
  | .ag t cs, K, h => by simp only [forceV] at h; exact forceL_of cs h
  | .tup cs, K, h => by simp only [forceV] at h; exact forceL_of cs h
  | .ofn f cs, K, h => by simp only [forceV] at h; exact forceL_of cs h
theorem forceL_of : ∀ (xs : List AVal) {K : List AVal → Prop}, forceL xs K → K xs
  | [], K, h => by simpa only [forceL] using h
  | x :: r, K, h => by
    simp only [forceL] at h
    exact forceL_of r (forceV_of x h)
end
mutual
theorem forceV_to : ∀ (x : AVal) {K : AVal → Prop}, K x → forceV x K
  | .any, K, h => by simpa only [forceV] using h
  | .un, K, h => by simpa only [forceV] using h
  | .d x, K, h => by cases x <;> simpa only [forceV] using h
  | .em x, K, h => by cases x <;> simpa only [forceV] using h
  | .nls x, K, h => by cases x <;> simpa only [forceV] using h
  | .own j, K, h => by simpa only [forceV] using h
  | .view j o l, K, h => by simpa only [forceV] using h
  | .optr j o, K, h => by simpa only [forceV] using h
  | .ag t cs, K, h => by simp only [forceV]; exact forceL_to cs h
  | .tup cs, K, h => by simp only [forceV]; exact forceL_to cs h
  | .ofn f cs, K, h => by simp only [forceV]; exact forceL_to cs h
theorem forceL_to : ∀ (xs : List AVal) {K : List AVal → Prop}, K xs → forceL xs K
  | [], K, h => by simpa only [forceL] using h
  | x :: r, K, h => by
    simp only [forceL]
    exact forceV_to x (forceL_to r h)
end
def forceOb : Ob → (Ob → Prop) → Prop
  | .row k t xs, K => K (.row k t xs)
  | .rowD t sz es, K => K (.rowD t sz es)
  | .cell t cs, K => forceL cs fun cs => K (.cell t cs)
theorem forceOb_of (o : Ob) {K : Ob → Prop} (h : forceOb o K) : K o := by
  cases o with
  | row k t xs => exact h
  | rowD t sz es => exact h
  | cell t cs => exact forceL_of cs h
def forceSt : List (Nat × Ob) → (List (Nat × Ob) → Prop) → Prop
  | [], K => K []
  | (i, o) :: r, K => forceOb o fun o => forceSt r fun r => K ((i, o) :: r)
theorem forceSt_of : ∀ (st : List (Nat × Ob)) {K : List (Nat × Ob) → Prop}, forceSt st K → K st
  | [], K, h => h
  | (i, o) :: r, K, h => by
    simp only [forceSt] at h
    have := forceOb_of o h
    exact forceSt_of r this
def forceS : AState → (AState → Prop) → Prop
  | ⟨n, fr, st, nx⟩, K => forceSt st fun st => K ⟨n, fr, st, nx⟩
theorem forceS_of (s : AState) {K : AState → Prop} (h : forceS s K) : K s := forceSt_of s.st h

def Owned (β : Nat → Option Value) (st : List (Nat × Ob)) (b : Nat) : Prop := ∃ j o, (j, o) ∈ st ∧ (β j).bind blk = some b

structure SRel (w : World) (β : Nat → Option Value) (S : Nat → Prop) (st : List (Nat × Ob)) : Prop where
  obj : ∀ j o, (j, o) ∈ st → ∃ v, β j = some v ∧ ORel w β S v o
  nodup : (st.map (·.1)).Nodup
  apart : ∀ i o j o', (i, o) ∈ st → (j, o') ∈ st → i ≠ j → ∀ b, (β i).bind blk = some b → (β j).bind blk ≠ some b
  own : ∀ b, Owned β st b → ¬ S b ∧ b < w.heap.size
  inS : ∀ b, S b → b < w.heap.size

/-- The frame: what has not turned since the call began. -/
structure Fr (C : Ctx) (w : World) (S own : Nat → Prop) : Prop where
  size : C.w0.heap.size ≤ w.heap.size
  os : w.os = C.w0.os
  tape : w.tape = C.w0.tape
  output : w.output = C.w0.output
  old : ∀ b, b < C.w0.heap.size → ¬ C.E0 b → w.heap[b]? = C.w0.heap[b]?
  inS : ∀ b, S b → C.S0 b ∨ C.E0 b ∨ C.w0.heap.size ≤ b
  own : ∀ b, own b → C.E0 b ∨ C.w0.heap.size ≤ b

/-- What is laid aside for the activation's end: the marks of its loops over functions, alone. -/
def Marks (C : Ctx) (S : Nat → Prop) (a : Act) (w : World) : Prop :=
  (∀ d ∈ a.defers, ∃ D, d = { target := .collected D, args := #[] } ∧ w.heap[D]? = some (.deferred (some [])) ∧ ¬ S D ∧ C.w0.heap.size ≤ D) ∧ a.defers.Nodup ∧ (C.rd ≠ none → a.defers = [])

structure ARelB (C : Ctx) (s : AState) (β : Nat → Option Value) (S : Nat → Prop) (a : Act) (w : World) : Prop where
  fr : ∀ t, VRel w β S (s.fr t) (a.tmps.getD t undef)
  size : a.tmps.size = s.n
  st : SRel w β S s.st
  frame : Fr C w S (Owned β s.st)
  nx : ∀ j, s.nx ≤ j → β j = none
  defers : Marks C S a w
  pin : ∀ j, j < C.m → β j = C.B0 j
  nxm : C.m ≤ s.nx

def ARel (C : Ctx) (s : AState) (a : Act) (w : World) : Prop := ∃ β S, ARelB C s β S a w

/-- What stood there stands there. -/
def Ext (w w' : World) : Prop := ∀ b, b < w.heap.size → w'.heap[b]? = w.heap[b]?
theorem Ext.refl (w : World) : Ext w w := fun _ _ => rfl

/-! ### Types -/
def aggD : TypeDesc → Bool
  | .struct _ | .array _ _ => true
  | _ => false
def aggT (P : Program) (t : TypeId) : Option Bool := (P.underlying t).map aggD

def szT (P : Program) (t : TypeId) : Option Nat := (P.info? t).map (·.size)

/-! ### Constants -/
def loK : IntKind → Int
  | .i8 => -128 | .i16 => -32768 | .i32 => -2147483648 | .i64 => -9223372036854775808
  | _ => 0
def hiK : IntKind → Int
  | .i8 => 127 | .i16 => 32767 | .i32 => 2147483647 | .i64 => 9223372036854775807
  | .u8 => 255 | .u16 => 65535 | .u32 => 4294967295 | .u64 => 18446744073709551615

theorem wrap_in {k : IntKind} {n : Int} : k.wrap n = n ↔ loK k ≤ n ∧ n ≤ hiK k := by
  cases k <;> simp [IntKind.wrap, IntKind.bits, IntKind.signed, loK, hiK] <;> (try split) <;> omega
theorem wrap_wrap (k : IntKind) (n : Int) : k.wrap (k.wrap n) = k.wrap n := by
  cases k <;> simp [IntKind.wrap, IntKind.bits, IntKind.signed] <;> (repeat' split) <;> omega

/-- A constant's deep value, by its type. -/
def constT (P : Program) : Nat → TypeId → List Value → D
  | 0, _, _ => .nilp
  | n + 1, t, cs =>
    match P.underlying t with
    | some (.struct fs) => .agg (fs.toList.map fun f => constT P n f.type ((cs.drop f.offset).take ((szT P f.type).getD 0)))
    | some (.array len e) => .agg ((List.range len).map fun i => constT P n e ((cs.drop (i * (szT P e).getD 0)).take ((szT P e).getD 0)))
    | some (.slice e) =>
      match P.underlying e with
      | some (.int k) => .ints k []
      | _ => .sl ((szT P e).getD 0) []
    | _ =>
      match cs with
      | [.int k n] => .int k n
      | [.bool b] => .bool b
      | [.string s] => .str (bytesOf s)
      | [.pointer none] => .nilp
      | [v] => .raw v
      | _ => .nilp

mutual
/-- Does a deep value stand for these constant cells? -/
def RepC : D → List Value → Prop
  | .int k n, cs => cs = [.int k n] ∧ loK k ≤ n ∧ n ≤ hiK k
  | .bool b, cs => cs = [.bool b]
  | .str xs, cs => ∃ s, cs = [.string s] ∧ bytesOf s = xs ∧ s.size ≤ 100000
  | .raw v, cs => cs = [v] ∧ plainV v = true
  | .ints _ xs, cs => xs = [] ∧ cs = [.slice none 0 0]
  | .sl _ es, cs => es = [] ∧ cs = [.slice none 0 0]
  | .nilp, cs => cs = [.pointer none]
  | .agg ds, cs => RepCs ds cs
  | .ptr _, _ => False
  | .fn f caps, cs => caps = [] ∧ cs = [.func (.func f) #[] #[]]
def RepCs : List D → List Value → Prop
  | [], cs => cs = []
  | d :: ds, cs => RepC d (cs.take d.size) ∧ RepCs ds (cs.drop d.size)
end

mutual
theorem RepC.rep {w : World} {S : Nat → Prop} : ∀ (d : D) (cs : List Value), RepC d cs → Rep w S d cs
  | .int k n, cs, h => by simp only [RepC] at h; simp only [Rep]; exact ⟨h.1, wrap_in.2 h.2⟩
  | .bool b, cs, h => by simp only [RepC] at h; simp only [Rep]; exact h
  | .str xs, cs, h => by
    simp only [RepC] at h; simp only [Rep]
    obtain ⟨s, h1, h2, h3⟩ := h
    exact ⟨s, h1, h2, by unfold LIM; omega⟩
  | .raw v, cs, h => by simp only [RepC] at h; simp only [Rep]; exact h
  | .ints k xs, cs, h => by
    simp only [RepC] at h; simp only [Rep]
    obtain ⟨rfl, rfl⟩ := h
    exact ⟨none, 0, rfl, by simp, by simp, by simp, fun h => (h rfl).elim⟩
  | .sl sz es, cs, h => by
    simp only [RepC] at h; simp only [Rep]
    obtain ⟨rfl, rfl⟩ := h
    exact ⟨none, 0, rfl, by simp, by simp, fun h => (h rfl).elim⟩
  | .ptr d, cs, h => by simp only [RepC] at h
  | .nilp, cs, h => by simp only [RepC] at h; simp only [Rep]; exact h
  | .agg ds, cs, h => by
    simp only [RepC] at h; simp only [Rep]
    exact RepCs.rep ds cs h
  | .fn f caps, cs, h => by
    simp only [RepC] at h; simp only [Rep]
    obtain ⟨rfl, rfl⟩ := h
    exact ⟨#[], rfl, by simp only [RepAll]⟩
theorem RepCs.rep {w : World} {S : Nat → Prop} : ∀ (ds : List D) (cs : List Value), RepCs ds cs → RepAll w S ds cs
  | [], cs, h => by simp only [RepCs] at h; simp only [RepAll]; exact h
  | d :: ds, cs, h => by
    simp only [RepCs] at h; simp only [RepAll]
    exact ⟨_, _, (List.take_append_drop d.size cs).symm, RepC.rep d _ h.1, RepCs.rep ds _ h.2⟩
end

end Go.Proofs.Ytniaeiikdgbnfaa.AW
