/- The abstract walker, part 3: operations that leave the world alone. -/
import Derived.Test.YtniaeiikdgbnfaaAW2
namespace Go.Proofs.Ytniaeiikdgbnfaa.AW
open Go Go.RowKit

def getO : List (Nat × Ob) → Nat → Option Ob
  | [], _ => none
  | (i, o) :: r, j => if i = j then some o else getO r j

theorem getO_mem : ∀ {st : List (Nat × Ob)} {j : Nat} {o : Ob}, getO st j = some o → (j, o) ∈ st
  | [], _, _, h => by simp [getO] at h
  | (i, p) :: r, j, o, h => by
    simp only [getO] at h
    split at h
    · rename_i e; subst e; injection h with h; subst h; simp
    · exact List.mem_cons_of_mem _ (getO_mem h)

/-- An operand's abstract value; 'ty': the type that it has there. -/
def aev (P : Program) (s : AState) (ty : TypeId) : Operand → AVal
  | .tmp t => s.fr t
  | .const (.slice none 0 0) => .nls (constT P 1 ty [])
  | .const v => .d (constT P 6 ty v.cells.toList)
  | .func f => .d (.fn f [])
  | .global _ => .any

/-- Is the type one whose values are single cells, and no slice? -/
def scalarT (P : Program) (ty : TypeId) : Bool := match P.underlying ty with
  | some (.struct _) | some (.array _ _) | some (.slice _) => false
  | _ => true

mutual
def repCB : D → List Value → Bool
  | .int k n, [.int k' n'] => k == k' && n == n' && decide (loK k ≤ n) && decide (n ≤ hiK k)
  | .bool b, [.bool b'] => b == b'
  | .ints _ [], [.slice none 0 0] => true
  | .sl _ [], [.slice none 0 0] => true
  | .nilp, [.pointer none] => true
  | .str [], [.string s] => s.size == 0
  | .raw .nilFunc, [.nilFunc] => true
  | .raw .nilIface, [.nilIface] => true
  | .raw (.map none), [.map none] => true
  | .agg ds, cs => repCBs ds cs
  | _, _ => false
def repCBs : List D → List Value → Bool
  | [], cs => cs.isEmpty
  | d :: ds, cs => repCB d (cs.take d.size) && repCBs ds (cs.drop d.size)
end

def constB (P : Program) (ty : TypeId) : Operand → Bool
  | .const (.slice none 0 0) => match constT P 1 ty [] with
    | .ints _ [] => true
    | .sl _ [] => true
    | _ => false
  | .const (.int k n) => scalarT P ty && decide (loK k ≤ n) && decide (n ≤ hiK k)
  | .const (.bool _) => scalarT P ty
  | .const (.string s) => scalarT P ty && decide (s.size ≤ 100000)
  | .const (.pointer none) => scalarT P ty
  | .const .nilFunc => scalarT P ty
  | .const .nilIface => scalarT P ty
  | .const (.agg cs) => (constT P 6 ty cs.toList).isAgg && repCB (constT P 6 ty cs.toList) cs.toList
  | .const _ => false
  | _ => true

def constOk (P : Program) (ty : TypeId) (x : Operand) : Prop := constB P ty x = true

mutual
theorem repCB_ok : ∀ (d : D) (cs : List Value), repCB d cs = true → RepC d cs
  | .int k n, cs, h => by
    unfold repCB at h
    split at h <;> simp_all [RepC]
    rename_i h2
    obtain ⟨⟨⟨rfl, rfl⟩, h3⟩, h4⟩ := h
    exact ⟨h3, h4⟩
  | .bool b, cs, h => by
    unfold repCB at h
    split at h <;> simp_all [RepC]
  | .str xs, cs, h => by
    unfold repCB at h
    split at h <;> simp_all [RepC]
    rfl
  | .raw v, cs, h => by
    unfold repCB at h
    split at h <;> simp_all [RepC, plainV]
  | .ints k xs, cs, h => by
    unfold repCB at h
    split at h <;> simp_all [RepC]
  | .sl sz es, cs, h => by
    unfold repCB at h
    split at h <;> simp_all [RepC]
  | .ptr d, cs, h => by unfold repCB at h; simp at h
  | .nilp, cs, h => by
    unfold repCB at h
    split at h <;> simp_all [RepC]
  | .agg ds, cs, h => by
    simp only [repCB] at h
    simp only [RepC]
    exact repCBs_ok ds cs h
  | .fn f caps, cs, h => by unfold repCB at h; simp at h
theorem repCBs_ok : ∀ (ds : List D) (cs : List Value), repCBs ds cs = true → RepCs ds cs
  | [], cs, h => by simp only [repCBs, List.isEmpty_iff] at h; simp only [RepCs]; exact h
  | d :: ds, cs, h => by
    simp only [repCBs, Bool.and_eq_true] at h
    simp only [RepCs]
    exact ⟨repCB_ok d _ h.1, repCBs_ok ds _ h.2⟩
end

theorem constT_scalar {P : Program} {ty : TypeId} (h : scalarT P ty = true) (n : Nat) (cs : List Value) : constT P (n + 1) ty cs = match cs with
    | [.int k n] => .int k n
    | [.bool b] => .bool b
    | [.string s] => .str (bytesOf s)
    | [.pointer none] => .nilp
    | [v] => .raw v
    | _ => .nilp := by
  unfold scalarT at h
  unfold constT
  split at h <;> first | (cases h; done) | rfl | skip
  rename_i h1 h2 h3
  split
  · rename_i e; exact (h1 _ e).elim
  · rename_i e; exact (h2 _ _ e).elim
  · rename_i e; exact (h3 _ e).elim
  · rfl

theorem constOk.spec {P : Program} {ty : TypeId} {v : Value} (h : constOk P ty (.const v)) (hne : v ≠ .slice none 0 0) : RepC (constT P 6 ty v.cells.toList) v.cells.toList ∧ packD (constT P 6 ty v.cells.toList) v.cells.toList = v := by
  unfold constOk constB at h
  split at h
  · rename_i e; injection e with e; exact (hne e).elim
  · rename_i k n e; injection e with e; subst e
    simp only [Bool.and_eq_true, decide_eq_true_eq] at h
    simp only [Value.cells, constT_scalar h.1.1, RepC, packD, List.headD, and_true, true_and]
    exact ⟨h.1.2, h.2⟩
  · rename_i b e; injection e with e; subst e
    simp only [Value.cells, constT_scalar h, RepC, packD, List.headD, and_true]
  · rename_i s e; injection e with e; subst e
    simp only [Bool.and_eq_true, decide_eq_true_eq] at h
    simp only [Value.cells, constT_scalar h.1, RepC, packD, List.headD, and_true]
    exact ⟨s, rfl, rfl, h.2⟩
  · rename_i e; injection e with e; subst e
    simp only [Value.cells, constT_scalar h, RepC, packD, List.headD, and_true]
  · rename_i e; injection e with e; subst e
    simp only [Value.cells, constT_scalar h, RepC, packD, List.headD, and_true, plainV]
  · rename_i e; injection e with e; subst e
    simp only [Value.cells, constT_scalar h, RepC, packD, List.headD, and_true, plainV]
  · rename_i cs e; injection e with e; subst e
    simp only [Bool.and_eq_true] at h
    refine ⟨repCB_ok _ _ h.2, ?_⟩
    simp only [Value.cells]
    have := h.1
    revert this
    cases constT P 6 ty cs.toList <;> simp [D.isAgg, packD]
  · cases h
  · rename_i h1 h2 h3 h4 h5 h6 h7 h8 h9; exact (h9 v rfl).elim

theorem aev_rel {P : Program} {C : Ctx} {s : AState} {β : Nat → Option Value} {S : Nat → Prop} {a : Act} {w : World} (h : ARelB C s β S a w) {ty : TypeId} {x : Operand} (hc : constOk P ty x) :
    VRel w β S (aev P s ty x) (a.eval x) := by
  cases x with
  | tmp t => simpa [Act.eval, aev] using h.fr t
  | func f => simp only [aev, VRel, Act.eval]; exact ⟨[.func (.func f) #[] #[]], by simp only [Rep]; exact ⟨#[], rfl, by simp only [RepAll]⟩, rfl⟩
  | global g => simp only [aev, VRel]
  | const v =>
    unfold aev
    split
    · rename_i e; cases e
    · rename_i e; injection e with e; subst e
      unfold constOk constB at hc
      simp only [VRel, Act.eval, true_and]
      split at hc
      · revert hc
        cases constT P 1 ty [] <;> simp [emptyD] <;> intro hc <;> (split at hc <;> simp_all)
      all_goals simp_all
    · rename_i v' hne e; injection e with e; subst e
      have := hc.spec fun e => hne (by rw [e])
      simp only [VRel, Act.eval]
      exact ⟨v.cells.toList, RepC.rep _ _ this.1, this.2.symm⟩
    · rename_i e; cases e
    · rename_i e; cases e

/-- A slot's deep value, if it is one. -/
def dv : AVal → Option D
  | .d x => some x
  | .em x => some x
  | .nls x => some x
  | _ => none

theorem dv_rel {w : World} {β : Nat → Option Value} {S : Nat → Prop} {x : AVal} {v : Value} {y : D} (h : VRel w β S x v) (hd : dv x = some y) : ∃ cs, Rep w S y cs ∧ v = packD y cs := by
  cases x <;> simp [dv] at hd
  case d z => subst hd; simpa only [VRel] using h
  case em z =>
    subst hd
    simp only [VRel] at h
    obtain ⟨⟨A, rfl⟩, he⟩ := h
    refine ⟨[.slice A 0 0], ?_, ?_⟩
    · unfold emptyD at he
      split at he <;> simp_all [Rep]
    · unfold emptyD at he
      split at he <;> simp_all [packD]
  case nls z =>
    subst hd
    simp only [VRel] at h
    obtain ⟨rfl, he⟩ := h
    refine ⟨[.slice none 0 0], ?_, ?_⟩
    · unfold emptyD at he
      split at he <;> simp_all [Rep]
    · unfold emptyD at he
      split at he <;> simp_all [packD]

/-! ### What each operation asks and gives -/
def qLoad (P : Program) (s : AState) (t : TypeId) (x : AVal) (K : AVal → Prop) : Prop :=
  match x with
  | .d (.ptr y) => aggT P t = some y.isAgg ∧ (y.isAgg = true → szT P t = some y.size) ∧ K (.d y)
  | .optr j off =>
    match getO s.st j with
    | some (.cell _ cs) =>
      (match aggT P t with
      | some true => off + (szT P t).getD 0 ≤ cs.length ∧ (szT P t).isSome = true ∧ K (.ag t ((cs.drop off).take ((szT P t).getD 0)))
      | some false => match cs[off]? with
        | some v => K v
        | none => False
      | none => False)
    | some (.row k _ xs) => aggT P t = some false ∧ off < xs.length ∧ K (.d (.int k (xs.getD off 0)))
    | some (.rowD _ sz es) => sz = 1 ∧ aggT P t = some false ∧ off < es.length ∧ (es.getD off default).isAgg = false ∧ K (.d (es.getD off default))
    | none => False
  | _ => False

def qNil (x : AVal) (K : AVal → Prop) : Prop :=
  match x with
  | .d (.ptr y) => K (.d (.ptr y))
  | .d (.fn f cs) => K (.d (.fn f cs))
  | .optr j o => K (.optr j o)
  | .ofn f cs => K (.ofn f cs)
  | _ => False

def qField (P : Program) (t : TypeId) (x : AVal) (f : Nat) (K : AVal → Prop) : Prop :=
  match P.underlying t with
  | some (.struct fs) =>
    match fs[f]? with
    | some fd =>
      match x with
      | .d (.agg ds) =>
        match ds[f]? with
        | some y => D.sizes (ds.take f) = fd.offset ∧ aggT P fd.type = some y.isAgg ∧ (y.isAgg = true → szT P fd.type = some y.size) ∧ K (.d y)
        | none => False
      | .ag _ cs => aggT P fd.type = some false ∧ (match cs[fd.offset]? with | some v => K v | none => False)
      | _ => False
    | none => False
  | _ => False

def posB : Option Nat → Bool
  | some (_ + 1) => true
  | _ => false
theorem posB_spec {x : Option Nat} (h : posB x = true) : ∃ n, x = some (n + 1) := by
  unfold posB at h
  split at h
  · exact ⟨_, rfl⟩
  · cases h

def qFieldAddr (P : Program) (t : TypeId) (x : AVal) (f : Nat) (K : AVal → Prop) : Prop :=
  match P.underlying t with
  | some (.struct fs) =>
    match fs[f]? with
    | some fd =>
      posB (szT P fd.type) = true ∧
      match x with
      | .d (.ptr (.agg ds)) =>
        match ds[f]? with
        | some y => D.sizes (ds.take f) = fd.offset ∧ K (.d (.ptr y))
        | none => False
      | .optr j off => K (.optr j (off + fd.offset))
      | _ => False
    | none => False
  | _ => False

def qIndexAddr (P : Program) (s : AState) (t : TypeId) (x i : AVal) (K : AVal → Prop) : Prop :=
  match dv i with
  | some (.int _ n) =>
    match P.underlying t with
    | some (.slice e) =>
      match x with
      | .d (.ints k xs) => szT P e = some 1 ∧ 0 ≤ n ∧ n < xs.length ∧ K (.d (.ptr (.int k (xs.getD n.toNat 0))))
      | .d (.sl sz es) => szT P e = some sz ∧ 0 ≤ n ∧ n < es.length ∧ K (.d (.ptr (es.getD n.toNat default)))
      | .own j =>
        match getO s.st j with
        | some (.row _ _ xs) => szT P e = some 1 ∧ 0 ≤ n ∧ n < xs.length ∧ K (.optr j n.toNat)
        | some (.rowD _ sz es) => szT P e = some sz ∧ 0 ≤ n ∧ n < es.length ∧ K (.optr j (n.toNat * sz))
        | _ => False
      | .view j off len => szT P e = some 1 ∧ 0 ≤ n ∧ n < len ∧ K (.optr j (off + n.toNat))
      | _ => False
    | some (.array len e) =>
      match x with
      | .optr j off => szT P e = some 1 ∧ 0 ≤ n ∧ n < len ∧ K (.optr j (off + n.toNat))
      | _ => False
    | _ => False
  | _ => False

def qIndex (P : Program) (t : TypeId) (x i : AVal) (K : AVal → Prop) : Prop :=
  match dv i with
  | some (.int _ n) =>
    match P.underlying t, x with
    | some .string, .d (.str xs) => 0 ≤ n ∧ n < xs.length ∧ K (.d (.int .u8 (xs.getD n.toNat 0)))
    | _, _ => False
  | _ => False

def qExtract (x : AVal) (i : Nat) (K : AVal → Prop) : Prop :=
  match x with
  | .tup vs => match vs[i]? with
    | some v => K v
    | none => False
  | _ => False

def qLen (P : Program) (s : AState) (t : TypeId) (x : AVal) (K : AVal → Prop) : Prop :=
  match P.underlying t with
  | some (.slice _) =>
    match x with
    | .d (.ints _ xs) => K (.d (.int .i64 xs.length))
    | .d (.sl _ es) => K (.d (.int .i64 es.length))
    | .em _ | .nls _ => K (.d (.int .i64 0))
    | .own j =>
      match getO s.st j with
      | some (.row _ _ xs) => K (.d (.int .i64 xs.length))
      | some (.rowD _ _ es) => K (.d (.int .i64 es.length))
      | _ => False
    | .view _ _ len => len ≤ LIM ∧ K (.d (.int .i64 len))
    | _ => False
  | some .string =>
    match x with
    | .d (.str xs) => K (.d (.int .i64 xs.length))
    | _ => False
  | some (.array n _) => n ≤ LIM ∧ K (.d (.int .i64 n))
  | _ => False

/-- Bits, as the model has them. -/
def bitsK (op : BinOp) (k : IntKind) (x y : Int) : Int :=
  let a := BitVec.ofInt k.bits x
  let b := BitVec.ofInt k.bits y
  match op with
  | .and => k.wrap (a &&& b).toNat
  | .or => k.wrap (a ||| b).toNat
  | .xor => k.wrap (a ^^^ b).toNat
  | _ => k.wrap (a &&& ~~~b).toNat

def qInts (op : BinOp) (k : IntKind) (a b : Int) (K : AVal → Prop) : Prop :=
  match op with
  | .add => K (.d (.int k (k.wrap (a + b))))
  | .sub => K (.d (.int k (k.wrap (a - b))))
  | .mul => K (.d (.int k (k.wrap (a * b))))
  | .quo => b ≠ 0 ∧ K (.d (.int k (k.wrap (a.tdiv b))))
  | .rem => b ≠ 0 ∧ K (.d (.int k (a.tmod b)))
  | .and => K (.d (.int k (bitsK .and k a b)))
  | .or => K (.d (.int k (bitsK .or k a b)))
  | .xor => K (.d (.int k (bitsK .xor k a b)))
  | .andNot => K (.d (.int k (bitsK .andNot k a b)))
  | .eql => K (.d (.bool (decide (a = b))))
  | .neq => K (.d (.bool (!decide (a = b))))
  | .lss => K (.d (.bool (decide (a < b))))
  | .leq => K (.d (.bool (decide (a ≤ b))))
  | .gtr => K (.d (.bool (decide (b < a))))
  | .geq => K (.d (.bool (decide (b ≤ a))))
  | _ => False

def isNilPtr : AVal → Bool
  | .d .nilp => true
  | _ => false

/-- A slice held against nil: an empty one may be, or not. -/
def qNilSl (x : AVal) (s : AState) (K : Bool → Prop) : Prop :=
  match x with
  | .em _ => K true ∧ K false
  | .nls _ => K true
  | .d (.ints _ xs) => (xs = [] → K true) ∧ K false
  | .d (.sl _ es) => (es = [] → K true) ∧ K false
  | .own j =>
    match getO s.st j with
    | some (.row _ _ xs) => (xs = [] → K true) ∧ K false
    | some (.rowD _ _ es) => (es = [] → K true) ∧ K false
    | _ => False
  | _ => False

def qBin (P : Program) (s : AState) (op : BinOp) (t : TypeId) (x y : AVal) (K : AVal → Prop) : Prop :=
  match op, x, y with
  | .shl, .d (.int k a), .d (.int _ b) => 0 ≤ b ∧ K (.d (.int k (k.wrap (a * 2 ^ (min b.toNat k.bits)))))
  | .shr, .d (.int k a), .d (.int _ b) => 0 ≤ b ∧ K (.d (.int k (a / 2 ^ (min b.toNat k.bits))))
  | op, .d (.int k a), .d (.int k' b) => k = k' ∧ qInts op k a b K
  | .eql, .d (.str a), .d (.str b) => K (.d (.bool (decide (a = b))))
  | .neq, .d (.str a), .d (.str b) => K (.d (.bool (!decide (a = b))))
  | .add, .d (.str a), .d (.str b) => a.length + b.length ≤ LIM ∧ K (.d (.str (a ++ b)))
  | .eql, .d (.bool a), .d (.bool b) => P.underlying t = some .bool ∧ K (.d (.bool (decide (a = b))))
  | .neq, .d (.bool a), .d (.bool b) => P.underlying t = some .bool ∧ K (.d (.bool (!decide (a = b))))
  | .eql, x, y =>
    match P.underlying t with
    | some (.slice _) => (match y with | .nls _ => qNilSl x s fun b => K (.d (.bool b)) | _ => False)
    | some (.pointer _) =>
      (match x, y with
      | .d .nilp, .d .nilp => K (.d (.bool true))
      | .d (.ptr _), .d .nilp | .d .nilp, .d (.ptr _) | .optr _ _, .d .nilp | .d .nilp, .optr _ _ => K (.d (.bool false))
      | _, _ => False)
    | _ => False
  | .neq, x, y =>
    match P.underlying t with
    | some (.slice _) => (match y with | .nls _ => qNilSl x s fun b => K (.d (.bool (!b))) | _ => False)
    | some (.pointer _) =>
      (match x, y with
      | .d .nilp, .d .nilp => K (.d (.bool false))
      | .d (.ptr _), .d .nilp | .d .nilp, .d (.ptr _) | .optr _ _, .d .nilp | .d .nilp, .optr _ _ => K (.d (.bool true))
      | _, _ => False)
    | _ => False
  | _, _, _ => False

def qUn (op : UnOp) (x : AVal) (K : AVal → Prop) : Prop :=
  match op, x with
  | .not, .d (.bool b) => K (.d (.bool (!b)))
  | .neg, .d (.int k n) => K (.d (.int k (k.wrap (0 - n))))
  | .xor, .d (.int k n) => K (.d (.int k (bitsK .xor k (if k.signed then -1 else k.max) n)))
  | _, _ => False

def qConv (P : Program) (src dst : TypeId) (x : AVal) (K : AVal → Prop) : Prop :=
  match P.underlying src, P.underlying dst, x with
  | some (.int _), some (.int k), .d (.int _ n) => K (.d (.int k (k.wrap n)))
  | some .string, some .string, .d (.str xs) => K (.d (.str xs))
  | some (.slice e), some .string, .d (.ints .u8 xs) => P.underlying e = some (.int .u8) ∧ K (.d (.str xs))
  | some (.slice e), some .string, .em _ => P.underlying e = some (.int .u8) ∧ K (.d (.str []))
  | some (.slice e), some .string, .nls _ => P.underlying e = some (.int .u8) ∧ K (.d (.str []))
  | _, _, _ => False

/-- A bound of a cut, where there is one. -/
def qBound (v : Option AVal) (dflt : Int) (K : Int → Prop) : Prop :=
  match v with
  | none => K dflt
  | some (.d (.int _ n)) => K n
  | _ => False

def qSlice (P : Program) (s : AState) (t : TypeId) (x : AVal) (lo hi mx : Option AVal) (K : AVal → Prop) : Prop :=
  match P.underlying t with
  | some (.slice e) =>
    match mx with
    | none =>
      (match x with
      | .d (.ints k xs) => qBound hi xs.length fun h => qBound lo 0 fun l => 0 ≤ l ∧ l ≤ h ∧ h ≤ xs.length ∧ szT P e = some 1 ∧ K (.d (.ints k ((xs.take h.toNat).drop l.toNat)))
      | .d (.sl sz es) => qBound hi es.length fun h => qBound lo 0 fun l => 0 ≤ l ∧ l ≤ h ∧ h ≤ es.length ∧ szT P e = some sz ∧ K (.d (.sl sz ((es.take h.toNat).drop l.toNat)))
      | .own j =>
        match getO s.st j with
        | some (.row _ _ xs) => qBound hi xs.length fun h => qBound lo 0 fun l => 0 ≤ l ∧ l ≤ h ∧ h ≤ xs.length ∧ szT P e = some 1 ∧ K (.view j l.toNat (h.toNat - l.toNat))
        | _ => False
      | .view j off len => qBound hi len fun h => qBound lo 0 fun l => 0 ≤ l ∧ l ≤ h ∧ h ≤ len ∧ szT P e = some 1 ∧ K (.view j (off + l.toNat) (h.toNat - l.toNat))
      | .em y => qBound hi 0 fun h => qBound lo 0 fun l => l = 0 ∧ h = 0 ∧ (szT P e).isSome = true ∧ K (.em y)
      | .nls y => qBound hi 0 fun h => qBound lo 0 fun l => l = 0 ∧ h = 0 ∧ (szT P e).isSome = true ∧ K (.nls y)
      | _ => False)
    | some (.d (.int _ 0)) =>
      (match x with
      | .d (.ints k _) => qBound hi 1 fun h => qBound lo 0 fun l => l = 0 ∧ h = 0 ∧ (szT P e).isSome = true ∧ K (.em (.ints k []))
      | .d (.sl sz _) => qBound hi 1 fun h => qBound lo 0 fun l => l = 0 ∧ h = 0 ∧ (szT P e).isSome = true ∧ K (.em (.sl sz []))
      | .em y => qBound hi 1 fun h => qBound lo 0 fun l => l = 0 ∧ h = 0 ∧ (szT P e).isSome = true ∧ K (.em y)
      | .nls y => qBound hi 1 fun h => qBound lo 0 fun l => l = 0 ∧ h = 0 ∧ (szT P e).isSome = true ∧ K (.nls y)
      | _ => False)
    | _ => False
  | some .string =>
    match mx, x with
    | none, .d (.str xs) => qBound hi xs.length fun h => qBound lo 0 fun l => 0 ≤ l ∧ l ≤ h ∧ h ≤ xs.length ∧ K (.d (.str ((xs.take h.toNat).drop l.toNat)))
    | _, _ => False
  | _ => False

def allD : List AVal → Option (List D)
  | [] => some []
  | .d x :: r => (match allD r with
    | some ds => some (x :: ds)
    | none => none)
  | _ :: _ => none

def noAgg : List D → Bool
  | [] => true
  | d :: r => !d.isAgg && noAgg r
theorem noAgg_spec : ∀ {ds : List D}, noAgg ds = true → ∀ d ∈ ds, d.isAgg = false
  | [], _, d, h => by simp at h
  | x :: r, h, d, hd => by
    simp only [noAgg, Bool.and_eq_true, Bool.not_eq_true'] at h
    rcases List.mem_cons.1 hd with rfl | hd
    · exact h.1
    · exact noAgg_spec h.2 d hd

def qFunc (f : Fn) (first caps : List AVal) (K : AVal → Prop) : Prop :=
  match f, first with
  | .func f, [] => match allD caps with
    | some ds => noAgg ds = true ∧ K (.d (.fn f ds))
    | none => K (.ofn f caps)
  | _, _ => False

def qMinMax (isMax : Bool) (xs : List AVal) (K : AVal → Prop) : Prop :=
  match isMax, xs with
  | true, [.d (.int k a), .d (.int k' b)] => k = k' ∧ K (.d (.int k (max a b)))
  | true, [.d (.int k a), .d (.int k' b), .d (.int k'' c)] => k = k' ∧ k = k'' ∧ K (.d (.int k (max (max a b) c)))
  | true, [.d (.int k a), .d (.int k' b), .d (.int k'' c), .d (.int k3 e)] => k = k' ∧ k = k'' ∧ k = k3 ∧ K (.d (.int k (max (max (max a b) c) e)))
  | false, [.d (.int k a), .d (.int k' b)] => k = k' ∧ K (.d (.int k (min a b)))
  | false, [.d (.int k a), .d (.int k' b), .d (.int k'' c)] => k = k' ∧ k = k'' ∧ K (.d (.int k (min (min a b) c)))
  | false, [.d (.int k a), .d (.int k' b), .d (.int k'' c), .d (.int k3 e)] => k = k' ∧ k = k'' ∧ k = k3 ∧ K (.d (.int k (min (min (min a b) c) e)))
  | _, _ => False

end Go.Proofs.Ytniaeiikdgbnfaa.AW
