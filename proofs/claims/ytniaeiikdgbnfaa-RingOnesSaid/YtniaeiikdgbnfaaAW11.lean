/- The abstract walker, part 11: new variables, literals, appends, copies. -/
import Derived.Test.YtniaeiikdgbnfaaAW10
namespace Go.Proofs.Ytniaeiikdgbnfaa.AW
open Go Go.RowKit

def allDv : List AVal → Option (List D)
  | [] => some []
  | x :: r => match dv x, allDv r with
    | some y, some ys => some (y :: ys)
    | _, _ => none

/-- A value as a deep one. -/
def qToD (P : Program) (x : AVal) (K : D → Prop) : Prop :=
  match x with
  | .d y => K y
  | .em y => K y
  | .nls y => K y
  | .ag t cs =>
    match allDv cs with
    | some ds => flatD (asm P 6 t ds) = ds ∧ (asm P 6 t ds).isAgg = true ∧ K (asm P 6 t ds)
    | none => False
  | _ => False

def qToDs (P : Program) : List AVal → (List D → Prop) → Prop
  | [], K => K []
  | x :: r, K => qToD P x fun y => qToDs P r fun ys => K (y :: ys)

/-- A constant's cell, as a slot holds it. -/
def zV : D → AVal
  | .ints k [] => .nls (.ints k [])
  | .sl n [] => .nls (.sl n [])
  | x => .d x

def eAlloc (P : Program) (s : AState) (e : TypeId) (K : AState → AVal → Prop) : Prop :=
  match P.info? e with
  | some i =>
    match i.zero with
    | some z => repCB (zeroD P e) z.cells.toList = true ∧ (s.new (.cell e ((flatD (zeroD P e)).map zV)) fun s' j => K s' (.optr j 0))
    | none => False
  | none => False

def eBox (s : AState) (e : TypeId) (x : AVal) (K : AState → AVal → Prop) : Prop :=
  match cellsV x with
  | some us => us.all (oneV s.st) = true ∧ (s.new (.cell e us) fun s' j => K s' (.optr j 0))
  | none => False

/-- What an append or a copy reads. -/
inductive Src where
  | i (k : IntKind) (xs : List Int)
  | r (sz : Nat) (es : List D)

def srcD : D → Option Src
  | .ints k xs => some (.i k xs)
  | .sl sz es => some (.r sz es)
  | _ => none

def srcOf (s : AState) : AVal → Option Src
  | .d x => srcD x
  | .em x => srcD x
  | .nls x => srcD x
  | .own j =>
    match getO s.st j with
    | some (.row k _ xs) => some (.i k xs)
    | some (.rowD _ sz es) => some (.r sz es)
    | _ => none
  | .view j off len =>
    match getO s.st j with
    | some (.row k _ xs) => if off + len ≤ xs.length then some (.i k ((xs.drop off).take len)) else none
    | _ => none
  | _ => none

/-- What is read, with what that asks. -/
def qSrc (s : AState) (x : AVal) (K : Src → Prop) : Prop :=
  match x with
  | .d (.ints k xs) => K (.i k xs)
  | .d (.sl sz es) => K (.r sz es)
  | .em (.ints k xs) => K (.i k xs)
  | .em (.sl sz es) => K (.r sz es)
  | .nls (.ints k xs) => K (.i k xs)
  | .nls (.sl sz es) => K (.r sz es)
  | .own j =>
    (match getO s.st j with
    | some (.row k _ xs) => K (.i k xs)
    | some (.rowD _ sz es) => K (.r sz es)
    | _ => False)
  | .view j off len =>
    (match getO s.st j with
    | some (.row k _ xs) => off + len ≤ xs.length ∧ K (.i k ((xs.drop off).take len))
    | _ => False)
  | _ => False

theorem qSrc_spec {s : AState} {x : AVal} {K : Src → Prop} (h : qSrc s x K) : ∃ src, srcOf s x = some src ∧ K src := by
  unfold qSrc at h
  split at h
  · exact ⟨_, rfl, h⟩
  · exact ⟨_, rfl, h⟩
  · exact ⟨_, rfl, h⟩
  · exact ⟨_, rfl, h⟩
  · exact ⟨_, rfl, h⟩
  · exact ⟨_, rfl, h⟩
  · split at h
    · rename_i e; exact ⟨_, by simp only [srcOf, e], h⟩
    · rename_i e; exact ⟨_, by simp only [srcOf, e], h⟩
    · exact h.elim
  · split at h
    · rename_i e; exact ⟨_, by simp only [srcOf, e]; rw [if_pos h.1], h.2⟩
    · exact h.elim
  · exact h.elim

def isEmp : AVal → Bool
  | .em _ | .nls _ => true
  | _ => false

def AState.moved : AState → Nat → Ob → AState
  | ⟨n, fr, st, nx⟩, j, o => ⟨n, fun t => dropV j (fr t), setOd j o st, nx⟩

def eAppend (P : Program) (m : Nat) (s : AState) (t t2 : TypeId) (x y : AVal) (K : AState → AVal → Prop) : Prop :=
  match P.underlying t, P.underlying t2 with
  | some (.slice e), some (.slice _) =>
    (match P.info? e with
    | some i =>
      (match i.zero with
      | some z =>
        z.cells.size = i.size ∧ 1 ≤ i.bytes ∧
        (qSrc s y fun src => match src with
        | .i k ys => i.size = 1 ∧
          (match x with
          | .em _ | .nls _ => ys.length * i.bytes ≤ 140737488355328 ∧ (s.new (.row k e ys) fun s' j => K s' (.own j))
          | .own j =>
            (match getO s.st j with
            | some (.row k' e' xs) => m ≤ j ∧ k' = k ∧ e' = e ∧ (xs.length + ys.length) * i.bytes ≤ 140737488355328 ∧
                K (s.moved j (.row k e (xs ++ ys))) (.own j)
            | _ => False)
          | _ => False)
        | .r sz ys => i.size = sz ∧ 0 < sz ∧ (ys.all fun d => d.size == sz) = true ∧
          (match x with
          | .em _ | .nls _ => ys.length * i.bytes ≤ 140737488355328 ∧ (s.new (.rowD e sz ys) fun s' j => K s' (.own j))
          | .own j =>
            (match getO s.st j with
            | some (.rowD e' sz' xs) => m ≤ j ∧ sz' = sz ∧ e' = e ∧ (xs.length + ys.length) * i.bytes ≤ 140737488355328 ∧
                K (s.moved j (.rowD e sz (xs ++ ys))) (.own j)
            | _ => False)
          | _ => False))
      | none => False)
    | none => False)
  | _, _ => False

def eCopy (P : Program) (s : AState) (t : TypeId) (x y : AVal) (K : AState → AVal → Prop) : Prop :=
  match P.underlying t with
  | some (.slice e) => szT P e = some 1 ∧
    (qSrc s y fun src => match src with
    | .i k ys =>
      (match x with
      | .own j =>
        (match getO s.st j with
        | some (.row k' e' xs) => k' = k ∧
            K (s.withSt (setO j (.row k e' (ys.take xs.length ++ xs.drop ys.length)) s.st)) (.d (.int .i64 (min ys.length xs.length : Nat)))
        | _ => False)
      | .view j off len =>
        (match getO s.st j with
        | some (.row k' e' xs) => k' = k ∧ off + len ≤ xs.length ∧
            K (s.withSt (setO j (.row k e' (xs.take off ++ ys.take len ++ xs.drop (off + min ys.length len))) s.st)) (.d (.int .i64 (min ys.length len : Nat)))
        | _ => False)
      | _ => False)
    | _ => False)
  | _ => False

section
variable {P : Program} {C : Ctx} {s : AState} {β : Nat → Option Value} {S : Nat → Prop} {a : Act} {w : World}

theorem VAll.split : ∀ {xs ys : List AVal} {vs : List Value}, VAll w β S (xs ++ ys) vs → ∃ a b, vs = a ++ b ∧ VAll w β S xs a ∧ VAll w β S ys b
  | [], ys, vs, h => ⟨[], vs, rfl, by simp only [VAll], h⟩
  | x :: xs, ys, vs, h => by
    simp only [List.cons_append, VAll] at h
    obtain ⟨v, r, rfl, h1, h2⟩ := h
    obtain ⟨a, b, rfl, h3, h4⟩ := VAll.split h2
    exact ⟨v :: a, b, rfl, by simp only [VAll]; exact ⟨v, a, rfl, h1, h3⟩, h4⟩

theorem rep_leaf {d : D} {cs : List Value} (h : VAll w β S ((flatD d).map .d) cs) (hd : d.isAgg = false) (hf : flatD d = [d]) : Rep w S d cs := by
  rw [hf] at h
  simp only [List.map_cons, List.map_nil, VAll, VRel] at h
  obtain ⟨v, r, rfl, ⟨cs', hr, rfl⟩, rfl⟩ := h
  obtain ⟨u, rfl, _⟩ := rep_oneCell hr hd
  rw [packD_one hd]
  exact hr

inductive All2 {α β : Type} (R : α → β → Prop) : List α → List β → Prop
  | nil : All2 R [] []
  | cons {x y xs ys} : R x y → All2 R xs ys → All2 R (x :: xs) (y :: ys)

mutual
theorem rep_of_flat : ∀ (d : D) (cs : List Value), VAll w β S ((flatD d).map .d) cs → Rep w S d cs
  | .agg ds, cs, h => by simp only [flatD] at h; simp only [Rep]; exact reps_of_flat ds cs h
  | .int k n, cs, h => rep_leaf h rfl rfl
  | .bool b, cs, h => rep_leaf h rfl rfl
  | .str xs, cs, h => rep_leaf h rfl rfl
  | .raw v, cs, h => rep_leaf h rfl rfl
  | .ints k xs, cs, h => rep_leaf h rfl rfl
  | .sl sz es, cs, h => rep_leaf h rfl rfl
  | .ptr d, cs, h => rep_leaf h rfl rfl
  | .nilp, cs, h => rep_leaf h rfl rfl
  | .fn f caps, cs, h => rep_leaf h rfl rfl
theorem reps_of_flat : ∀ (ds : List D) (cs : List Value), VAll w β S ((flatDs ds).map .d) cs → RepAll w S ds cs
  | [], cs, h => by simp only [flatDs, List.map_nil, VAll] at h; simp only [RepAll]; exact h
  | d :: ds, cs, h => by
    simp only [flatDs, List.map_append] at h
    obtain ⟨c1, c2, rfl, h1, h2⟩ := VAll.split h
    simp only [RepAll]
    exact ⟨c1, c2, rfl, rep_of_flat d c1 h1, reps_of_flat ds c2 h2⟩
end

theorem allDv_rel : ∀ {xs : List AVal} {ds : List D} {vs : List Value}, allDv xs = some ds → VAll w β S xs vs → VAll w β S (ds.map .d) vs
  | [], ds, vs, h, hv => by simp [allDv] at h; subst h; simpa using hv
  | x :: r, ds, vs, h, hv => by
    simp only [VAll] at hv
    obtain ⟨v, q, rfl, h1, h2⟩ := hv
    simp only [allDv] at h
    split at h
    · rename_i y ys e1 e2
      injection h with h; subst h
      simp only [List.map_cons, VAll]
      exact ⟨v, q, rfl, by simp only [VRel]; exact dv_rel h1 e1, allDv_rel e2 h2⟩
    · cases h

theorem qToD_sound {x : AVal} {v : Value} {K : D → Prop} (hx : VRel w β S x v) (hq : qToD P x K) : ∃ y cs, Rep w S y cs ∧ v = packD y cs ∧ K y := by
  unfold qToD at hq
  split at hq
  · obtain ⟨cs, h1, h2⟩ := dv_rel hx rfl; exact ⟨_, cs, h1, h2, hq⟩
  · obtain ⟨cs, h1, h2⟩ := dv_rel hx rfl; exact ⟨_, cs, h1, h2, hq⟩
  · obtain ⟨cs, h1, h2⟩ := dv_rel hx rfl; exact ⟨_, cs, h1, h2, hq⟩
  · rename_i t cs
    split at hq
    · rename_i ds hd
      obtain ⟨h1, h2, hK⟩ := hq
      simp only [VRel] at hx
      obtain ⟨vs, rfl, hv⟩ := hx
      have hall := allDv_rel hd hv
      rw [← h1] at hall
      refine ⟨asm P 6 t ds, vs.toList, rep_of_flat _ _ hall, ?_, hK⟩
      have agg : ∀ (y : D), y.isAgg = true → Value.agg vs = packD y vs.toList := fun y hy => by cases y <;> simp_all [D.isAgg, packD]
      exact agg _ h2
    · exact hq.elim
  · exact hq.elim

theorem qToDs_sound : ∀ {xs : List AVal} {vs : List Value} {K : List D → Prop}, VAll w β S xs vs → qToDs P xs K → ∃ ys css, All2 (fun y cs => Rep w S y cs) ys css ∧ vs = List.zipWith packD ys css ∧ K ys
  | [], vs, K, h, hq => by simp only [VAll] at h; subst h; exact ⟨[], [], .nil, rfl, hq⟩
  | x :: r, vs, K, h, hq => by
    simp only [VAll] at h
    obtain ⟨v, q, rfl, h1, h2⟩ := h
    simp only [qToDs] at hq
    obtain ⟨y, cs, e1, rfl, hq⟩ := qToD_sound h1 hq
    obtain ⟨ys, css, e3, rfl, hK⟩ := qToDs_sound h2 hq
    exact ⟨y :: ys, cs :: css, .cons e1 e3, rfl, hK⟩

end
end Go.Proofs.Ytniaeiikdgbnfaa.AW
