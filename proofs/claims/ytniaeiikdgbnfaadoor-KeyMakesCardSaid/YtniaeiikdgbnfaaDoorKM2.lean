/- Parts AW15, AW16, AW17, AW18, AW19, AW20, AW21, AW22, AW23, AW24, AW25, AW26, AW27, AW28, AW29, AW30, AW31, AW32, AW33, R1, R2, M1, R3. No condition of its own. -/
import Derived.Test.YtniaeiikdgbnfaaDoorKM1
import Derived.Lib.ConvBytes
import Derived.OrdersHeld
import Derived.OrdersIn
import Derived.TacticsIn
import Derived.LoopNIn
import Derived.Test.YtniaeiikdgbnfaaDoorProg

namespace Go.Proofs.YtniaeiikdgbnfaaDoor.AW
open Go Go.RowKit
set_option linter.unusedSectionVars false
variable [Globs]

mutual
def frzV (j : Nat) (x : D) : AVal → AVal
  | .own i => if i = j then (match x with
      | .ptr _ => .any
      | y => .d y) else .own i
  | .view i off len => if i = j then (match x with
      | .ints k xs => if off + len ≤ xs.length then .d (.ints k ((xs.drop off).take len)) else .any
      | _ => .any) else .view i off len
  | .optr i off => if i = j then (match x with
      | .ptr y => if off = 0 then .d (.ptr y) else .any
      | .ints k xs => if off < xs.length then .d (.ptr (.int k (xs.getD off 0))) else .any
      | _ => .any) else .optr i off
  | .ag t cs => .ag t (frzL j x cs)
  | .tup cs => .tup (frzL j x cs)
  | .ofn f cs => .ofn f (frzL j x cs)
  | .any => .any
  | .un => .un
  | .d y => .d y
  | .em y => .em y
  | .nls y => .nls y
def frzL (j : Nat) (x : D) : List AVal → List AVal
  | [] => []
  | v :: r => frzV j x v :: frzL j x r
end

def frzOb (j : Nat) (x : D) : Ob → Ob
  | .cell t cs => .cell t (frzL j x cs)
  | o => o

def frzSt (j : Nat) (x : D) : List (Nat × Ob) → List (Nat × Ob)
  | [] => []
  | (i, p) :: r => if i = j then frzSt j x r else (i, frzOb j x p) :: frzSt j x r

def AState.frz : AState → Nat → D → AState
  | ⟨n, fr, st, nx⟩, j, x => ⟨n, fun t => frzV j x (fr t), frzSt j x st, nx⟩

/-- Object j is never written again. -/
def qFreeze (P : Program) (s : AState) (j : Nat) (K : AState → Prop) : Prop :=
  match getO s.st j with
  | some (.row k _ xs) => K (s.frz j (.ints k xs))
  | some (.rowD _ sz es) => K (s.frz j (.sl sz es))
  | some (.cell e cs) =>
    (match allDv cs with
    | some ds => flatD (asm P 6 e ds) = ds ∧ K (s.frz j (.ptr (asm P 6 e ds)))
    | none => False)
  | none => K s

/-- The object that a slot holds. -/
def idOf : AVal → Option Nat
  | .own j => some j
  | .optr j _ => some j
  | .view j _ _ => some j
  | _ => none

def qFreezes (P : Program) : List Tmp → AState → (AState → Prop) → Prop
  | [], s, K => K s
  | t :: r, s, K =>
    match idOf (s.fr t) with
    | some j => qFreeze P s j fun s' => qFreezes P r s' K
    | none => qFreezes P r s K

theorem mem_frzSt {j : Nat} {x : D} : ∀ {st : List (Nat × Ob)} {i : Nat} {p : Ob}, (i, p) ∈ frzSt j x st → i ≠ j ∧ ∃ q, (i, q) ∈ st ∧ p = frzOb j x q
  | [], _, _, h => by simp [frzSt] at h
  | (k, q) :: r, i, p, h => by
    simp only [frzSt] at h
    split at h
    · obtain ⟨h1, q', h2, h3⟩ := mem_frzSt h
      exact ⟨h1, q', List.mem_cons_of_mem _ h2, h3⟩
    · rename_i hne
      simp only [List.mem_cons] at h
      rcases h with h | h
      · injection h with h1 h2; subst h1; subst h2; exact ⟨hne, q, by simp⟩
      · obtain ⟨h1, q', h2, h3⟩ := mem_frzSt h
        exact ⟨h1, q', List.mem_cons_of_mem _ h2, h3⟩

theorem frzSt_ids {j : Nat} {x : D} : ∀ {st : List (Nat × Ob)}, (st.map (·.1)).Nodup → ((frzSt j x st).map (·.1)).Nodup
  | [], h => by simp [frzSt]
  | (i, p) :: r, h => by
    simp only [List.map_cons, List.nodup_cons] at h
    simp only [frzSt]
    split
    · exact frzSt_ids h.2
    · simp only [List.map_cons, List.nodup_cons]
      refine ⟨fun hm => ?_, frzSt_ids h.2⟩
      obtain ⟨⟨k, q⟩, hk, rfl⟩ := List.mem_map.1 hm
      obtain ⟨_, q', h2, _⟩ := mem_frzSt hk
      exact h.1 (List.mem_map.2 ⟨_, h2, rfl⟩)

/-- What a deep value says of an object's value: as a whole, of its parts. -/
structure FrzOk (w : World) (β : Nat → Option Value) (S' : Nat → Prop) (j : Nat) (x : D) : Prop where
  own : ∀ v, β j = some v → (∀ y, x ≠ .ptr y) → VRel w β S' (.d x) v
  view : ∀ k xs, x = .ints k xs → ∀ off len A c, off + len ≤ xs.length → len ≤ c → (0 < len → ∃ b, (β j).bind blk = some b ∧ A = some ⟨b, off, none⟩) → VRel w β S' (.d (.ints k ((xs.drop off).take len))) (.slice A len c)
  ptr : ∀ y, x = .ptr y → ∀ b, (β j).bind blk = some b → VRel w β S' (.d (.ptr y)) (.pointer (some ⟨b, 0, none⟩))
  elem : ∀ k xs, x = .ints k xs → ∀ off b, off < xs.length → (β j).bind blk = some b → VRel w β S' (.d (.ptr (.int k (xs.getD off 0)))) (.pointer (some ⟨b, off, none⟩))

section
variable {P : Program} {C : Ctx} {s : AState} {β : Nat → Option Value} {S S' : Nat → Prop} {a : Act} {w : World} {j : Nat} {x : D}

mutual
theorem frzV_rel (hS : ∀ b, S b → S' b) (hf : FrzOk w β S' j x) : ∀ (v : AVal) (u : Value), VRel w β S v u → VRel w β S' (frzV j x v) u
  | .any, u, h => by simp only [frzV, VRel]
  | .un, u, h => by simpa only [frzV, VRel] using h
  | .d y, u, h => by
    simp only [VRel, frzV] at h ⊢
    obtain ⟨cs, h1, h2⟩ := h
    exact ⟨cs, h1.keep fun b hb => ⟨hS b hb, rfl⟩, h2⟩
  | .em y, u, h => by simpa only [frzV, VRel] using h
  | .nls y, u, h => by simpa only [frzV, VRel] using h
  | .own i, u, h => by
    simp only [frzV]
    split
    · rename_i e; subst e
      simp only [VRel] at h
      split
      · simp only [VRel]
      · rename_i hne; exact hf.own u h hne
    · simpa only [VRel] using h
  | .view i off len, u, h => by
    simp only [frzV]
    split
    · rename_i e; subst e
      split
      · rename_i k xs hf'
        split
        · rename_i hle
          simp only [VRel] at h
          obtain ⟨A, c, rfl, h1, h2⟩ := h
          exact hf.view _ _ rfl off len A c hle h1 h2
        · simp only [VRel]
      · simp only [VRel]
    · simpa only [VRel] using h
  | .optr i off, u, h => by
    simp only [frzV]
    split
    · rename_i e; subst e
      simp only [VRel] at h
      obtain ⟨b, hb, rfl⟩ := h
      split
      · split
        · rename_i e0; subst e0; exact hf.ptr _ rfl b hb
        · simp only [VRel]
      · split
        · rename_i hlt; exact hf.elem _ _ rfl off b hlt hb
        · simp only [VRel]
      · simp only [VRel]
    · simpa only [VRel] using h
  | .ag t cs, u, h => by
    simp only [VRel, frzV] at h ⊢
    obtain ⟨vs, h1, h2⟩ := h
    exact ⟨vs, h1, frzL_rel hS hf cs _ h2⟩
  | .tup cs, u, h => by
    simp only [VRel, frzV] at h ⊢
    obtain ⟨vs, h1, h2⟩ := h
    exact ⟨vs, h1, frzL_rel hS hf cs _ h2⟩
  | .ofn f cs, u, h => by
    simp only [VRel, frzV] at h ⊢
    obtain ⟨vs, h1, h2⟩ := h
    exact ⟨vs, h1, frzL_rel hS hf cs _ h2⟩
theorem frzL_rel (hS : ∀ b, S b → S' b) (hf : FrzOk w β S' j x) : ∀ (xs : List AVal) (vs : List Value), VAll w β S xs vs → VAll w β S' (frzL j x xs) vs
  | [], vs, h => by simpa only [frzL, VAll] using h
  | v :: xs, vs, h => by
    simp only [frzL, VAll] at h ⊢
    obtain ⟨u, r, e, h1, h2⟩ := h
    exact ⟨u, r, e, frzV_rel hS hf v u h1, frzL_rel hS hf xs r h2⟩
end

theorem ARelB.frz (h : ARelB C s β S a w) {o : Ob} (hj : (j, o) ∈ s.st) (hf : FrzOk w β (fun b => S b ∨ (β j).bind blk = some b) j x) :
    ARelB C (s.frz j x) β (fun b => S b ∨ (β j).bind blk = some b) a w := by
  have hS : ∀ b, S b → S b ∨ (β j).bind blk = some b := fun b hb => .inl hb
  have hown : ∀ b, Owned β (frzSt j x s.st) b → Owned β s.st b := fun b => by
    rintro ⟨i, p, hi, hb⟩
    obtain ⟨_, q, hq, _⟩ := mem_frzSt hi
    exact ⟨i, q, hq, hb⟩
  refine ⟨fun t => frzV_rel hS hf _ _ (h.fr t), h.size, ⟨fun i p hi => ?_, frzSt_ids h.st.nodup, fun i p k q hi hk hne => ?_, fun b hb => ?_, fun b hb => ?_, h.st.gl.keep fun b hb => ⟨.inl hb, rfl⟩⟩, ?_, h.nx, h.defers.keep fun D hD hS => ⟨hD, fun h' => h'.elim hS fun hb => by obtain ⟨cs, t, hc⟩ := h.st.cells ⟨j, o, hj, hb⟩; rw [hD] at hc; cases hc⟩, h.pin, h.nxm⟩
  · obtain ⟨_, q, hq, rfl⟩ := mem_frzSt hi
    obtain ⟨v, hv, hr⟩ := h.st.obj i q hq
    refine ⟨v, hv, ?_⟩
    cases q with
    | row k t xs => simpa only [frzOb, ORel] using hr
    | rowD t sz es =>
      simp only [frzOb, ORel] at hr ⊢
      obtain ⟨vs, h1, h2, h3⟩ := hr
      exact ⟨vs, h1, h2.keep fun b hb => ⟨.inl hb, rfl⟩, h3⟩
    | cell t cs =>
      simp only [frzOb, ORel] at hr ⊢
      obtain ⟨b, vs, h1, h2, h3⟩ := hr
      exact ⟨b, vs, h1, h2, frzL_rel hS hf cs _ h3⟩
  · obtain ⟨_, p', hp, _⟩ := mem_frzSt hi
    obtain ⟨_, q', hq, _⟩ := mem_frzSt hk
    exact h.st.apart i p' k q' hp hq hne
  · refine ⟨fun hs => ?_, (h.st.own b (hown b hb)).2⟩
    rcases hs with hs | hs
    · exact (h.st.own b (hown b hb)).1 hs
    · obtain ⟨i, p, hi, hb'⟩ := hb
      obtain ⟨hne, q, hq, _⟩ := mem_frzSt hi
      exact h.st.apart i q j o hq hj hne b hb' hs
  · rcases hb with hb | hb
    · exact h.st.inS b hb
    · exact (h.st.own b ⟨j, o, hj, hb⟩).2
  · have hf := h.frame
    refine ⟨hf.size, hf.os, hf.tape, hf.output, hf.old, fun b hb => ?_, fun b hb => hf.own b (hown b hb)⟩
    rcases hb with hb | hb
    · exact hf.inS b hb
    · exact .inr (hf.own b ⟨j, o, hj, hb⟩)

theorem ownsV_cells {w : World} {t : TypeId} {sz : Nat} {v : Value} {n : Nat} {vs : List Value} (h : OwnsV w t sz v n vs) : ∃ A c, v = .slice A n c ∧ n ≤ c ∧ (0 < n → ∃ b, A = some ⟨b, 0, none⟩ ∧ blk v = some b ∧ Cells w b 0 vs) := by
  rcases h with ⟨A, e, h0, hv⟩ | ⟨g, cap, cur, e, hc, hh, hle, hm, hz, hl, ht⟩
  · exact ⟨A, 0, by rw [e, h0], by omega, by omega⟩
  · refine ⟨_, _, e, hle, fun _ => ⟨g, rfl, by rw [e]; simp [blk]; omega, fun i u hu => ?_⟩⟩
    subst ht
    have hi : i < n * sz := by
      have := (List.getElem?_eq_some_iff.1 hu).1
      simp at this; omega
    rw [List.getElem?_take_of_lt hi] at hu
    simp [World.cell?, hh]
    simpa using hu

theorem repRow_of {S : Nat → Prop} {sz : Nat} : ∀ {es : List D} {vs : List Value} {b o : Nat}, Cells w b o vs → RepAll w S es vs → (∀ e ∈ es, e.size = sz) → RepRow w S sz es b o
  | [], vs, b, o, _, _, _ => by simp only [RepRow]
  | e :: es, vs, b, o, hc, h, hs => by
    simp only [RepAll] at h
    obtain ⟨c1, c2, rfl, h1, h2⟩ := h
    have hl : c1.length = sz := by rw [Rep.size _ _ h1, hs e (by simp)]
    simp only [RepRow]
    refine ⟨⟨c1, hl, fun i v hi => hc i v ?_, h1⟩, repRow_of (fun i v hi => ?_) h2 fun e he => hs e (by simp [he])⟩
    · rw [List.getElem?_append_left]
      · exact hi
      · exact (List.getElem?_eq_some_iff.1 hi).1
    · have := hc (sz + i) v (by rw [List.getElem?_append_right (by omega), hl]; simpa using hi)
      rwa [← Nat.add_assoc] at this

theorem qFreeze_sound (h : ARelB C s β S a w) {K : AState → Prop} (hq : qFreeze P s j K) : ∃ S' s', ARelB C s' β S' a w ∧ K s' := by
  unfold qFreeze at hq
  split at hq
  · rename_i k e xs ho
    obtain ⟨v, hv, hr⟩ := h.st.obj j _ (getO_mem ho)
    simp only [ORel] at hr
    obtain ⟨hr1, hr2, hr3⟩ := hr
    obtain ⟨A, c, rfl, hle, hA⟩ := ownsV_cells hr1
    have base : ∀ {b : Nat}, (β j).bind blk = some b → ∀ off len, off + len ≤ xs.length → 0 < len → Cells w b off (((xs.drop off).take len).map (Value.int k)) := fun {b} hb off len hl hp => by
      obtain ⟨b', e1, e2, hc⟩ := hA (by omega)
      rw [hv, Option.bind_some, e2] at hb
      injection hb with hb; subst hb
      have := hc.sub off len
      simpa [List.map_take, List.map_drop] using this
    refine ⟨_, _, h.frz (getO_mem ho) ⟨fun u hu _ => ?_, fun k' xs' e off len A' c' hl hc hA' => ?_, (fun y e => by cases e), fun k' xs' e off b hlt hb => ?_⟩, hq⟩
    · rw [hv] at hu; injection hu with hu; subst hu
      simp only [VRel, Rep]
      refine ⟨_, ⟨A, c, rfl, hle, hr3, hr2, fun hne => ?_⟩, rfl⟩
      obtain ⟨b, e1, e2, hc⟩ := hA (List.length_pos_iff.2 hne)
      exact ⟨b, 0, e1, .inr (by rw [hv]; exact e2), hc⟩
    · injection e with e1 e2; subst e1; subst e2
      have hln : ((xs.drop off).take len).length = len := by simp; omega
      simp only [VRel, Rep]
      refine ⟨[.slice A' len c'], ⟨A', c', by rw [hln], by omega, by omega, fun x hx => hr2 x (List.mem_of_mem_drop (List.mem_of_mem_take hx)), fun hne => ?_⟩, rfl⟩
      have hp : 0 < len := by have := List.length_pos_iff.2 hne; omega
      obtain ⟨b, hb, rfl⟩ := hA' hp
      exact ⟨b, off, rfl, .inr hb, base hb off len hl hp⟩
    · injection e with e1 e2; subst e1; subst e2
      simp only [VRel, Rep]
      refine ⟨_, ⟨b, off, rfl, .inr hb, [.int k (xs.getD off 0)], ?_, rfl, ?_⟩, rfl⟩
      · have := base hb off 1 (by omega) (by omega)
        rw [take_one_drop hlt] at this
        simpa [List.getD_eq_getElem?_getD, hlt] using this
      · rw [List.getD_eq_getElem?_getD, List.getElem?_eq_getElem hlt]; exact hr2 _ (List.getElem_mem hlt)
  · rename_i e sz es ho
    obtain ⟨v, hv, hr⟩ := h.st.obj j _ (getO_mem ho)
    simp only [ORel] at hr
    obtain ⟨vs, hr1, hr2, hr3, hr4, hr5⟩ := hr
    obtain ⟨A, c, rfl, hle, hA⟩ := ownsV_cells hr1
    refine ⟨_, _, h.frz (getO_mem ho) ⟨fun u hu _ => ?_, (fun _ _ e => by cases e), (fun _ e => by cases e), (fun _ _ e => by cases e)⟩, hq⟩
    rw [hv] at hu; injection hu with hu; subst hu
    simp only [VRel, Rep]
    refine ⟨_, ⟨A, c, rfl, hle, hr4, fun hne => ?_⟩, rfl⟩
    obtain ⟨b, e1, e2, hc⟩ := hA (List.length_pos_iff.2 hne)
    exact ⟨b, 0, e1, .inr (by rw [hv]; exact e2), repRow_of hc (hr2.keep fun b hb => ⟨.inl hb, rfl⟩) hr3⟩
  · rename_i e cs ho
    obtain ⟨v, hv, hr⟩ := h.st.obj j _ (getO_mem ho)
    simp only [ORel] at hr
    obtain ⟨b, vs, rfl, hh, hr⟩ := hr
    split at hq
    · rename_i ds hds
      obtain ⟨h1, hK⟩ := hq
      have hall := allDv_rel hds hr
      rw [← h1] at hall
      have hrep := rep_of_flat _ _ hall
      refine ⟨_, _, h.frz (getO_mem ho) ⟨fun u hu hne => (hne _ rfl).elim, (fun _ _ e => by cases e), fun y e b' hb => ?_, (fun _ _ e => by cases e)⟩, hK⟩
      injection e with e; subst e
      have hbb := hb
      rw [hv] at hb
      simp only [Option.bind_some, blk, Option.some.injEq] at hb
      subst hb
      simp only [VRel, Rep]
      refine ⟨_, ⟨b, 0, rfl, .inr hbb, vs.toList, fun i u hu => ?_, hrep.keep fun b hb => ⟨.inl hb, rfl⟩⟩, rfl⟩
      simp [World.cell?, hh]
      simpa using hu
    · exact hq.elim
  · exact ⟨S, s, h, hq⟩

theorem qFreezes_sound : ∀ {ts : List Tmp} {s : AState} {S : Nat → Prop} {K : AState → Prop}, ARelB C s β S a w → qFreezes P ts s K → ∃ S' s', ARelB C s' β S' a w ∧ K s'
  | [], s, S, K, h, hq => ⟨S, s, h, hq⟩
  | t :: ts, s, S, K, h, hq => by
    simp only [qFreezes] at hq
    split at hq
    · obtain ⟨S', s', h', hq'⟩ := qFreeze_sound h hq
      exact qFreezes_sound h' hq'
    · exact qFreezes_sound h hq

end

def argsV (P : Program) (s : AState) : List Operand → List TypeId → List AVal
  | [], _ => []
  | x :: xs, [] => aev P s 0 x :: argsV P s xs []
  | x :: xs, t :: ts => aev P s t x :: argsV P s xs ts
def argsB (P : Program) : List Operand → List TypeId → Bool
  | [], _ => true
  | x :: xs, [] => constB P 0 x && argsB P xs []
  | x :: xs, t :: ts => constB P t x && argsB P xs ts
def argsOk (P : Program) (xs : List Operand) (ts : List TypeId) : Prop := argsB P xs ts = true

def partsV (P : Program) (s : AState) (ty : Nat → TypeId) : List (Nat × Operand) → List AVal
  | [] => []
  | p :: r => aev P s (ty p.1) p.2 :: partsV P s ty r
def partsB (P : Program) (ty : Nat → TypeId) : List (Nat × Operand) → Bool
  | [] => true
  | p :: r => constB P (ty p.1) p.2 && partsB P ty r
def partsOk (P : Program) (ty : Nat → TypeId) (ps : List (Nat × Operand)) : Prop := partsB P ty ps = true

def elemT (P : Program) (t : TypeId) : Nat → TypeId := fun _ => match P.underlying t with
  | some (.slice e) => e
  | some (.array _ e) => e
  | _ => 0
def fieldT (P : Program) (t : TypeId) : Nat → TypeId := fun i => match P.underlying t with
  | some (.struct fs) => ((fs[i]?).map (·.type)).getD 0
  | _ => elemT P t i

/-- May it turn what stood there? 'mu': the functions that may. -/
def mutO (mu : FuncId → Bool) : Op → Bool
  | .alloc _ | .box .. | .makeSlice .. | .buildSlice .. | .build .. => false
  | .call c =>
    match c.callee with
    | .value (.func g) => mu g
    | .builtin .len | .builtin .max | .builtin .min => false
    | _ => true
  | o => !quietOp o

structure ACall (P : Program) (C : Ctx) (x : Bool) (s : AState) (f : FuncId) (avs : List AVal) (K : AState → AVal → Prop) : Prop where
  run : ∀ β S a w vs, ARelB C s β S a w → VAll w β S avs vs → Enters P f ∧
    Calls P f vs.toArray w fun e w' => ∃ v s' r β' S', e = .returned v ∧ (x = true → Ext w w') ∧ ARelB C s' β' S' a w' ∧ VRel w' β' S' r v ∧ K s' r

/-- Whatever it is. -/
structure AOther (P : Program) (C : Ctx) (x : Bool) (s : AState) (o : Oper) (K : AState → AVal → Prop) : Prop where
  run : ∀ β S a w, ARelB C s β S a w → ∃ v w' s' r β' S', ((execOp a.eval o).run P w = .ok (.value v) w' ∨ (v = undef ∧ (execOp a.eval o).run P w = .ok .skip w')) ∧ (x = true → Ext w w') ∧ ARelB C s' β' S' a w' ∧ VRel w' β' S' r v ∧ K s' r

def aCallE (P : Program) (C : Ctx) (x : Bool) (s : AState) (o : Oper) (c : Call) (K : AState → AVal → Prop) : Prop :=
  match c.callee with
  | .builtin .append =>
    (match c.args.toList, c.argTypes.toList with
    | [y, z], [t, t2] => (constOk P t y ∧ constOk P t2 z) ∧ eAppend P C.m s t t2 (aev P s t y) (aev P s t2 z) K
    | _, _ => False)
  | .builtin .copy =>
    (match c.args.toList, c.argTypes.toList with
    | [y, z], [t, t2] => (constOk P t y ∧ constOk P t2 z) ∧ eCopy P s t (aev P s t y) (aev P s t2 z) K
    | _, _ => False)
  | .value f => constOk P 0 f ∧
    (match aev P s 0 f with
    | .d (.fn g caps) => noAgg caps = true ∧ argsOk P c.args.toList c.argTypes.toList ∧ ACall P C x s g (argsV P s c.args.toList c.argTypes.toList ++ caps.map .d) K
    | .ofn g caps => argsOk P c.args.toList c.argTypes.toList ∧ ACall P C x s g (argsV P s c.args.toList c.argTypes.toList ++ caps) K
    | _ => False)
  | _ => AOther P C x s o K

def storeOk (s : AState) (v : AVal) : Prop := match cellsV v with
  | some us => us.all (oneV s.st) = true
  | none => True

/-- Is it a conversion of a string to bytes? -/
def s2b (P : Program) : Op → Bool
  | .convert src dst _ => (match P.underlying src, P.underlying dst with
    | some .string, some (.slice _) => true
    | _, _ => false)
  | _ => false
def eS2B (P : Program) (s : AState) (src dst : TypeId) (x : AVal) (K : AState → AVal → Prop) : Prop :=
  match P.underlying src, P.underlying dst, x with
  | some .string, some (.slice e), .d (.str xs) => P.underlying e = some (.int .u8) ∧ K s (.d (.ints .u8 xs))
  | _, _, _ => False

def aeff (P : Program) (C : Ctx) (mu : FuncId → Bool) (s : AState) (o : Oper) (K : AState → AVal → Prop) : Prop :=
  match o.op with
  | .alloc e => eAlloc P s e K
  | .box e x => constOk P e x ∧ eBox s e (aev P s e x) K
  | .store t x v => (constOk P 0 x ∧ constOk P t v) ∧ storeOk s (aev P s t v) ∧ eStore P s t (aev P s 0 x) (aev P s t v) (fun s' => K s' .un)
  | .makeSlice t l c => (constOk P 0 l ∧ constOk P 0 c) ∧ eMake P s t (aev P s 0 l) (aev P s 0 c) K
  | .buildSlice t len parts => partsOk P (elemT P t) parts.toList ∧ eBuildSlice P s t len (parts.toList.map (·.1)) (partsV P s (elemT P t) parts.toList) K
  | .build t parts => partsOk P (fieldT P t) parts.toList ∧ eBuild P s t ((parts.toList.map (·.1)).zip (partsV P s (fieldT P t) parts.toList)) (K s)
  | .call c => aCallE P C (!(mutO mu (.call c))) s o c K
  | .convert src dst x => constOk P src x ∧ eS2B P s src dst (aev P s src x) K
  | .defer _ => False
  | _ => AOther P C (!(mutO mu o.op)) s o K

def dstOk (s : AState) (o : Oper) : Bool := match o.dst with
  | some t => decide (t < s.n)
  | none => true
theorem dstOk.lt {s : AState} {o : Oper} (h : dstOk s o = true) (t : Tmp) (e : o.dst = some t) : t < s.n := by
  unfold dstOk at h
  rw [e] at h
  exact of_decide_eq_true h

def aop (P : Program) (C : Ctx) (mu : FuncId → Bool) (s : AState) (o : Oper) (K : AState → Prop) : Prop :=
  dstOk s o = true ∧
  (match quietOp o.op && !s2b P o.op with
  | true => aquiet P s o (fun v => forceV v fun v => forceS (s.put o.dst v) K)
  | false => aeff P C mu s o (fun s' v => forceV v fun v => forceS (s'.put o.dst v) K))

/-- An operation that is walked by hand. -/
def aovr (P : Program) (C : Ctx) (mu : FuncId → Bool) (s : AState) (o : Oper) (K : AState → Prop) : Prop :=
  dstOk s o = true ∧ AOther P C (!(mutO mu o.op)) s o (fun s' v => forceV v fun v => forceS (s'.put o.dst v) K)

section
variable {P : Program} {C : Ctx} {s : AState} {β : Nat → Option Value} {S : Nat → Prop} {a : Act} {w : World} {mu : FuncId → Bool}

theorem argsV_rel (h : ARelB C s β S a w) : ∀ {xs : List Operand} {ts : List TypeId}, argsOk P xs ts → VAll w β S (argsV P s xs ts) (xs.map a.eval)
  | [], _, _ => by simp [argsV, VAll]
  | x :: xs, [], hc => by
    simp only [argsV, argsOk, argsB, Bool.and_eq_true, List.map_cons, VAll] at hc ⊢
    exact ⟨_, _, rfl, aev_rel h hc.1, argsV_rel h hc.2⟩
  | x :: xs, t :: ts, hc => by
    simp only [argsV, argsOk, argsB, Bool.and_eq_true, List.map_cons, VAll] at hc ⊢
    exact ⟨_, _, rfl, aev_rel h hc.1, argsV_rel h hc.2⟩

theorem partsV_rel (h : ARelB C s β S a w) {ty : Nat → TypeId} : ∀ {ps : List (Nat × Operand)}, partsOk P ty ps → VAll w β S (partsV P s ty ps) (ps.map fun p => a.eval p.2)
  | [], _ => by simp [partsV, VAll]
  | p :: ps, hc => by
    simp only [partsV, partsOk, partsB, Bool.and_eq_true, List.map_cons, VAll] at hc ⊢
    exact ⟨_, _, rfl, aev_rel h hc.1, partsV_rel h hc.2⟩

theorem parts_zip (ps : Array (Nat × Operand)) (ρ : Operand → Value) : (ps.map fun (i, x) => (i, ρ x)) = ((ps.toList.map (·.1)).zip (ps.toList.map fun p => ρ p.2)).toArray := by
  apply Array.ext'
  simp only [Array.toList_map]
  generalize ps.toList = l
  induction l with
  | nil => rfl
  | cons p l ih => simp only [List.map_cons, List.zip_cons_cons, ih]

theorem callFunc_enters {f : FuncId} (h : Enters P f) (args : Array Value) (w : World) : (callFunc f args).run P w = .ok (.enter f args) w := by
  obtain ⟨fn, h1, h2, h3⟩ := h
  simp only [callFunc, Sem.run_bind, run_program, Result.andThen_ok, h1, h3, h2, Bool.false_eq_true, if_false]
  rfl

/-- What the operation itself comes to, ahead of its slot. -/
def Upon (P : Program) (C : Ctx) (x : Bool) (a : Act) (w : World) (o : Oper) (K : AState → AVal → Prop) : Prop :=
  ∀ (next : Act → World → Prop) (Q : Exit → Act → World → Prop),
    (∀ v w' s' r β' S', (x = true → Ext w w') → ARelB C s' β' S' a w' → VRel w' β' S' r v → K s' r → next (a.put o.dst v) w') → o.wp P a w next Q

theorem Upon.value {x : Bool} {o : Oper} {K : AState → AVal → Prop} {v : Value} {w' : World} {s' : AState} {r : AVal} {β' : Nat → Option Value} {S' : Nat → Prop} (h : (execOp a.eval o).run P w = .ok (.value v) w') (he : x = true → Ext w w')
    (h1 : ARelB C s' β' S' a w') (h2 : VRel w' β' S' r v) (hK : K s' r) : Upon P C x a w o K := fun next Q hn => by
  unfold Oper.wp
  rw [h]
  exact hn v w' s' r β' S' he h1 h2 hK

theorem Upon.skip {x : Bool} {o : Oper} {K : AState → AVal → Prop} {w' : World} {s' : AState} {β' : Nat → Option Value} {S' : Nat → Prop} (h : (execOp a.eval o).run P w = .ok .skip w') (he : x = true → Ext w w')
    (h1 : ARelB C s' β' S' a w') (hK : K s' .un) : Upon P C x a w o K := fun next Q hn => by
  unfold Oper.wp
  rw [h]
  exact hn undef w' s' .un β' S' he h1 (by simp only [VRel]) hK

theorem run_value2 {w w' : World} {m : Sem Value} {v : Value} (h : m.run P w = .ok v w') : (do pure (Next.value (← m)) : Sem Next).run P w = .ok (.value v) w' := by
  simp only [Sem.run_bind, h, Result.andThen_ok, Sem.run_pure]

theorem Upon.doesX {x : Bool} {o : Oper} {K : AState → AVal → Prop} {m : Sem Value} (h : DoesX P C a w m K) (he : execOp a.eval o = (do pure (Next.value (← m)) : Sem Next)) : Upon P C x a w o K := by
  obtain ⟨v, w', s', r, β', h1, h2, S', h3, h4, h5⟩ := h
  exact Upon.value (by rw [he]; exact run_value2 h1) (fun _ => h2) h3 h4 h5

theorem Upon.does {o : Oper} {K : AState → AVal → Prop} {m : Sem Value} (h : Does P C a w m K) (he : (execOp a.eval o).run P w = (do pure (Next.value (← m)) : Sem Next).run P w) : Upon P C false a w o K := by
  obtain ⟨v, w', s', r, β', h1, S', h3, h4, h5⟩ := h
  exact Upon.value (by rw [he]; exact run_value2 h1) (fun h => by cases h) h3 h4 h5

theorem capsV_rel {w : World} {β : Nat → Option Value} {S : Nat → Prop} : ∀ {ds : List D} {cs : List Value}, (∀ d ∈ ds, d.isAgg = false) → RepAll w S ds cs → VAll w β S (ds.map .d) cs
  | [], cs, _, h => by simp only [RepAll] at h; simpa [VAll] using h
  | d :: ds, cs, hn, h => by
    simp only [RepAll] at h
    obtain ⟨c1, c2, rfl, h1, h2⟩ := h
    obtain ⟨u, rfl, _⟩ := rep_oneCell h1 (hn d (by simp))
    simp only [List.map_cons, VAll, VRel]
    exact ⟨u, c2, rfl, ⟨[u], h1, by rw [packD_one (hn d (by simp))]; rfl⟩, capsV_rel (fun d hd => hn d (by simp [hd])) h2⟩

theorem Upon.call {x : Bool} {o : Oper} {c : Call} {f : Operand} {K : AState → AVal → Prop} (ho : o.op = .call c) (hc : c.callee = .value f) {g : FuncId} {cvs : Array Value} {avs : List AVal} (hf : a.eval f = .func (.func g) #[] cvs)
    (h : ARelB C s β S a w) (ha : VAll w β S avs ((c.args.map a.eval) ++ cvs).toList) (hq : ACall P C x s g avs K) : Upon P C x a w o K := fun next Q hn => by
  obtain ⟨he, hcall⟩ := hq.run β S a w _ h ha
  have hrun : (execOp a.eval o).run P w = .ok (.enter g ((c.args.map a.eval) ++ cvs)) w := by
    simp only [execOp, ho, resolve, hc, hf, Deferred.ofValue, Sem.run_bind, Sem.run_pure, Result.andThen_ok, invoke]
    have := callFunc_enters he ((c.args.map a.eval) ++ cvs) w
    simpa using this
  unfold Oper.wp
  rw [hrun]
  rw [Array.toArray_toList] at hcall
  refine Calls.mono hcall fun e w' hh => ?_
  obtain ⟨v, s', r, β', S', rfl, h1, h2, h3, h4⟩ := hh
  exact hn v w' s' r β' S' h1 h2 h3 h4

theorem aCallE_sound (h : ARelB C s β S a w) {o : Oper} {c : Call} {x : Bool} {K : AState → AVal → Prop} (ho : o.op = .call c) (hx : ∀ b, c.callee = .builtin b → (b = .append ∨ b = .copy) → x = false)
    (hq : aCallE P C x s o c K) : Upon P C x a w o K := by
  obtain ⟨callee, args, ts⟩ := c
  unfold aCallE at hq
  split at hq
  · rename_i hcal
    simp only at hcal hx
    have hx2 := hx _ hcal (.inl rfl)
    subst hcal; subst hx2
    split at hq
    · rename_i y z t t2 e1 e2
      have e3 : args = #[y, z] := by apply Array.ext'; simpa using e1
      have e4 : ts = #[t, t2] := by apply Array.ext'; simpa using e2
      clear e1 e2
      subst e3; subst e4
      refine Upon.does (eAppend_sound (ty := o.type) h (aev_rel h hq.1.1) (aev_rel h hq.1.2) hq.2) ?_
      simp [execOp, ho, resolve, invoke, builtin]
    · exact hq.elim
  · rename_i hcal
    simp only at hcal hx
    have hx2 := hx _ hcal (.inr rfl)
    subst hcal; subst hx2
    split at hq
    · rename_i y z t t2 e1 e2
      have e3 : args = #[y, z] := by apply Array.ext'; simpa using e1
      have e4 : ts = #[t, t2] := by apply Array.ext'; simpa using e2
      clear e1 e2
      subst e3; subst e4
      refine Upon.does (eCopy_sound (ty := o.type) (t2 := t2) h (aev_rel h hq.1.1) (aev_rel h hq.1.2) hq.2) ?_
      simp [execOp, ho, resolve, invoke, builtin]
    · exact hq.elim
  · rename_i f hcal
    simp only at hcal
    subst hcal
    obtain ⟨hcf, hq⟩ := hq
    have hfv : VRel w β S (aev P s 0 f) (a.eval f) := aev_rel h hcf
    split at hq
    · rename_i g caps hf
      obtain ⟨hag0, hok, hq⟩ := hq
      have hag := noAgg_spec hag0
      rw [hf] at hfv
      simp only [VRel, Rep] at hfv
      obtain ⟨cs, ⟨cvs, rfl, hcv⟩, hp⟩ := hfv
      exact Upon.call ho rfl hp h (by
        have := VAll.append (argsV_rel h hok) (capsV_rel hag hcv)
        simpa using this) hq
    · rename_i g caps hf
      obtain ⟨hok, hq⟩ := hq
      rw [hf] at hfv
      simp only [VRel] at hfv
      obtain ⟨cvs, hp, hcv⟩ := hfv
      exact Upon.call ho rfl hp h (by
        have := VAll.append (argsV_rel h hok) hcv
        simpa using this) hq
    · exact hq.elim
  · obtain ⟨v, w', s', r, β', S', h1, h2, h3, h4, h5⟩ := hq.run β S a w h
    rcases h1 with h1 | ⟨rfl, h1⟩
    · exact Upon.value h1 h2 h3 h4 h5
    · intro next Q hn
      unfold Oper.wp
      rw [h1]
      exact hn undef w' s' r β' S' h2 h3 h4 h5

theorem AOther.upon {x : Bool} {o : Oper} {K : AState → AVal → Prop} (h : ARelB C s β S a w) (hq : AOther P C x s o K) : Upon P C x a w o K := by
  obtain ⟨v, w', s', r, β', S', h1, h2, h3, h4, h5⟩ := hq.run β S a w h
  rcases h1 with h1 | ⟨rfl, h1⟩
  · exact Upon.value h1 h2 h3 h4 h5
  · intro next Q hn
    unfold Oper.wp
    rw [h1]
    exact hn undef w' s' r β' S' h2 h3 h4 h5

/-- The world grows by a block that never changes any more. -/
theorem ARelB.newS (h : ARelB C s β S a w) {w' : World} (hg : w.grownBy w' none) (hsz : w.heap.size < w'.heap.size) : ARelB C s β (fun b => S b ∨ b = w.heap.size) a w' := by
  have hS : ∀ b, S b → (S b ∨ b = w.heap.size) ∧ w'.heap[b]? = w.heap[b]? := fun b hb => ⟨.inl hb, hg.block b (h.st.inS b hb) (by simp)⟩
  have hlt : ∀ b, b < w.heap.size → b < w'.heap.size := fun b hb => Nat.lt_of_lt_of_le hb hg.size
  refine ⟨fun t => VRel.keep hS (fun _ _ e => e) _ _ (h.fr t), h.size, ⟨fun j o hj => ?_, h.st.nodup, h.st.apart, fun b hb => ⟨fun hs => ?_, hlt b (h.st.own b hb).2⟩, fun b hb => ?_, h.st.gl.keep hS⟩,
    ⟨Nat.le_trans h.frame.size hg.size, hg.os.trans h.frame.os, hg.tape.trans h.frame.tape, hg.output.trans h.frame.output, fun b hb hE => ?_, fun b hb => ?_, h.frame.own⟩, h.nx, ?_, h.pin, h.nxm⟩
  · obtain ⟨v, hv, hr'⟩ := h.st.obj j o hj
    refine ⟨v, hv, hr'.keep hS (fun _ _ e => e) fun b hb => ?_⟩
    exact hg.block b (h.st.own b ⟨j, o, hj, by rw [hv]; exact hb⟩).2 (by simp)
  · rcases hs with hs | hs
    · exact (h.st.own b hb).1 hs
    · have := (h.st.own b hb).2; omega
  · rcases hb with hb | hb
    · exact hlt b (h.st.inS b hb)
    · omega
  · rw [hg.block b (Nat.lt_of_lt_of_le hb h.frame.size) (by simp)]
    exact h.frame.old b hb hE
  · rcases hb with hb | hb
    · exact h.frame.inS b hb
    · exact .inr (.inr (by have := h.frame.size; omega))
  · exact h.defers.keep fun D hD hS => ⟨(hg.block D (Array.getElem?_eq_some_iff.1 hD).1 (by simp)).trans hD, fun hs => hs.elim hS fun e => by
      have := (Array.getElem?_eq_some_iff.1 hD).1; omega⟩

theorem bytesOf_cellAt {s : ByteArray} {xs : List Int} (h : bytesOf s = xs) {i : Nat} {v : Value} (hv : (xs.map (Value.int .u8))[i]? = some v) : i < s.size ∧ v = .int .u8 (s.data.toList.getD i 0).toNat := by
  subst h
  simp only [bytesOf, List.map_map, List.getElem?_map, Option.map_eq_some_iff] at hv
  obtain ⟨b, hb, rfl⟩ := hv
  have hi := (List.getElem?_eq_some_iff.1 hb).1
  refine ⟨by simpa using hi, ?_⟩
  simp [List.getD, hb]

theorem eS2B_sound (h : ARelB C s β S a w) {src dst : TypeId} {x : AVal} {v : Value} {K : AState → AVal → Prop} (hx : VRel w β S x v) (hq : eS2B P s src dst x K) : DoesX P C a w (convert src dst v) K := by
  unfold eS2B at hq
  split at hq
  · rename_i e xs h1 h2
    obtain ⟨hu, hK⟩ := hq
    obtain ⟨st, rfl, hst, hl⟩ := d_str hx
    have hrun := Lib.run_convert_string_bytes w src dst e st h1 h2 hu
    have hext : Ext w (Lib.bytesWorld w e st) := fun b hb => Lib.bytesWorld_at_old w e st b hb
    have hg : w.grownBy (Lib.bytesWorld w e st) none := by
      refine ⟨?_, ?_, ?_, by rw [Lib.bytesWorld_size]; omega, fun k hk _ => Lib.bytesWorld_at_old w e st k hk⟩ <;> simp [Lib.bytesWorld, World.freeze, World.alloc, World.drew, -World.alloc_eq, -World.drew_eq]
    have hlen : xs.length = st.size := by rw [← hst, bytesOf_length]
    refine ⟨_, _, s, .d (.ints .u8 xs), β, hrun, hext, _, h.newS hg (by rw [Lib.bytesWorld_size]; omega), ?_, hK⟩
    simp only [VRel, Rep]
    refine ⟨_, ⟨_, _, rfl, ?_, ?_, fun y hy => ?_, fun _ => ⟨w.heap.size, 0, rfl, .inr rfl, fun i u hu' => ?_⟩⟩, by rw [hlen]; rfl⟩
    · rw [hlen]; exact grownCap_ge ..
    · rw [hlen]; exact hl
    · rw [← hst] at hy
      simp only [bytesOf, List.mem_map] at hy
      obtain ⟨b, _, rfl⟩ := hy
      have := b.toNat_lt
      exact wrap_in.2 ⟨by simp only [loK]; omega, by simp only [hiK]; omega⟩
    · obtain ⟨hi, rfl⟩ := bytesOf_cellAt hst hu'
      have := Lib.bytesWorld_cell w e st i hi
      simpa using this
  · exact hq.elim

theorem aeff_sound (h : ARelB C s β S a w) {o : Oper} {K : AState → AVal → Prop} (hq : aeff P C mu s o K) : Upon P C (!(mutO mu o.op)) a w o K := by
  obtain ⟨dst, op, type, pos, after, guard⟩ := o
  cases op <;> simp only [aeff] at hq <;> (try exact AOther.upon h hq)
  case alloc e => exact Upon.doesX (eAlloc_sound h hq) rfl
  case box e x => exact Upon.doesX (eBox_sound h (aev_rel h hq.1) hq.2) rfl
  case store t x v =>
    obtain ⟨w', s', h1, ⟨β', S', h2⟩, h3⟩ := eStore_sound h (aev_rel h hq.1.1) (aev_rel h hq.1.2) (fun us hus => by have := hq.2.1; unfold storeOk at this; rw [hus] at this; exact this) hq.2.2
    refine Upon.skip (w' := w') ?_ (by simp [mutO, quietOp]) h2 h3
    simp only [execOp, Sem.run_bind, h1, Result.andThen_ok, Sem.run_pure]
  case makeSlice t l c => exact Upon.doesX (eMake_sound h (aev_rel h hq.1.1) (aev_rel h hq.1.2) hq.2) rfl
  case buildSlice t len parts =>
    refine Upon.doesX (eBuildSlice_sound h (partsV_rel h hq.1) hq.2) ?_
    simp only [execOp, parts_zip]
  case build t parts =>
    obtain ⟨u, r, h1, h2, h3⟩ := eBuild_sound h (partsV_rel h hq.1) hq.2
    refine Upon.value (v := u) (w' := w) ?_ (fun _ => Ext.refl w) h h2 h3
    simp only [execOp, parts_zip]
    exact run_value2 (h1 w)
  case convert src dst x => exact Upon.doesX (eS2B_sound h (aev_rel h hq.1) hq.2) rfl
  case call c =>
    refine aCallE_sound h rfl (fun b hb hor => ?_) hq
    rcases hor with rfl | rfl <;> simp [mutO, hb]

theorem aop_sound (h : ARelB C s β S a w) {o : Oper} {K : AState → Prop} (hq : aop P C mu s o K) {Q : Exit → Act → World → Prop} :
    o.wp P a w (fun a' w' => (mutO mu o.op = false → Ext w w') ∧ ∃ s', ARel C s' a' w' ∧ K s') Q := by
  unfold aop at hq
  obtain ⟨hd, hq⟩ := hq
  have hd' := dstOk.lt hd
  split at hq
  · obtain ⟨v, r, h1, h2, h3⟩ := aquiet_sound h hq
    have h3 := forceS_of _ (forceV_of _ h3)
    unfold Oper.wp
    rw [h1 w fun _ => Ext.refl w]
    exact ⟨fun _ => Ext.refl w, _, ⟨β, S, h.put h2 hd'⟩, h3⟩
  · refine aeff_sound h hq _ Q fun v w' s' r β' S' he h1 h2 hK => ?_
    have hK := forceS_of _ (forceV_of _ hK)
    refine ⟨fun hm => he (by rw [hm]; rfl), _, ⟨β', S', h1.put h2 fun t e => ?_⟩, hK⟩
    have := hd' t e
    rw [← h.size] at this
    rwa [← h1.size]

theorem aovr_sound (h : ARelB C s β S a w) {o : Oper} {K : AState → Prop} (hq : aovr P C mu s o K) {Q : Exit → Act → World → Prop} :
    o.wp P a w (fun a' w' => (mutO mu o.op = false → Ext w w') ∧ ∃ s', ARel C s' a' w' ∧ K s') Q := by
  obtain ⟨hd, hq⟩ := hq
  have hd' := dstOk.lt hd
  refine AOther.upon h hq _ Q fun v w' s' r β' S' he h1 h2 hK => ?_
  have hK := forceS_of _ (forceV_of _ hK)
  refine ⟨fun hm => he (by rw [hm]; rfl), _, ⟨β', S', h1.put h2 fun t e => ?_⟩, hK⟩
  have := hd' t e
  rw [← h.size] at this
  rwa [← h1.size]

end

theorem Ext.trans {w1 w2 w3 : World} (h1 : Ext w1 w2) (h2 : Ext w2 w3) (hs : w1.heap.size ≤ w2.heap.size) : Ext w1 w3 :=
  fun b hb => (h2 b (Nat.lt_of_lt_of_le hb hs)).trans (h1 b hb)
/-- Nothing that stood there is gone or turned. -/
def ExtS (w w' : World) : Prop := Ext w w' ∧ w.heap.size ≤ w'.heap.size

/-- Whatever order is picked; 'mt': the operations behind which what stood there may have turned. -/
def wpAnyE (P : Program) (ops : Array Oper) (mt : Nat → Bool) (Q : Exit → Act → World → Prop) : Nat → Array Bool → Act → World → Prop
  | 0, listed, a, w => Region.ready .any ops listed = [] ∧ Q .normal a w
  | fuel + 1, listed, a, w =>
    (Region.ready .any ops listed = [] → Q .normal a w) ∧
    ∀ i ∈ Region.ready .any ops listed, wpOp P ops Q i (fun a' w' => (mt i = false → ExtS w w') ∧ wpAnyE P ops mt Q fuel (listed.setIfInBounds i true) a' w') a w

section
variable {P : Program} {ops : Array Oper} {mt : Nat → Bool} {Q : Exit → Act → World → Prop}

theorem wpAny_ofE : ∀ (fuel : Nat) (listed : Array Bool) (a : Act) (w : World), wpAnyE P ops mt Q fuel listed a w → wpAny P .any ops Q fuel listed a w
  | 0, _, _, _, h => h
  | fuel + 1, _, _, _, h => ⟨h.1, fun i hi => wpOp_mono (fun a' w' h' => wpAny_ofE fuel _ a' w' h'.2) (h.2 i hi)⟩

theorem ready_set {listed : Array Bool} {i j : Nat} (hj : j ∈ Region.ready .any ops listed) (hji : j ≠ i) : j ∈ Region.ready .any ops (listed.setIfInBounds i true) := ready_mono hj hji

/-- What has come up had all that it waits for before it. -/
def Closed (ops : Array Oper) (l : Array Bool) : Prop := ∀ k ok, ops[k]? = some ok → l.getD k false = true → ∀ e ∈ ok.after, Region.binds .any e = true → l.getD e.on false = true

/-- Does number j wait for number i, directly or by others? -/
def waitsFor (ops : Array Oper) : Nat → Nat → Nat → Bool
  | 0, _, _ => false
  | n + 1, j, i =>
    match ops[j]? with
    | some oj => oj.after.any fun e => Region.binds .any e && (e.on == i || waitsFor ops n e.on i)
    | none => false

theorem waitsFor_spec {l : Array Bool} {i : Nat} (hc : Closed ops l) : ∀ (n j : Nat) (oj : Oper), ops[j]? = some oj → waitsFor ops n j i = true → (∀ e ∈ oj.after, Region.binds .any e = true → l.getD e.on false = true) → l.getD i false = true
  | 0, j, oj, _, h, _ => by simp [waitsFor] at h
  | n + 1, j, oj, hj, h, hall => by
    simp only [waitsFor, hj] at h
    obtain ⟨e, he, hb⟩ := Array.any_eq_true'.1 h
    simp only [Bool.and_eq_true, Bool.or_eq_true, beq_iff_eq] at hb
    have h1 := hall e he hb.1
    rcases hb.2 with h2 | h2
    · rw [← h2]; exact h1
    · cases hk : ops[e.on]? with
      | none =>
        cases n with
        | zero => simp [waitsFor] at h2
        | succ n => simp [waitsFor, hk] at h2
      | some ok => exact waitsFor_spec hc n e.on ok hk h2 (hc e.on ok hk h1)

theorem getD_false_of {l : Array Bool} {i : Nat} (h : l.getD i true = false) : l.getD i false = false := by
  rw [Array.getD_eq_getD_getElem?] at h ⊢
  cases e : l[i]? with
  | none => rfl
  | some b => rw [e] at h; simpa using h

theorem Closed.set {l : Array Bool} (hc : Closed ops l) {j : Nat} (hj : j ∈ Region.ready .any ops l) : Closed ops (l.setIfInBounds j true) := by
  have mono : ∀ k, l.getD k false = true → (l.setIfInBounds j true).getD k false = true := fun k h => by
    rw [Array.getD_eq_getD_getElem?] at h ⊢
    rw [Array.getElem?_setIfInBounds]
    split
    · rename_i e; subst e
      split
      · rfl
      · rename_i hn; rw [Array.getElem?_eq_none (by omega)] at h; simp at h
    · exact h
  intro k ok hk hl e he hb
  by_cases hjk : j = k
  · subst hjk
    obtain ⟨_, oj, hoj, hall⟩ := mem_ready.1 hj
    rw [hoj] at hk; injection hk with hk; subst hk
    exact mono _ (hall e he hb)
  · refine mono _ (hc k ok hk ?_ e he hb)
    rw [Array.getD_eq_getD_getElem?] at hl ⊢
    rwa [Array.getElem?_setIfInBounds_ne hjk] at hl

/-- What 'oi' yields, if it reads ('rd'), in every world where all stands that stood in w. -/
def SE (rd : Bool) (w : World) : World → Prop := fun w' => rd = true → ExtS w w'

theorem wpAnyE_first {i : Nat} {oi : Oper} {v : Value} {rd : Bool} (hi : ops[i]? = some oi) (hsel : ∀ (j : Nat) (o : Oper) cs b, ops[j]? = some o → o.op ≠ .select cs b)
    (hQ : ∀ c a w, Q (.panic c) (a.put oi.dst v) w → Q (.panic c) a w) :
    ∀ (fuel : Nat) (listed : Array Bool) (a : Act) (w : World),
      (∀ j oj, ops[j]? = some oj → j ≠ i → listed.getD j true = false → (∀ e ∈ oj.after, Region.binds .any e = true → e.on ≠ i) → oi.apart ops oj = true) →
      (rd = true → ∀ j oj, ops[j]? = some oj → j ≠ i → listed.getD j true = false → mt j = true → ∃ n, waitsFor ops n j i = true) → Closed ops listed →
      i ∈ Region.ready .any ops listed → YieldsIf P ops (SE rd w) oi v a →
      wpAnyE P ops mt Q fuel (listed.setIfInBounds i true) (a.put oi.dst v) w → wpAnyE P ops mt Q (fuel + 1) listed a w := by
  have refl : ∀ w : World, ExtS w w := fun w => ⟨Ext.refl w, Nat.le_refl _⟩
  intro fuel
  induction fuel with
  | zero =>
    intro listed a w _ _ _ hr hy H
    refine ⟨fun h => (by rw [h] at hr; cases hr), fun j hj => ?_⟩
    by_cases hji : j = i
    · subst hji; exact hy.wpOp hi (fun _ => refl w) ⟨fun _ => refl w, H⟩
    · have := ready_mono hj hji
      rw [H.1] at this
      cases this
  | succ fuel ih =>
    intro listed a w hfree hmt hcl hr hy H
    refine ⟨fun h => (by rw [h] at hr; cases hr), fun j hj => ?_⟩
    by_cases hji : j = i
    · subst hji; exact hy.wpOp hi (fun _ => refl w) ⟨fun _ => refl w, H⟩
    · have h1 := H.2 j (ready_mono hj hji)
      obtain ⟨hjun, oj, hoj, hall⟩ := mem_ready.1 hj
      have hnot : ∀ e ∈ oj.after, Region.binds .any e = true → e.on ≠ i := fun e he hb heq => by
        have h1 := hall e he hb
        have h0 := (mem_ready.1 hr).1
        rw [heq] at h1
        rcases Nat.lt_or_ge i listed.size with h' | h'
        · simp [h'] at h0 h1; rw [h0] at h1; cases h1
        · simp [Array.getElem?_eq_none h'] at h1
      have hmj : rd = true → mt j = false := fun hrd => by
        cases hm : mt j with
        | false => rfl
        | true =>
          obtain ⟨n, hn⟩ := hmt hrd j oj hoj hji hjun hm
          have h1 := waitsFor_spec hcl n j oj hoj hn hall
          rw [getD_false_of (mem_ready.1 hr).1] at h1
          cases h1
      have h2 := wpOp_putIf hoj (hfree j oj hoj hji hjun hnot) (fun cs b => hsel i oi cs b hi) (fun cs b => hsel j oj cs b hoj) hQ hy h1
      have hset : ∀ {k}, (listed.setIfInBounds j true).getD k true = false → listed.getD k true = false := fun {k} hun => by
        by_cases hjk : j = k
        · subst hjk; exact hjun
        · rw [getD_set_ne true hjk] at hun; exact hun
      refine wpOp_mono (fun a' w' h3 => ⟨h3.2.1, ih (listed.setIfInBounds j true) a' w' (fun k ok hk hki hun hno => hfree k ok hk hki (hset hun) hno) (fun hrd k ok hk hki hun hm => hmt hrd k ok hk hki (hset hun) hm) (hcl.set hj) (ready_mono hr (Ne.symm hji)) ?_ ?_⟩) h2
      · refine h3.1.imp (fun ⟨hw, hv⟩ => ⟨hw, fun w'' hs => hv w'' fun hrd => ?_⟩) id
        have e1 := h3.2.1 (hmj hrd)
        have e2 := hs hrd
        exact ⟨e1.1.trans e2.1 e1.2, Nat.le_trans e1.2 e2.2⟩
      · rw [Array.setIfInBounds_comm _ _ hji]
        exact h3.2.2

end

theorem Ext.size {w w' : World} (h : Ext w w') : w.heap.size ≤ w'.heap.size := by
  rcases Nat.lt_or_ge w'.heap.size w.heap.size with hlt | hge
  · have := h w'.heap.size hlt
    rw [Array.getElem?_eq_none (Nat.le_refl _), Array.getElem?_eq_getElem hlt] at this
    cases this
  · exact hge
theorem Ext.extS {w w' : World} (h : Ext w w') : ExtS w w' := ⟨h, h.size⟩

/-- An order, or a tree of them. -/
inductive Plan where
  | done
  | take (i : Nat) (p : Plan)
  | one (i : Nat) (p : Plan)
  | two (i : Nat) (p : Plan) (j : Nat) (q : Plan)
  | three (i : Nat) (p : Plan) (j : Nat) (q : Plan) (k : Nat) (r : Plan)
  | four (i : Nat) (p : Plan) (j : Nat) (q : Plan) (k : Nat) (r : Plan) (m : Nat) (t : Plan)

/-- Every operation that has not come up and may turn the memory waits for number i. -/
def waitM (mt : Nat → Bool) (ops : Array Oper) (listed : Array Bool) (i : Nat) : Bool :=
  (List.range ops.size).all fun j => j == i || listed.getD j true || !(mt j) || waitsFor ops 3 j i

def takeOk (mt : Nat → Bool) (ops : Array Oper) (listed : Array Bool) (i : Nat) : Bool :=
  match ops[i]? with
  | some o => quietOp o.op && Region.free .any ops listed i && (Region.ready .any ops listed).contains i && (!(readsO o.op) || waitM mt ops listed i)
  | none => false

def planOk (mt : Nat → Bool) (ops : Array Oper) : Plan → Array Bool → Bool
  | .done, l => (Region.ready .any ops l) == []
  | .take i p, l => takeOk mt ops l i && planOk mt ops p (l.setIfInBounds i true)
  | .one i p, l => (Region.ready .any ops l) == [i] && planOk mt ops p (l.setIfInBounds i true)
  | .two i p j q, l => (Region.ready .any ops l) == [i, j] && planOk mt ops p (l.setIfInBounds i true) && planOk mt ops q (l.setIfInBounds j true)
  | .three i p j q k r, l => (Region.ready .any ops l) == [i, j, k] && planOk mt ops p (l.setIfInBounds i true) && planOk mt ops q (l.setIfInBounds j true) && planOk mt ops r (l.setIfInBounds k true)
  | .four i p j q k r m t, l => (Region.ready .any ops l) == [i, j, k, m] && planOk mt ops p (l.setIfInBounds i true) && planOk mt ops q (l.setIfInBounds j true) && planOk mt ops r (l.setIfInBounds k true) && planOk mt ops t (l.setIfInBounds m true)

def Plan.len : Plan → Nat
  | .done => 0
  | .take _ p => p.len + 1
  | .one _ p => p.len + 1
  | .two _ p _ q => max p.len q.len + 1
  | .three _ p _ q _ r => max (max p.len q.len) r.len + 1
  | .four _ p _ q _ r _ t => max (max (max p.len q.len) r.len) t.len + 1

/-- A guard. -/
def agd (s : AState) (ops : List Oper) (o : Oper) (run skip : Prop) : Prop :=
  match o.guard with
  | none => run
  | some (g, want) =>
    match (ops[g]?).bind (·.dst) with
    | some t =>
      (match s.fr t with
      | .d (.bool b) =>
        (match want with
        | true => (b = true → run) ∧ (b = false → skip)
        | false => (b = false → run) ∧ (b = true → skip))
      | .un => skip
      | _ => False)
    | none => skip

/-- What a walk is told: functions that may turn what stood; objects to be laid to rest ahead of an operation; the orders of the drawn regions. -/
structure Told where
  mu : FuncId → Bool
  pre : Nat → Nat → List Tmp
  plan : Nat → Plan

def opStep (P : Program) (C : Ctx) (T : Told) (id : Nat) (ops : List Oper) (i : Nat) (o : Oper) (s : AState) (K : AState → Prop) : Prop :=
  qFreezes P (T.pre id i) s fun s => agd s ops o (match T.mu (1000000 + 1000 * id + i) with | true => aovr P C T.mu s o K | false => aop P C T.mu s o K) (dstOk s o = true ∧ forceS (s.put o.dst .un) K)

def awpOps (P : Program) (C : Ctx) (T : Told) (id : Nat) (ops : List Oper) : List Oper → Nat → AState → (AState → Prop) → Prop
  | [], _, s, K => K s
  | o :: r, i, s, K => opStep P C T id ops i o s fun s => awpOps P C T id ops r (i + 1) s K

def awpAny (P : Program) (C : Ctx) (T : Told) (id : Nat) (ops : List Oper) : Plan → AState → (AState → Prop) → Prop
  | .done, s, K => K s
  | .take i p, s, K =>
    match ops[i]? with
    | some o => (match s2b P o.op || T.mu (1000000 + 1000 * id + i) with
      | false => opStep P C T id ops i o s fun s => awpAny P C T id ops p s K
      | true => False)
    | none => False
  | .one i p, s, K =>
    match ops[i]? with
    | some o => opStep P C T id ops i o s fun s => awpAny P C T id ops p s K
    | none => False
  | .two i p j q, s, K =>
    match ops[i]?, ops[j]? with
    | some o, some o2 => opStep P C T id ops i o s (fun s => awpAny P C T id ops p s K) ∧ opStep P C T id ops j o2 s (fun s => awpAny P C T id ops q s K)
    | _, _ => False
  | .three i p j q k r, s, K =>
    match ops[i]?, ops[j]?, ops[k]? with
    | some o, some o2, some o3 => opStep P C T id ops i o s (fun s => awpAny P C T id ops p s K) ∧ opStep P C T id ops j o2 s (fun s => awpAny P C T id ops q s K) ∧ opStep P C T id ops k o3 s (fun s => awpAny P C T id ops r s K)
    | _, _, _ => False
  | .four i p j q k r m t, s, K =>
    match ops[i]?, ops[j]?, ops[k]?, ops[m]? with
    | some o, some o2, some o3, some o4 => opStep P C T id ops i o s (fun s => awpAny P C T id ops p s K) ∧ opStep P C T id ops j o2 s (fun s => awpAny P C T id ops q s K) ∧ opStep P C T id ops k o3 s (fun s => awpAny P C T id ops r s K) ∧ opStep P C T id ops m o4 s (fun s => awpAny P C T id ops t s K)
    | _, _, _, _ => False

def mtOf (mu : FuncId → Bool) (ops : List Oper) (i : Nat) : Bool := match ops[i]? with
  | some o => mutO mu o.op
  | none => false

def deferB : Op → Bool
  | .defer _ => true
  | _ => false
def noDefer : List Oper → Bool
  | [] => true
  | o :: r => !deferB o.op && noDefer r
theorem noDefer.mem : ∀ {l : List Oper}, noDefer l = true → ∀ o ∈ l, ∀ c, o.op ≠ .defer c
  | [], _, o, ho, _ => by simp at ho
  | p :: r, h, o, ho, c => by
    simp only [noDefer, Bool.and_eq_true, Bool.not_eq_true'] at h
    rcases List.mem_cons.1 ho with rfl | ho
    · intro e; rw [e] at h; simp [deferB] at h
    · exact noDefer.mem h.2 o ho c

def regionB (P : Program) (T : Told) (id : Nat) (ops : Array Oper) : Bool :=
  P.follows .mixedOrders && noDefer ops.toList && Region.noSelect ops && planOk (mtOf T.mu ops.toList) ops (T.plan id) (Array.replicate ops.size false) && decide ((T.plan id).len ≤ ops.size)

def thenQ (next : AState → Prop) (Q : Exit → AState → Prop) : Exit → AState → Prop
  | .normal, s => next s
  | .exit i, s => Q (.exit i) s
  | .goto l, s => Q (.goto l) s
  | .ret, s => Q .ret s
  | .panic c, s => Q (.panic c) s
  | .outgrown, s => Q .outgrown s

def blockQ (id : Nat) (Q : Exit → AState → Prop) : Exit → AState → Prop
  | .exit i, s => if i = id then Q .normal s else Q (.exit i) s
  | .normal, s => Q .normal s
  | .goto l, s => Q (.goto l) s
  | .ret, s => Q .ret s
  | .panic c, s => Q (.panic c) s
  | .outgrown, s => Q .outgrown s

def awp (P : Program) (C : Ctx) (T : Told) : Code → AState → (Exit → AState → Prop) → Prop
  | .skip, s, Q => Q .normal s
  | .seq x y, s, Q => awp P C T x s (thenQ (fun s => awp P C T y s Q) Q)
  | .region id ops false, s, Q =>
    (match noDefer ops.toList with
    | true => awpOps P C T id ops.toList ops.toList 0 s (Q .normal)
    | false => False)
  | .region id ops true, s, Q => regionB P T id ops = true ∧ awpAny P C T id ops.toList (T.plan id) s (Q .normal)
  | .cond c x y, s, Q =>
    (match aev P s 0 c with
    | .d (.bool b) => constOk P 0 c ∧ (b = true → awp P C T x s Q) ∧ (b = false → awp P C T y s Q)
    | _ => False)
  | .block id b, s, Q => awp P C T b s (blockQ id Q)
  | .exit id, s, Q => Q (.exit id) s
  | .label _, s, Q => Q .normal s
  | .goto l, s, Q => Q (.goto l) s
  | .ret, s, Q => Q .ret s
  | c, s, Q => AWp P C c s Q

section
variable {P : Program} {C : Ctx} {s : AState} {T : Told} {a : Act} {w : World}

/-- A post-condition of the walk, as the model's. -/
def liftQ (C : Ctx) (Q : Exit → AState → Prop) : Exit → Act → World → Prop := fun e a w => ∃ s, ARel C s a w ∧ Q e s

theorem agd_sound {β : Nat → Option Value} {S : Nat → Prop} (h : ARelB C s β S a w) {ops : List Oper} {o : Oper} {run skip : Prop} (hq : agd s ops o run skip) :
    (Region.wanted o (yielded ops.toArray a.tmps) = true ∧ run) ∨ (Region.wanted o (yielded ops.toArray a.tmps) = false ∧ skip) := by
  unfold agd at hq
  unfold Region.wanted
  split at hq
  · rename_i hg; rw [hg]; exact .inl ⟨rfl, hq⟩
  · rename_i g want hg
    rw [hg]
    unfold yielded
    simp only [List.getElem?_toArray]
    split at hq
    · rename_i t ht
      rw [ht]
      simp only [Option.bind_some]
      have hfr := h.fr t
      rw [Array.getD_eq_getD_getElem?] at hfr
      split at hq
      · rename_i b hb
        rw [hb] at hfr
        have e := d_bool hfr
        cases ha : a.tmps[t]? with
        | none => rw [ha] at e; simp [undef] at e
        | some v =>
          rw [ha] at e
          simp only [Option.getD_some] at e
          subst e
          cases want <;> cases b <;> simp_all
      · rename_i hb
        rw [hb] at hfr
        simp only [VRel] at hfr
        right
        refine ⟨?_, hq⟩
        cases ha : a.tmps[t]? with
        | none => simp
        | some v =>
          rw [ha] at hfr
          simp only [Option.getD_some] at hfr
          subst hfr
          simp [undef]
      · exact hq.elim
    · rename_i ht
      rw [ht]
      right
      exact ⟨by simp, hq⟩

theorem put_un {β : Nat → Option Value} {S : Nat → Prop} (h : ARelB C s β S a w) (o : Oper) (hd : dstOk s o = true) : ARelB C (s.put o.dst .un) β S (a.put o.dst undef) w :=
  h.put (by simp only [VRel]) (dstOk.lt hd)

/-- One operation of a region, as the walk takes it. -/
theorem opStep_sound (h : ARel C s a w) {id : Nat} {ops : List Oper} {i : Nat} {o : Oper} (ho : ops[i]? = some o) {K : AState → Prop} (hq : opStep P C T id ops i o s K) {Q : Exit → Act → World → Prop} :
    wpOp P ops.toArray Q i (fun a' w' => (mtOf T.mu ops i = false → Ext w w') ∧ ∃ s', ARel C s' a' w' ∧ K s') a w := by
  obtain ⟨β, S, h⟩ := h
  obtain ⟨S', s', h', hq⟩ := qFreezes_sound h hq
  unfold wpOp
  simp only [List.getElem?_toArray, ho]
  rcases agd_sound h' hq with ⟨hw, hr⟩ | ⟨hw, hr⟩
  · rw [if_pos hw]
    refine .inl ?_
    split at hr
    · have := aovr_sound h' hr (Q := Q)
      simpa only [mtOf, ho] using this
    · have := aop_sound h' hr (Q := Q)
      simpa only [mtOf, ho] using this
  · rw [if_neg (by simp [hw])]
    exact ⟨fun _ => Ext.refl w, _, ⟨β, S', put_un h' o hr.1⟩, forceS_of _ hr.2⟩

theorem awpOps_sound {id : Nat} {ops : List Oper} {K : AState → Prop} {Q : Exit → Act → World → Prop} (hQ : ∀ s a w, ARel C s a w → K s → Q .normal a w) :
    ∀ {r : List Oper} {i : Nat} {s : AState} {a : Act} {w : World}, (∀ k, r[k]? = ops[i + k]?) → ARel C s a w → awpOps P C T id ops r i s K → wpList P ops.toArray Q r a w
  | [], i, s, a, w, _, h, hq => by simp only [awpOps] at hq; exact hQ s a w h hq
  | o :: r, i, s, a, w, hr, h, hq => by
    have hs := opStep_sound h (by have := hr 0; simpa using this.symm) hq (Q := Q)
    have hi : ops[i]? = some o := by have := hr 0; simpa using this.symm
    have ih := @awpOps_sound id ops K Q hQ r (i + 1)
    unfold wpOp at hs
    simp only [List.getElem?_toArray, hi] at hs
    have hr' : ∀ k, r[k]? = ops[i + 1 + k]? := fun k => by have := hr (k + 1); simpa [Nat.add_assoc, Nat.add_comm 1 k] using this
    simp only [wpList]
    split
    · rename_i hw
      rw [if_pos hw] at hs
      exact hs.imp (Oper.wp_mono fun a' w' ⟨_, s', h', hq'⟩ => ih hr' h' hq') (fun h => h)
    · rename_i hw
      rw [if_neg hw] at hs
      obtain ⟨_, s', h', hq'⟩ := hs
      exact ih hr' h' hq'

theorem ARel.drawn (h : ARel C s a w) (n : Nat) : ARel C s a { w with drawn := n } := by
  obtain ⟨β, S, h⟩ := h
  have hk : ∀ b, S b → S b ∧ ({ w with drawn := n } : World).heap[b]? = w.heap[b]? := fun b hb => ⟨hb, rfl⟩
  refine ⟨β, S, fun t => VRel.keep hk (fun _ _ e => e) _ _ (h.fr t), h.size, ⟨fun j o hj => ?_, h.st.nodup, h.st.apart, h.st.own, h.st.inS, h.st.gl.keep hk⟩, ⟨h.frame.size, h.frame.os, h.frame.tape, h.frame.output, h.frame.old, h.frame.inS, h.frame.own⟩, h.nx, h.defers, h.pin, h.nxm⟩
  obtain ⟨v, hv, hr⟩ := h.st.obj j o hj
  exact ⟨v, hv, hr.keep hk (fun _ _ e => e) fun _ _ => rfl⟩

theorem take_sound (h : ARel C s a w) {id : Nat} {ops : List Oper} {i : Nat} {o : Oper} (hqt : quietOp o.op = true) (hqb : (s2b P o.op || T.mu (1000000 + 1000 * id + i)) = false) {K : AState → Prop} (hq : opStep P C T id ops i o s K) :
    ∃ v, YieldsIf P ops.toArray (SE (readsO o.op) w) o v a ∧ ∃ s', ARel C s' (a.put o.dst v) w ∧ K s' := by
  obtain ⟨β, S, h⟩ := h
  obtain ⟨S', s', h', hq⟩ := qFreezes_sound h hq
  rcases agd_sound h' hq with ⟨hw, hr⟩ | ⟨hw, hr⟩
  · simp only [Bool.or_eq_false_iff] at hqb
    rw [hqb.2] at hr
    replace hr : aop P C T.mu s' o K := hr
    obtain ⟨hd, hr⟩ := hr
    rw [hqt, hqb.1] at hr
    obtain ⟨v, r, h1, h2, h3⟩ := aquiet_sound h' hr
    exact ⟨v, .inl ⟨hw, fun w' hs => h1 w' fun hrd => (hs hrd).1⟩, _, ⟨β, S', h'.put h2 (dstOk.lt hd)⟩, forceS_of _ (forceV_of _ h3)⟩
  · exact ⟨undef, .inr ⟨hw, rfl⟩, _, ⟨β, S', put_un h' o hr.1⟩, forceS_of _ hr.2⟩

theorem waitM_spec {mt : Nat → Bool} {ops : Array Oper} {listed : Array Bool} {i : Nat} (h : waitM mt ops listed i = true) (j : Nat) (oj : Oper) (hj : ops[j]? = some oj) (hne : j ≠ i) (hun : listed.getD j true = false) (hm : mt j = true) :
    ∃ n, waitsFor ops n j i = true := by
  simp only [waitM, List.all_eq_true, List.mem_range] at h
  have h1 := h j (Array.getElem?_eq_some_iff.1 hj).1
  simp only [Bool.or_eq_true, beq_iff_eq, hne, false_or, hun, Bool.false_eq_true, hm, Bool.not_true] at h1
  exact ⟨3, h1⟩

theorem wpAnyE_all {ops : Array Oper} {mt : Nat → Bool} {Q : Exit → Act → World → Prop} {rs : List Nat} {fuel : Nat} {listed : Array Bool} (hr : Region.ready .any ops listed = rs) (hne : rs ≠ [])
    (h : ∀ i ∈ rs, wpOp P ops Q i (fun a' w' => (mt i = false → ExtS w w') ∧ wpAnyE P ops mt Q fuel (listed.setIfInBounds i true) a' w') a w) : wpAnyE P ops mt Q (fuel + 1) listed a w :=
  ⟨fun h0 => absurd (hr ▸ h0) hne, hr ▸ h⟩

theorem awpAny_sound {id : Nat} {ops : List Oper} {K : AState → Prop} {Q : Exit → Act → World → Prop} (hQ : ∀ s a w, ARel C s a w → K s → Q .normal a w) (hP : ∀ c a w, ¬ Q (.panic c) a w) (hsel : Region.noSelect ops.toArray = true) :
    ∀ (p : Plan) (l : Array Bool) (s : AState) (a : Act) (w : World) (fuel : Nat), p.len ≤ fuel → planOk (mtOf T.mu ops) ops.toArray p l = true → Closed ops.toArray l → ARel C s a w → awpAny P C T id ops p s K → wpAnyE P ops.toArray (mtOf T.mu ops) Q fuel l a w := by
  have step : ∀ {i : Nat} {o : Oper} {K' : AState → Prop} {s : AState} {a : Act} {w : World} {fuel : Nat} {l : Array Bool}, ops[i]? = some o → ARel C s a w → opStep P C T id ops i o s K' →
      (∀ s' a' w', ARel C s' a' w' → K' s' → wpAnyE P ops.toArray (mtOf T.mu ops) Q fuel (l.setIfInBounds i true) a' w') →
      wpOp P ops.toArray Q i (fun a' w' => (mtOf T.mu ops i = false → ExtS w w') ∧ wpAnyE P ops.toArray (mtOf T.mu ops) Q fuel (l.setIfInBounds i true) a' w') a w := fun ho h hq hk =>
    wpOp_mono (fun a' w' ⟨h1, s', h2, h3⟩ => ⟨fun hm => (h1 hm).extS, hk s' a' w' h2 h3⟩) (opStep_sound h ho hq)
  intro p
  induction p with
  | done =>
    intro l s a w fuel _ hp hcl h hq
    simp only [planOk, beq_iff_eq] at hp
    simp only [awpAny] at hq
    cases fuel with
    | zero => exact ⟨hp, hQ _ _ _ h hq⟩
    | succ n => exact ⟨fun _ => hQ _ _ _ h hq, by rw [hp]; simp⟩
  | take i p ih =>
    intro l s a w fuel hf hp hcl h hq
    simp only [planOk, Bool.and_eq_true] at hp
    simp only [awpAny] at hq
    simp only [Plan.len] at hf
    obtain ⟨fuel, rfl⟩ : ∃ n, fuel = n + 1 := ⟨fuel - 1, by omega⟩
    split at hq
    · rename_i o ho
      cases hqb : (s2b P o.op || T.mu (1000000 + 1000 * id + i)) with
      | true => rw [hqb] at hq; exact hq.elim
      | false =>
      rw [hqb] at hq
      replace hq : opStep P C T id ops i o s fun s => awpAny P C T id ops p s K := hq
      have ho' : ops.toArray[i]? = some o := by simpa using ho
      have ht := hp.1
      unfold takeOk at ht
      rw [ho'] at ht
      simp only [Bool.and_eq_true, Bool.or_eq_true, Bool.not_eq_true'] at ht
      obtain ⟨⟨⟨h1, h2⟩, h3⟩, h4⟩ := ht
      obtain ⟨v, hy, s', h5, h6⟩ := take_sound h h1 hqb hq
      refine wpAnyE_first ho' (Region.noSelect_spec hsel) (fun c a w h => (hP c _ w h).elim) fuel l a w (Region.free_spec ho' h2) (fun hrd j oj hj hne hun hm => ?_) hcl (by simpa using h3) hy (ih _ _ _ _ _ (by omega) hp.2 (hcl.set (by simpa using h3)) h5 h6)
      rcases h4 with h4 | h4
      · rw [h4] at hrd; cases hrd
      · exact waitM_spec h4 j oj hj hne hun hm
    · exact hq.elim
  | one i p ih =>
    intro l s a w fuel hf hp hcl h hq
    simp only [planOk, Bool.and_eq_true, beq_iff_eq] at hp
    simp only [awpAny] at hq
    simp only [Plan.len] at hf
    obtain ⟨fuel, rfl⟩ : ∃ n, fuel = n + 1 := ⟨fuel - 1, by omega⟩
    split at hq
    · rename_i o ho
      refine wpAnyE_all hp.1 (by simp) fun k hk => ?_
      simp only [List.mem_cons, List.not_mem_nil, or_false] at hk
      subst hk
      exact step ho h hq fun s' a' w' h' hK => ih _ _ _ _ _ (by omega) hp.2 (hcl.set (by rw [hp.1]; simp)) h' hK
    · exact hq.elim
  | two i p j q ih1 ih2 =>
    intro l s a w fuel hf hp hcl h hq
    simp only [planOk, Bool.and_eq_true, beq_iff_eq] at hp
    simp only [awpAny] at hq
    simp only [Plan.len] at hf
    obtain ⟨fuel, rfl⟩ : ∃ n, fuel = n + 1 := ⟨fuel - 1, by omega⟩
    split at hq
    · rename_i o o2 ho ho2
      refine wpAnyE_all hp.1.1 (by simp) fun k hk => ?_
      simp only [List.mem_cons, List.not_mem_nil, or_false] at hk
      rcases hk with rfl | rfl
      · exact step ho h hq.1 fun s' a' w' h' hK => ih1 _ _ _ _ _ (by omega) hp.1.2 (hcl.set (by rw [hp.1.1]; simp)) h' hK
      · exact step ho2 h hq.2 fun s' a' w' h' hK => ih2 _ _ _ _ _ (by omega) hp.2 (hcl.set (by rw [hp.1.1]; simp)) h' hK
    · exact hq.elim
  | three i p j q k r ih1 ih2 ih3 =>
    intro l s a w fuel hf hp hcl h hq
    simp only [planOk, Bool.and_eq_true, beq_iff_eq] at hp
    simp only [awpAny] at hq
    simp only [Plan.len] at hf
    obtain ⟨fuel, rfl⟩ : ∃ n, fuel = n + 1 := ⟨fuel - 1, by omega⟩
    split at hq
    · rename_i o o2 o3 ho ho2 ho3
      refine wpAnyE_all hp.1.1.1 (by simp) fun k hk => ?_
      simp only [List.mem_cons, List.not_mem_nil, or_false] at hk
      rcases hk with rfl | rfl | rfl
      · exact step ho h hq.1 fun s' a' w' h' hK => ih1 _ _ _ _ _ (by omega) hp.1.1.2 (hcl.set (by rw [hp.1.1.1]; simp)) h' hK
      · exact step ho2 h hq.2.1 fun s' a' w' h' hK => ih2 _ _ _ _ _ (by omega) hp.1.2 (hcl.set (by rw [hp.1.1.1]; simp)) h' hK
      · exact step ho3 h hq.2.2 fun s' a' w' h' hK => ih3 _ _ _ _ _ (by omega) hp.2 (hcl.set (by rw [hp.1.1.1]; simp)) h' hK
    · exact hq.elim
  | four i p j q k r m t ih1 ih2 ih3 ih4 =>
    intro l s a w fuel hf hp hcl h hq
    simp only [planOk, Bool.and_eq_true, beq_iff_eq] at hp
    simp only [awpAny] at hq
    simp only [Plan.len] at hf
    obtain ⟨fuel, rfl⟩ : ∃ n, fuel = n + 1 := ⟨fuel - 1, by omega⟩
    split at hq
    · rename_i o o2 o3 o4 ho ho2 ho3 ho4
      refine wpAnyE_all hp.1.1.1.1 (by simp) fun k hk => ?_
      simp only [List.mem_cons, List.not_mem_nil, or_false] at hk
      rcases hk with rfl | rfl | rfl | rfl
      · exact step ho h hq.1 fun s' a' w' h' hK => ih1 _ _ _ _ _ (by omega) hp.1.1.1.2 (hcl.set (by rw [hp.1.1.1.1]; simp)) h' hK
      · exact step ho2 h hq.2.1 fun s' a' w' h' hK => ih2 _ _ _ _ _ (by omega) hp.1.1.2 (hcl.set (by rw [hp.1.1.1.1]; simp)) h' hK
      · exact step ho3 h hq.2.2.1 fun s' a' w' h' hK => ih3 _ _ _ _ _ (by omega) hp.1.2 (hcl.set (by rw [hp.1.1.1.1]; simp)) h' hK
      · exact step ho4 h hq.2.2.2 fun s' a' w' h' hK => ih4 _ _ _ _ _ (by omega) hp.2 (hcl.set (by rw [hp.1.1.1.1]; simp)) h' hK
    · exact hq.elim

theorem ARel.bool {t : Operand} {b : Bool} (h : ARel C s a w) (hc : constOk P 0 t) (he : aev P s 0 t = .d (.bool b)) : a.eval t = .bool b := by
  obtain ⟨β, S, h⟩ := h
  have := aev_rel h hc
  rw [he] at this
  exact d_bool this

/-! ### In a round of a loop over a function, or not -/
theorem stepsIn_fence {rd : Option Nat} {m m' : Machine} : StepsIn (Machine.fenced P (fence rd)) P m m' ↔ Steps P m m' := stepsIn_wide
theorem callsIn_fence {rd : Option Nat} {n : Nat} {f : FuncId} {args : Array Value} {w : World} {R : Ending → World → Prop} : CallsIn (fence rd) n P f args w R ↔ Calls P f args w R := callsIn_wide

theorem wpIn_fence {rd : Option Nat} {n : Nat} {c : Code} {Q : Exit → Act → World → Prop} (h : c.wpIn (fence rd) 0 P Q a w) : c.wpIn (fence rd) n P Q a w :=
  fun b k cs hro hb _ => h b k cs hro hb (room_wide _)

theorem oper_in {rd : Option Nat} {n : Nat} {o : Oper} {K : Act → World → Prop} {Q : Exit → Act → World → Prop} (hd : ∀ c, o.op ≠ .defer c) (h : o.wp P a w K Q) : o.wpIn (fence rd) n P a w K Q := by
  unfold Oper.wp at h
  unfold Oper.wpIn
  refine ⟨fun _ _ => trivial, ?_⟩
  rw [Oper.semAt_eq _ _ _ hd]
  generalize (execOp a.eval o).run P w = r at *
  cases r with
  | ok x w' =>
    cases x <;> simp only [Oper.upon, Oper.uponIn] at h ⊢ <;>
      first
        | exact h
        | exact h.elim
        | exact ⟨fun h => by simp [fence, Fence.wide] at h, callsIn_fence.2 (Calls.mono h fun e w'' he => by cases e <;> exact he)⟩
        | exact ⟨fun h => by simp [fence, Fence.wide] at h, fun c cs _ => let ⟨v, w', r, s⟩ := h c cs; ⟨v, w', r, stepsIn_fence.2 s⟩⟩
  | halt x w' => cases x <;> simp only [Oper.upon, Oper.uponIn] at h ⊢ <;> exact h

theorem wpList_in {rd : Option Nat} {n : Nat} {ops : Array Oper} {Q : Exit → Act → World → Prop} (hQ : ¬ LetsOut Q) : ∀ (l : List Oper), (∀ o ∈ l, ∀ c, o.op ≠ .defer c) → ∀ (a : Act) (w : World), wpList P ops Q l a w → wpListIn (fence rd) n P ops Q l a w
  | [], _, a, w, h => h
  | o :: l, hd, a, w, h => by
    have ih := @wpList_in rd n ops Q hQ l (fun o ho => hd o (List.mem_cons_of_mem _ ho))
    simp only [wpList] at h
    simp only [wpListIn]
    split
    · rename_i hw
      rw [if_pos hw] at h
      rcases h with h | h
      · exact Oper.wpIn_mono ih (oper_in (hd o (by simp)) h)
      · exact (hQ h.2).elim
    · rename_i hw
      rw [if_neg hw] at h
      exact ⟨fun _ _ => trivial, ih _ _ h⟩

theorem wpAny_in {rd : Option Nat} {n : Nat} {md : Region.Mode} {ops : Array Oper} {Q : Exit → Act → World → Prop} (hQ : ¬ LetsOut Q) (hd : ∀ o ∈ ops.toList, ∀ c, o.op ≠ .defer c) : ∀ (fuel : Nat) (l : Array Bool) (a : Act) (w : World),
    wpAny P md ops Q fuel l a w → wpAnyIn (fence rd) n P md ops Q fuel l a w
  | 0, _, _, _, h => h
  | fuel + 1, l, a, w, h => ⟨h.1, fun i hi => by
    have h2 := h.2 i hi
    unfold wpOp at h2
    unfold wpOpIn
    split
    · rename_i ho
      simp only [ho] at h2
      exact wpAny_in hQ hd fuel _ _ _ h2
    · rename_i o ho
      simp only [ho] at h2
      have hm : o ∈ ops.toList := by
        obtain ⟨hlt, he⟩ := Array.getElem?_eq_some_iff.1 ho
        rw [← he]
        exact Array.getElem_mem_toList hlt
      split
      · rename_i hw
        rw [if_pos hw] at h2
        rcases h2 with h2 | h2
        · exact Oper.wpIn_mono (fun a' w' h' => wpAny_in hQ hd fuel _ a' w' h') (oper_in (hd o hm) h2)
        · exact (hQ h2.2).elim
      · rename_i hw
        rw [if_neg hw] at h2
        exact ⟨fun _ _ => trivial, wpAny_in hQ hd fuel _ _ _ h2⟩⟩

/-- THE WALK. -/
theorem awp_sound : ∀ (c : Code) {s : AState} {a : Act} {w : World} {Q : Exit → AState → Prop}, ARel C s a w → awp P C T c s Q → c.wpIn (fence C.rd) 0 P (liftQ C Q) a w := by
  have normal : ∀ {Q : Exit → AState → Prop} {s : AState} {a : Act} {w : World}, ARel C s a w → Q .normal s → liftQ C Q .normal a w := fun h hq => ⟨_, h, hq⟩
  have other : ∀ {c : Code} {s : AState} {a : Act} {w : World} {Q : Exit → AState → Prop}, ARel C s a w → AWp P C c s Q → c.wpIn (fence C.rd) 0 P (liftQ C Q) a w := fun {c s a w Q} h hq =>
    wpIn_mono (hq.run a w h) fun e a' w' ⟨s', h1, h2⟩ => ⟨s', h1, h2⟩
  have out : ∀ {Q : Exit → AState → Prop}, ¬ LetsOut (fun e a w => match e with
        | .normal => liftQ C Q .normal a w
        | _ => False) := fun ⟨a, w, h⟩ => h
  intro c
  induction c with
  | skip => intro s a w Q h hq; exact wpIn_skip ⟨s, h, hq⟩
  | region id ops draw =>
    intro s a w Q h hq
    let Q0 : Exit → Act → World → Prop := fun e a w => match e with
        | .normal => liftQ C Q .normal a w
        | _ => False
    refine wpIn_mono (Q := Q0) ?_ (fun e a w q => by cases e <;> first | exact q | exact q.elim)
    cases draw with
    | false =>
      simp only [awp] at hq
      split at hq
      · rename_i hnd
        refine wpIn_region_list (wpList_in out _ (noDefer.mem hnd) _ _ ?_)
        have := awpOps_sound (P := P) (T := T) (id := id) (ops := ops.toList) (K := Q .normal) (Q := Q0) (fun s a w h hK => ⟨s, h, hK⟩) (r := ops.toList) (i := 0) (fun k => by simp) h hq
        simpa using this
      · exact hq.elim
    | true =>
      simp only [awp] at hq
      obtain ⟨hB, hq⟩ := hq
      simp only [regionB, Bool.and_eq_true, decide_eq_true_eq] at hB
      obtain ⟨⟨⟨⟨hm, hnd⟩, hsel⟩, hp⟩, hlen⟩ := hB
      refine wpIn_region_any hm (wpAny_in out (noDefer.mem hnd) _ _ _ _ (wpAny_ofE _ _ _ _ (mt := mtOf T.mu ops.toList) ?_))
      have := awpAny_sound (P := P) (C := C) (T := T) (id := id) (ops := ops.toList) (K := Q .normal) (Q := Q0) (fun s a w h hK => ⟨s, h, hK⟩) (fun c a w h => h) (by simpa using hsel) (T.plan id) _ s a { w with drawn := w.drawn + 1 } ops.size hlen (by simpa using hp) (fun k ok _ hl => by rw [Array.getD_eq_getD_getElem?, Array.getElem?_replicate] at hl; split at hl <;> simp at hl) (h.drawn _) hq
      simpa using this
  | seq x y ih1 ih2 =>
    intro s a w Q h hq
    simp only [awp] at hq
    refine wpIn_seq (wpIn_mono (ih1 h hq) fun e a' w' hl => ?_)
    obtain ⟨s', h1, h2⟩ := hl
    cases e <;> first | exact ih2 h1 h2 | exact ⟨s', h1, h2⟩
  | cond c x y ih1 ih2 =>
    intro s a w Q h hq
    simp only [awp] at hq
    split at hq
    · rename_i b hb
      obtain ⟨hc, h1, h2⟩ := hq
      exact wpIn_cond_split (h.bool hc hb) (fun e => ih1 h (h1 e)) fun e => ih2 h (h2 e)
    · exact hq.elim
  | block id x ih =>
    intro s a w Q h hq
    simp only [awp] at hq
    refine wpIn_block (wpIn_mono (ih h hq) fun e a' w' hl => ?_)
    obtain ⟨s', h1, h2⟩ := hl
    cases e with
    | exit i =>
      simp only [blockQ] at h2
      simp only [Exit.inBlock]
      split <;> rename_i hi
      · rw [if_pos hi] at h2; exact ⟨s', h1, h2⟩
      · rw [if_neg hi] at h2; exact ⟨s', h1, h2⟩
    | _ => exact ⟨s', h1, h2⟩
  | exit id => intro s a w Q h hq; exact wpIn_exit ⟨s, h, hq⟩
  | label l => intro s a w Q h hq; exact wpIn_label ⟨s, h, hq⟩
  | goto l => intro s a w Q h hq; exact wpIn_goto ⟨s, h, hq⟩
  | ret => intro s a w Q h hq; exact wpIn_ret ⟨s, h, hq⟩
  | _ => intro s a w Q h hq; exact other h hq

end

mutual
def renV (ρ : Nat → Nat) : AVal → AVal
  | .own i => .own (ρ i)
  | .view i off len => .view (ρ i) off len
  | .optr i off => .optr (ρ i) off
  | .ag t cs => .ag t (renL ρ cs)
  | .tup cs => .tup (renL ρ cs)
  | .ofn f cs => .ofn f (renL ρ cs)
  | .any => .any
  | .un => .un
  | .d x => .d x
  | .em x => .em x
  | .nls x => .nls x
def renL (ρ : Nat → Nat) : List AVal → List AVal
  | [] => []
  | x :: r => renV ρ x :: renL ρ r
end

def renOb (ρ : Nat → Nat) : Ob → Ob
  | .cell t cs => .cell t (renL ρ cs)
  | .row k t xs => .row k t xs
  | .rowD t sz es => .rowD t sz es

def renSt (ρ : Nat → Nat) : List (Nat × Ob) → List (Nat × Ob)
  | [] => []
  | (i, o) :: r => (ρ i, renOb ρ o) :: renSt ρ r

section
variable {w : World} {β : Nat → Option Value} {S : Nat → Prop} {ρ : Nat → Nat}

mutual
theorem renV_iff : ∀ (x : AVal) (v : Value), VRel w (fun i => β (ρ i)) S x v ↔ VRel w β S (renV ρ x) v
  | .any, v => by simp only [VRel, renV]
  | .un, v => by simp only [VRel, renV]
  | .d x, v => by simp only [VRel, renV]
  | .em x, v => by simp only [VRel, renV]
  | .nls x, v => by simp only [VRel, renV]
  | .own i, v => by simp only [VRel, renV]
  | .view i off len, v => by simp only [VRel, renV]
  | .optr i off, v => by simp only [VRel, renV]
  | .ag t cs, v => by
    simp only [VRel, renV]
    exact exists_congr fun vs => and_congr Iff.rfl (renL_iff cs _)
  | .tup cs, v => by
    simp only [VRel, renV]
    exact exists_congr fun vs => and_congr Iff.rfl (renL_iff cs _)
  | .ofn f cs, v => by
    simp only [VRel, renV]
    exact exists_congr fun vs => and_congr Iff.rfl (renL_iff cs _)
theorem renL_iff : ∀ (xs : List AVal) (vs : List Value), VAll w (fun i => β (ρ i)) S xs vs ↔ VAll w β S (renL ρ xs) vs
  | [], vs => by simp only [VAll, renL]
  | x :: xs, vs => by
    simp only [VAll, renL]
    exact exists_congr fun v => exists_congr fun r => and_congr Iff.rfl (and_congr (renV_iff x v) (renL_iff xs r))
end

theorem renOb_iff {v : Value} (o : Ob) : ORel w (fun i => β (ρ i)) S v o ↔ ORel w β S v (renOb ρ o) := by
  cases o with
  | row k t xs => simp only [ORel, renOb]
  | rowD t sz es => simp only [ORel, renOb]
  | cell t cs =>
    simp only [ORel, renOb]
    exact exists_congr fun b => exists_congr fun vs => and_congr Iff.rfl (and_congr Iff.rfl (renL_iff cs _))

theorem mem_renSt : ∀ {st : List (Nat × Ob)} {j : Nat} {p : Ob}, (j, p) ∈ renSt ρ st ↔ ∃ i o, (i, o) ∈ st ∧ j = ρ i ∧ p = renOb ρ o
  | [], j, p => by simp [renSt]
  | (k, q) :: r, j, p => by
    simp only [renSt, List.mem_cons, mem_renSt (st := r)]
    constructor
    · rintro (h | ⟨i, o, h1, h2, h3⟩)
      · injection h with h1 h2; exact ⟨k, q, .inl rfl, h1, h2⟩
      · exact ⟨i, o, .inr h1, h2, h3⟩
    · rintro ⟨i, o, h | h, h2, h3⟩
      · injection h with h4 h5; subst h4; subst h5; exact .inl (by rw [h2, h3])
      · exact .inr ⟨i, o, h, h2, h3⟩
theorem renSt_ids : ∀ (st : List (Nat × Ob)), (renSt ρ st).map (·.1) = st.map fun p => ρ p.1
  | [] => rfl
  | (k, q) :: r => by simp only [renSt, List.map_cons, renSt_ids r]
end

/-- The callee's number i, in the caller's numbers: 'l' names what is handed in. -/
def rho (l : List Nat) (nx : Nat) (i : Nat) : Nat := match l[i]? with
  | some j => j
  | none => nx + (i - l.length)

def dropIds (l : List Nat) : List (Nat × Ob) → List (Nat × Ob)
  | [] => []
  | (i, o) :: r => if l.contains i = true then dropIds l r else (i, o) :: dropIds l r

def stIn (l : List Nat) (nx : Nat) (sst : List (Nat × Ob)) : List (Nat × Ob) → Prop
  | [] => True
  | (i, o) :: r => (i < l.length ∧ getO sst (rho l nx i) = some (renOb (rho l nx) o)) ∧ stIn l nx sst r

theorem stIn_mem {l : List Nat} {nx : Nat} {sst : List (Nat × Ob)} : ∀ {st : List (Nat × Ob)}, stIn l nx sst st → ∀ {i o}, (i, o) ∈ st → i < l.length ∧ (rho l nx i, renOb (rho l nx) o) ∈ sst
  | [], _, i, o, h => by simp at h
  | (k, q) :: r, hs, i, o, h => by
    simp only [stIn] at hs
    rcases List.mem_cons.1 h with h | h
    · injection h with h1 h2; subst h1; subst h2
      exact ⟨hs.1.1, getO_mem hs.1.2⟩
    · exact stIn_mem hs.2 h

theorem rho_lt {l : List Nat} {nx i : Nat} (h : i < l.length) : rho l nx i = l[i] := by simp [rho, h]
theorem rho_ge {l : List Nat} {nx i : Nat} (h : l.length ≤ i) : rho l nx i = nx + (i - l.length) := by simp [rho, h]

theorem nodup_get {l : List Nat} (hn : l.Nodup) {i j : Nat} (hi : i < l.length) (hj : j < l.length) (h : l[i] = l[j]) : i = j := by
  have hp := List.pairwise_iff_getElem.1 hn
  rcases Nat.lt_trichotomy i j with h1 | h1 | h1
  · exact (hp i j hi hj h1 h).elim
  · exact h1
  · exact (hp j i hj hi h1 h.symm).elim

theorem rho_inj {l : List Nat} {nx : Nat} (hn : l.Nodup) (hb : ∀ j ∈ l, j < nx) {i j : Nat} (h : rho l nx i = rho l nx j) : i = j := by
  rcases Nat.lt_or_ge i l.length with hi | hi <;> rcases Nat.lt_or_ge j l.length with hj | hj
  · rw [rho_lt hi, rho_lt hj] at h
    exact nodup_get hn hi hj h
  · rw [rho_lt hi, rho_ge hj] at h
    have := hb _ (List.getElem_mem hi)
    omega
  · rw [rho_ge hi, rho_lt hj] at h
    have := hb _ (List.getElem_mem hj)
    omega
  · rw [rho_ge hi, rho_ge hj] at h
    omega

/-! ### Contracts -/

/-- WHAT A FUNCTION COMES TO: handed 'args', which name the objects of 'st' (numbers below 'm'). -/
def CSpec (P : Program) (f : FuncId) (args : List AVal) (st : List (Nat × Ob)) (m : Nat) (K : List (Nat × Ob) → Nat → AVal → Prop) : Prop :=
  Enters P f ∧ ∀ w β S vs, SRel w β S st → (∀ j, m ≤ j → β j = none) → VAll w β S args vs →
    Calls P f vs.toArray w fun e w' => ∃ v st' nx' r β' S', e = .returned v ∧ Fr ⟨w, S, Owned β st, m, β, none⟩ w' S' (Owned β' st') ∧ SRel w' β' S' st' ∧
      (∀ j, nx' ≤ j → β' j = none) ∧ m ≤ nx' ∧ (∀ j, j < m → β' j = β j) ∧ VRel w' β' S' r v ∧ K st' nx' r

/-- A function's results. -/
def resV (P : Program) (s : AState) : List ResultVar → (List AVal → Prop) → Prop
  | [], K => K []
  | .tmp t :: r, K => forceV (s.fr t) fun v => resV P s r fun vs => K (v :: vs)
  | .cell x t :: r, K => qLoad P s t (s.fr x) fun v => forceV v fun v => resV P s r fun vs => K (v :: vs)

def oneR (K : AVal → Prop) : List AVal → Prop
  | [v] => K v
  | vs => K (.tup vs)

def nodupB : List Nat → Bool
  | [] => true
  | x :: r => !(r.contains x) && nodupB r
theorem nodupB_spec : ∀ {l : List Nat}, nodupB l = true → l.Nodup
  | [], _ => by simp
  | x :: r, h => by
    simp only [nodupB, Bool.and_eq_true, Bool.not_eq_true', List.nodup_cons] at h ⊢
    refine ⟨fun hm => ?_, nodupB_spec h.2⟩
    have := List.contains_iff_mem.2 hm
    rw [h.1] at this
    cases this
def idsOf : List (Nat × Ob) → List Nat
  | [] => []
  | (i, _) :: r => i :: idsOf r
theorem idsOf_eq : ∀ st, idsOf st = st.map (·.1)
  | [] => rfl
  | (i, _) :: r => by simp only [idsOf, List.map_cons, idsOf_eq r]
/-- Are these names of objects told apart, below 'nx', with the first m where they were? -/
def wkB (m nx : Nat) (l : List Nat) (st : List (Nat × Ob)) : Bool :=
  nodupB l && l.all (fun j => decide (j < nx)) && (List.range m).all (fun j => l[j]? == some j) && nodupB (idsOf st)
theorem wkB_spec {m nx : Nat} {l : List Nat} {st : List (Nat × Ob)} (h : wkB m nx l st = true) : l.Nodup ∧ (∀ j ∈ l, j < nx) ∧ (∀ j, j < m → l[j]? = some j) ∧ (st.map (·.1)).Nodup := by
  simp only [wkB, Bool.and_eq_true, List.all_eq_true, decide_eq_true_eq, beq_iff_eq, List.mem_range] at h
  exact ⟨nodupB_spec h.1.1.1, h.1.1.2, h.1.2, by rw [← idsOf_eq]; exact nodupB_spec h.2⟩

/-- The end: objects that nobody names any more are forgotten, the others get new numbers: 'l'. -/
structure Fin (m : Nat) (st : List (Nat × Ob)) (nx : Nat) (r : AVal) (l : List Nat) (st2 : List (Nat × Ob)) (r2 : AVal) : Prop where
  ok : wkB m nx l st2 = true
  st : stIn l nx st st2
  r : r = renV (rho l nx) r2
structure Ends (m : Nat) (K : List (Nat × Ob) → Nat → AVal → Prop) (st : List (Nat × Ob)) (nx : Nat) (r : AVal) : Prop where
  out : ∃ l st2 r2, Fin m st nx r l st2 r2 ∧ K st2 l.length r2

def AState.ends : AState → (List (Nat × Ob) → Nat → Prop) → Prop
  | ⟨_, _, st, nx⟩, K => forceSt st fun st => K st nx

def endQ (P : Program) (rs : List ResultVar) (fz : List Tmp) (K : List (Nat × Ob) → Nat → AVal → Prop) : Exit → AState → Prop
  | .normal, s => qFreezes P fz s fun s => resV P s rs fun vs => s.ends fun st nx => oneR (K st nx) vs
  | .ret, s => qFreezes P fz s fun s => resV P s rs fun vs => s.ends fun st nx => oneR (K st nx) vs
  | _, _ => False

section
variable {P : Program} {C : Ctx} {s : AState} {β : Nat → Option Value} {S : Nat → Prop} {a : Act} {w : World}

theorem qLoad_mono {t : TypeId} {x : AVal} {K K' : AVal → Prop} (hk : ∀ v, K v → K' v) (h : qLoad P s t x K) : qLoad P s t x K' := by
  unfold qLoad at h ⊢
  split at h
  · exact ⟨h.1, h.2.1, hk _ h.2.2⟩
  · split at h
    · split at h
      · exact ⟨h.1, h.2.1, hk _ h.2.2⟩
      · split at h
        · exact hk _ h
        · exact h.elim
      · exact h.elim
    · split at h
      · exact ⟨h.1, h.2.1, hk _ h.2.2⟩
      · exact ⟨h.1, hk _ h.2⟩
      · exact h.elim
    · exact ⟨h.1, h.2.1, h.2.2.1, h.2.2.2.1, hk _ h.2.2.2.2⟩
    · exact h.elim
  · exact h.elim

def resOne (tmps : Array Value) : ResultVar → Sem Value
  | .tmp t => pure (tmps.getD t undef)
  | .cell x t => do loadVar t (← asAddr (tmps.getD x undef))

theorem resV_sound (h : ARelB C s β S a w) : ∀ {rs : List ResultVar} {K : List AVal → Prop}, resV P s rs K →
    ∃ vs xs, (rs.mapM (resOne a.tmps)).run P w = .ok vs w ∧ VAll w β S xs vs ∧ K xs
  | [], K, hq => ⟨[], [], by simp, by simp [VAll], hq⟩
  | .tmp t :: r, K, hq => by
    simp only [resV] at hq
    have hq := forceV_of _ hq
    obtain ⟨vs, xs, h1, h2, h3⟩ := resV_sound h hq
    refine ⟨a.tmps.getD t undef :: vs, s.fr t :: xs, ?_, ?_, h3⟩
    · simp only [List.mapM_cons, resOne, Sem.run_bind, Sem.run_pure, Result.andThen_ok, h1]
    · simp only [VAll]; exact ⟨_, _, rfl, h.fr t, h2⟩
  | .cell x t :: r, K, hq => by
    simp only [resV] at hq
    have hx := h.fr x
    obtain ⟨u, y, h1, h2, hq⟩ := qLoad_sound h hx hq
    have hq := forceV_of _ hq
    obtain ⟨vs, xs, h3, h4, h5⟩ := resV_sound h hq
    refine ⟨u :: vs, y :: xs, ?_, ?_, h5⟩
    · have e : (resOne a.tmps (.cell x t)).run P w = .ok u w := by
        show (do loadVar t (← asAddr (a.tmps.getD x undef)) : Sem Value).run P w = .ok u w
        have := h1 w (Ext.refl w)
        revert this
        generalize a.tmps.getD x undef = v
        intro this
        simp only [Instr.loadAt, Sem.run_bind] at this ⊢
        cases v <;> try (simp [Instr.sureAddr, stuck] at this; done)
        rename_i ad
        cases ad with
        | none => simp [Instr.sureAddr, stuck] at this
        | some ad => simpa [Instr.sureAddr, asAddr] using this
      simp only [List.mapM_cons]
      rw [Sem.run_bind, e]
      simp only [Result.andThen_ok, Sem.run_bind, h3, Sem.run_pure]
    · simp only [VAll]; exact ⟨_, _, rfl, h2, h4⟩

theorem resV_mono {K K' : List AVal → Prop} (hk : ∀ vs, K vs → K' vs) : ∀ {rs : List ResultVar}, resV P s rs K → resV P s rs K'
  | [], h => hk _ h
  | .tmp t :: r, h => by
    simp only [resV] at h ⊢
    have h := forceV_of _ h
    exact forceV_to _ (resV_mono (fun vs hv => hk _ hv) h)
  | .cell x t :: r, h => by
    simp only [resV] at h ⊢
    exact qLoad_mono (fun v hv => forceV_to _ (resV_mono (fun vs hv => hk _ hv) (forceV_of _ hv))) h

theorem oneR_sound {vs : List Value} {xs : List AVal} {K : AVal → Prop} (h : VAll w β S xs vs) (hq : oneR K xs) : ∃ r, VRel w β S r (if h : vs.toArray.size = 1 then vs.toArray[0] else .tuple vs.toArray) ∧ K r := by
  unfold oneR at hq
  split at hq
  · simp only [VAll] at h
    obtain ⟨v, r, rfl, h1, rfl⟩ := h
    exact ⟨_, by simpa using h1, hq⟩
  · rename_i hne
    refine ⟨_, ?_, hq⟩
    have hl := VAll.length _ _ h
    have : ¬ vs.toArray.size = 1 := fun e => by
      have : xs.length = 1 := by rw [← hl]; simpa using e
      match xs, this with
      | [v], _ => exact hne v rfl
    rw [dif_neg this]
    simp only [VRel]
    exact ⟨_, rfl, by simpa using h⟩

theorem results_sound (h : ARelB C s β S a w) {fn : Func} {K : AVal → Prop} (hq : resV P s fn.results.toList (oneR K)) : ∃ v r, (results fn a.tmps).run P w = .ok v w ∧ VRel w β S r v ∧ K r := by
  obtain ⟨vs, xs, h1, h2, h3⟩ := resV_sound h hq
  obtain ⟨r, h4, h5⟩ := oneR_sound h2 h3
  refine ⟨_, r, ?_, h4, h5⟩
  have e : results fn a.tmps = (do let vs ← fn.results.mapM (resOne a.tmps); pure (if h : vs.size = 1 then vs[0] else .tuple vs) : Sem Value) := by
    unfold results
    congr 1
  rw [e, Array.mapM_eq_mapM_toList]
  simp only [Sem.run_bind, map_eq_pure_bind, h1, Result.andThen_ok, Sem.run_pure]

theorem CSpec.ends {f : FuncId} {args : List AVal} {st : List (Nat × Ob)} {m : Nat} {K : List (Nat × Ob) → Nat → AVal → Prop} (h : CSpec P f args st m (Ends m K)) : CSpec P f args st m K := by
  refine ⟨h.1, fun w β S vs hs hβ ha => Calls.mono (h.2 w β S vs hs hβ ha) fun e w' hh => ?_⟩
  obtain ⟨v, st', nx', r, β', S', he, hf, hs', hn, hm, hp, hr, l, st2, r2, hw, hK⟩ := hh
  obtain ⟨hwnd, hwlt, hwpin, hwids⟩ := wkB_spec hw.ok
  have hb0 : ∀ {i o}, (i, o) ∈ st2 → i < l.length ∧ (rho l nx' i, renOb (rho l nx') o) ∈ st' := fun hi => stIn_mem hw.st hi
  have hown : ∀ b, Owned (fun i => β' (rho l nx' i)) st2 b → Owned β' st' b := fun b ⟨i, o, hi, hb⟩ => ⟨_, _, (hb0 hi).2, hb⟩
  refine ⟨v, st2, l.length, r2, fun i => β' (rho l nx' i), S', he, ⟨hf.size, hf.os, hf.tape, hf.output, hf.old, hf.inS, fun b hb => hf.own b (hown b hb)⟩, ⟨fun i o hi => ?_, hwids, fun i o j o' hi hj hne => ?_, fun b hb => hs'.own b (hown b hb), hs'.inS, hs'.gl⟩, fun j hj => ?_, ?_, fun j hj => ?_, ?_, hK⟩
  · obtain ⟨v, h1, h2⟩ := hs'.obj _ _ (hb0 hi).2
    exact ⟨v, h1, (renOb_iff o).2 h2⟩
  · exact hs'.apart _ _ _ _ (hb0 hi).2 (hb0 hj).2 fun e => hne (rho_inj hwnd hwlt e)
  · simp only
    rw [rho_ge hj]
    exact hn _ (by omega)
  · rcases Nat.eq_zero_or_pos m with h0 | h0
    · omega
    · have := hwpin (m - 1) (by omega)
      have := (List.getElem?_eq_some_iff.1 this).1
      omega
  · have e : rho l nx' j = j := by unfold rho; rw [hwpin j hj]
    show β' (rho l nx' j) = β j
    rw [e]
    exact hp j hj
  · rw [renV_iff, ← hw.r]; exact hr

/-- The same world, but for what is laid aside for the activation's end. -/
structure Shut (ds : List Deferred) (w w' : World) : Prop where
  os : w'.os = w.os
  tape : w'.tape = w.tape
  output : w'.output = w.output
  size : w'.heap.size = w.heap.size
  block : ∀ b, (∀ d ∈ ds, d ≠ { target := .collected b, args := #[] }) → w'.heap[b]? = w.heap[b]?

theorem marks_leave {F : Fence} {n : Nat} {fn : Func} {tmps : Array Value} {R : Ending → World → Prop} : ∀ (ds : List Deferred) (w : World),
    (∀ d ∈ ds, ∃ D, d = { target := .collected D, args := #[] } ∧ w.heap[D]? = some (.deferred (some []))) → ds.Nodup →
    (∀ w', Shut ds w w' → LeavesIn F n P fn tmps R [] .returning w') → LeavesInM F n P fn tmps R ds .returning w
  | [], w, _, _, h => by simp only [LeavesInM]; exact h w ⟨rfl, rfl, rfl, rfl, fun _ _ => rfl⟩
  | d :: ds, w, hd, hn, h => by
    obtain ⟨D, rfl, hD⟩ := hd d (by simp)
    simp only [List.nodup_cons] at hn
    simp only [LeavesInM]
    refine ⟨by simp, .inl ⟨D, _, rfl, run_takeDeferred hD, marks_leave ds _ (fun d' hd' => ?_) hn.2 fun w' hs => h w' ?_⟩⟩
    · obtain ⟨D', rfl, hD'⟩ := hd d' (by simp [hd'])
      refine ⟨D', rfl, (World.putObj_heap_other fun e => hn.1 ?_).trans hD'⟩
      rw [← e]; exact hd'
    · refine ⟨hs.os, hs.tape, hs.output, hs.size.trans (by simp), fun b hb => (hs.block b fun d' hd' => hb d' (by simp [hd'])).trans (World.putObj_heap_other fun e => ?_)⟩
      exact hb { target := .collected D, args := #[] } (by simp) (by rw [e])

theorem ARelB.shut (h : ARelB C s β S a w) {w' : World} (hs : Shut a.defers w w') : ARelB C s β S { a with defers := [] } w' := by
  have hno : ∀ b, (¬ ∃ d ∈ a.defers, d = { target := .collected b, args := #[] }) → w'.heap[b]? = w.heap[b]? := fun b hb => hs.block b fun d hd e => hb ⟨d, hd, e⟩
  have hm : ∀ b d, d ∈ a.defers → d = { target := .collected b, args := #[] } → w.heap[b]? = some (.deferred (some [])) ∧ ¬ S b ∧ C.w0.heap.size ≤ b := fun b d hd e => by
    obtain ⟨D, e2, h1, h2, h3⟩ := h.defers.1 d hd
    have : D = b := by rw [e2] at e; simpa using e
    subst this
    exact ⟨h1, h2, h3⟩
  have hS : ∀ b, S b → S b ∧ w'.heap[b]? = w.heap[b]? := fun b hb => ⟨hb, hno b fun ⟨d, hd, e⟩ => (hm b d hd e).2.1 hb⟩
  refine ⟨fun t => VRel.keep hS (fun _ _ e => e) _ _ (h.fr t), h.size, ⟨fun j o hj => ?_, h.st.nodup, h.st.apart, fun b hb => ⟨(h.st.own b hb).1, by rw [hs.size]; exact (h.st.own b hb).2⟩, fun b hb => by rw [hs.size]; exact h.st.inS b hb, h.st.gl.keep hS⟩,
    ⟨by rw [hs.size]; exact h.frame.size, hs.os.trans h.frame.os, hs.tape.trans h.frame.tape, hs.output.trans h.frame.output, fun b hb hE => (hno b fun ⟨d, hd, e⟩ => ?_).trans (h.frame.old b hb hE), h.frame.inS, h.frame.own⟩,
    h.nx, ⟨fun d hd => by simp at hd, by simp, fun _ => rfl⟩, h.pin, h.nxm⟩
  · obtain ⟨v, hv, hr⟩ := h.st.obj j o hj
    refine ⟨v, hv, hr.keep hS (fun _ _ e => e) fun b hb => hno b fun ⟨d, hd, e⟩ => ?_⟩
    obtain ⟨cs, t, hc⟩ := h.st.cells ⟨j, o, hj, by rw [hv]; exact hb⟩
    rw [(hm b d hd e).1] at hc; cases hc
  · have := (hm b d hd e).2.2
    omega

/-- THE ENTRY. -/
theorem CSpec.of_awp {f : FuncId} {fn : Func} {c : Code} {args : List AVal} {st : List (Nat × Ob)} {m : Nat} {K : List (Nat × Ob) → Nat → AVal → Prop} (T : Told) (fz : List Tmp)
    (hf : P.funcs[f]? = some fn) (hb : fn.body = some c) (hn : (fn.name == "runtime.NumGoroutine") = false) (hl : args.length ≤ fn.ntmps)
    (h : ∀ w0 S0 E0 B0, awp P ⟨w0, S0, E0, m, B0, none⟩ T c ⟨fn.ntmps, fun t => (args[t]?).getD .un, st, m⟩ (endQ P fn.results.toList fz K)) : CSpec P f args st m K := by
  refine ⟨⟨fn, hf, by rw [hb]; rfl, hn⟩, fun w β S vs hs hβ ha => ?_⟩
  have hvl := VAll.length _ _ ha
  have hrel : ARel ⟨w, S, Owned β st, m, β, none⟩ ⟨fn.ntmps, fun t => (args[t]?).getD .un, st, m⟩ { tmps := vs.toArray ++ Array.replicate (fn.ntmps - vs.toArray.size) undef, defers := [] } w := by
    refine ⟨β, S, fun t => ?_, by simp; omega, hs, ⟨Nat.le_refl _, rfl, rfl, rfl, fun _ _ _ => rfl, fun b hb => .inl hb, fun b hb => .inl hb⟩, hβ, ⟨fun d hd => by simp at hd, by simp, fun _ => rfl⟩, fun _ _ => rfl, Nat.le_refl _⟩
    simp only
    cases ht : args[t]? with
    | some x =>
      obtain ⟨v, hv, hr⟩ := VAll.get _ _ ha t x ht
      have htl : t < vs.length := (List.getElem?_eq_some_iff.1 hv).1
      rw [Array.getD_eq_getD_getElem?, Array.getElem?_append_left (by simpa using htl)]
      simpa [hv] using hr
    | none =>
      have htl : vs.length ≤ t := by rw [hvl]; exact List.getElem?_eq_none_iff.1 ht
      simp only [Option.getD_none, VRel]
      rw [Array.getD_eq_getD_getElem?, Array.getElem?_append_right (by simpa using htl)]
      rw [Array.getElem?_replicate]
      split <;> rfl
  refine callsIn_fence.1 (callsIn_of_wp_marks (F := fence none) (n := 0) hf hb trivial (wpIn_mono (awp_sound c hrel (h _ _ _ _)) fun e a' w' hl => ?_) rfl)
  obtain ⟨s', ⟨β', S', h'⟩, hq⟩ := hl
  have fin : qFreezes P fz s' (fun s => resV P s fn.results.toList fun vs => s.ends fun st nx => oneR (K st nx) vs) → LeavesInM (fence none) 0 P fn a'.tmps (fun e w' => ∃ v st' nx' r β' S', e = .returned v ∧ Fr ⟨w, S, Owned β st, m, β, none⟩ w' S' (Owned β' st') ∧ SRel w' β' S' st' ∧
      (∀ j, nx' ≤ j → β' j = none) ∧ m ≤ nx' ∧ (∀ j, j < m → β' j = β j) ∧ VRel w' β' S' r v ∧ K st' nx' r) a'.defers .returning w' := fun hq => by
    obtain ⟨S2, s2, h2, hq⟩ := qFreezes_sound h' hq
    have hq : resV P s2 fn.results.toList (oneR (K s2.st s2.nx)) := resV_mono (fun vs hv => forceSt_of _ hv) hq
    refine marks_leave _ _ (fun d hd => ?_) h2.defers.2.1 fun w2 hs => ?_
    · obtain ⟨D, e1, e2, _⟩ := h2.defers.1 d hd
      exact ⟨D, e1, e2⟩
    · have h3 := h2.shut hs
      obtain ⟨v, r, h4, h5, h6⟩ := results_sound h3 hq
      exact ⟨v, h4, v, s2.st, s2.nx, r, β', S2, rfl, h3.frame, h3.st, h3.nx, h3.nxm, h3.pin, h5, h6⟩
  cases e <;> first | exact fin hq | exact hq.elim

end

/-- The caller's state behind a call. -/
def AState.called : AState → List Nat → List (Nat × Ob) → Nat → AState
  | ⟨n, fr, st, nx⟩, l, st', nx' => ⟨n, fr, renSt (rho l nx) st' ++ dropIds l st, nx + (nx' - l.length)⟩

theorem mem_dropIds {l : List Nat} : ∀ {st : List (Nat × Ob)} {i : Nat} {o : Ob}, (i, o) ∈ dropIds l st ↔ (i, o) ∈ st ∧ i ∉ l
  | [], i, o => by simp [dropIds]
  | (k, q) :: r, i, o => by
    simp only [dropIds]
    split
    · rename_i h
      rw [mem_dropIds (st := r)]
      simp only [List.mem_cons, Prod.mk.injEq]
      simp only [List.contains_iff_mem] at h
      constructor
      · rintro ⟨h1, h2⟩; exact ⟨.inr h1, h2⟩
      · rintro ⟨⟨rfl, rfl⟩ | h1, h2⟩
        · exact (h2 h).elim
        · exact ⟨h1, h2⟩
    · rename_i h
      simp only [List.contains_iff_mem] at h
      simp only [List.mem_cons, mem_dropIds (st := r), Prod.mk.injEq]
      constructor
      · rintro (⟨rfl, rfl⟩ | ⟨h1, h2⟩)
        · exact ⟨.inl ⟨rfl, rfl⟩, h⟩
        · exact ⟨.inr h1, h2⟩
      · rintro ⟨⟨rfl, rfl⟩ | h1, h2⟩
        · exact .inl ⟨rfl, rfl⟩
        · exact .inr ⟨h1, h2⟩

theorem dropIds_nodup {l : List Nat} : ∀ {st : List (Nat × Ob)}, (st.map (·.1)).Nodup → ((dropIds l st).map (·.1)).Nodup
  | [], h => by simp [dropIds]
  | (i, p) :: r, h => by
    simp only [List.map_cons, List.nodup_cons] at h
    simp only [dropIds]
    split
    · exact dropIds_nodup h.2
    · simp only [List.map_cons, List.nodup_cons]
      refine ⟨fun hm => ?_, dropIds_nodup h.2⟩
      obtain ⟨⟨k, q⟩, hk, rfl⟩ := List.mem_map.1 hm
      exact h.1 (List.mem_map.2 ⟨_, (mem_dropIds.1 hk).1, rfl⟩)

section
variable {P : Program} {C : Ctx} {s : AState} {β : Nat → Option Value} {S : Nat → Prop} {a : Act} {w : World}

theorem nodup_map_inj {α β : Type} {f : α → β} : ∀ {xs : List α}, xs.Nodup → (∀ x ∈ xs, ∀ y ∈ xs, f x = f y → x = y) → (xs.map f).Nodup
  | [], _, _ => by simp
  | x :: xs, h, hf => by
    simp only [List.nodup_cons, List.map_cons] at h ⊢
    refine ⟨fun hm => ?_, nodup_map_inj h.2 fun a ha b hb => hf a (by simp [ha]) b (by simp [hb])⟩
    obtain ⟨y, hy, e⟩ := List.mem_map.1 hm
    have := hf y (by simp [hy]) x (by simp) e
    subst this
    exact h.1 hy

/-- A CALL BY CONTRACT. -/
theorem acall {x : Bool} {f : FuncId} {args avs : List AVal} {st : List (Nat × Ob)} {K : List (Nat × Ob) → Nat → AVal → Prop} {K' : AState → AVal → Prop} (l : List Nat) (hc : CSpec P f args st l.length K)
    (hok : wkB 0 s.nx l st = true) (hst : stIn l s.nx s.st st) (ha : renL (rho l s.nx) args = avs) (hx : x = true → st = [])
    (hK : ∀ st' nx' r, K st' nx' r → K' (s.called l st' nx') (renV (rho l s.nx) r)) : ACall P C x s f avs K' := by
  obtain ⟨hn, hb, _, hsn⟩ := wkB_spec hok
  refine ⟨fun β S a w vs h hv => ?_⟩
  let ρ := rho l s.nx
  let β0 : Nat → Option Value := fun i => β (ρ i)
  have hβ0 : ∀ i, l.length ≤ i → β0 i = none := fun i hi => by
    show β (rho l s.nx i) = none
    rw [rho_ge hi]
    exact h.nx _ (by omega)
  have hargs : VAll w β0 S args vs := (renL_iff args vs).2 (by rw [ha]; exact hv)
  have hown0 : ∀ b, Owned β0 st b → ∃ i o, (i, o) ∈ st ∧ i < l.length ∧ (ρ i, renOb ρ o) ∈ s.st ∧ (β (ρ i)).bind blk = some b := fun b ⟨i, o, hi, hb⟩ =>
    ⟨i, o, hi, (stIn_mem hst hi).1, (stIn_mem hst hi).2, hb⟩
  have hsub : ∀ b, Owned β0 st b → Owned β s.st b := fun b hb => let ⟨i, o, _, _, h3, h4⟩ := hown0 b hb; ⟨_, _, h3, h4⟩
  have hs0 : SRel w β0 S st := by
    refine ⟨fun i o hi => ?_, hsn, fun i o j o' hi hj hne b hbb => ?_, fun b hb => h.st.own b (hsub b hb), h.st.inS, h.st.gl⟩
    · obtain ⟨v, h1, h2⟩ := h.st.obj _ _ (stIn_mem hst hi).2
      exact ⟨v, h1, (renOb_iff o).2 h2⟩
    · exact h.st.apart _ _ _ _ (stIn_mem hst hi).2 (stIn_mem hst hj).2 (fun e => hne (rho_inj hn hb e)) b hbb
  refine ⟨hc.1, Calls.mono (hc.2 w β0 S vs hs0 hβ0 hargs) fun e w' hh => ?_⟩
  obtain ⟨v, st', nx', r, β', S', rfl, hf, hs', hnx', hm, hpin, hr, hKr⟩ := hh
  let β1 : Nat → Option Value := fun j => if j < s.nx then β j else β' (l.length + (j - s.nx))
  let Sn : Nat → Prop := fun b => S b ∨ S' b
  have e1 : (fun i => β1 (ρ i)) = β' := by
    funext i
    show (if rho l s.nx i < s.nx then β (rho l s.nx i) else β' (l.length + (rho l s.nx i - s.nx))) = β' i
    rcases Nat.lt_or_ge i l.length with hi | hi
    · have h1 : rho l s.nx i < s.nx := by rw [rho_lt hi]; exact hb _ (List.getElem_mem hi)
      rw [if_pos h1]
      exact (hpin i hi).symm
    · rw [rho_ge hi, if_neg (by omega)]
      congr 1; omega
  have hext : ∀ b, b < w.heap.size → ¬ Owned β0 st b → w'.heap[b]? = w.heap[b]? := fun b h1 h2 => hf.old b h1 h2
  have hSkeep : ∀ b, S b → Sn b ∧ w'.heap[b]? = w.heap[b]? := fun b hb => ⟨.inl hb, hext b (h.st.inS b hb) fun ho => (h.st.own b (hsub b ho)).1 hb⟩
  have hβkeep : ∀ j u, β j = some u → β1 j = some u := fun j u e => by
    show (if j < s.nx then β j else _) = some u
    rw [if_pos]
    · exact e
    · rcases Nat.lt_or_ge j s.nx with h' | h'
      · exact h'
      · rw [h.nx j h'] at e; cases e
  have hapart : ∀ {j o}, (j, o) ∈ dropIds l s.st → ∀ b, (β j).bind blk = some b → ¬ Owned β0 st b := fun {j o} hj b hb ho => by
    obtain ⟨i, o', _, hil, h3, h4⟩ := hown0 b ho
    have hj' := mem_dropIds.1 hj
    refine h.st.apart j o _ _ hj'.1 h3 (fun e => hj'.2 ?_) b hb h4
    rw [e]
    show rho l s.nx i ∈ l
    rw [rho_lt hil]; exact List.getElem_mem hil
  have hβ1 : ∀ {j o}, (j, o) ∈ s.st → β1 j = β j := fun {j o} hj => by
    obtain ⟨u, hu, _⟩ := h.st.obj j o hj
    rw [hβkeep j u hu, hu]
  have hren : ∀ {j p}, (j, p) ∈ renSt ρ st' → ∃ i o, (i, o) ∈ st' ∧ j = ρ i ∧ p = renOb ρ o ∧ β1 j = β' i := fun {j p} hj => by
    obtain ⟨i, o, h1, h2, h3⟩ := mem_renSt.1 hj
    exact ⟨i, o, h1, h2, h3, by rw [h2]; exact congrFun e1 i⟩
  have hown' : ∀ b, Owned β' st' b → Owned β0 st b ∨ w.heap.size ≤ b := fun b hb => hf.own b hb
  have hownN : ∀ b, Owned β1 (renSt ρ st' ++ dropIds l s.st) b → Owned β' st' b ∨ (∃ j o, (j, o) ∈ dropIds l s.st ∧ (β j).bind blk = some b) := fun b ⟨j, o, hj, hb⟩ => by
    rcases List.mem_append.1 hj with hj | hj
    · obtain ⟨i, o', h1, h2, h3, h4⟩ := hren hj
      exact .inl ⟨i, o', h1, by rw [← h4]; exact hb⟩
    · exact .inr ⟨j, o, hj, by rw [← hβ1 (mem_dropIds.1 hj).1]; exact hb⟩
  have hblt : ∀ {j o}, (j, o) ∈ s.st → ∀ b, (β j).bind blk = some b → b < w.heap.size := fun {j o} hj b hb => (h.st.own b ⟨j, o, hj, hb⟩).2
  have hmarks : Marks C Sn a w' := h.defers.keep fun D hD hS => by
    have hlt : D < w.heap.size := (Array.getElem?_eq_some_iff.1 hD).1
    have hno : ¬ Owned β0 st D := fun ho => by
      obtain ⟨cs, t, hc⟩ := h.st.cells (hsub D ho)
      rw [hD] at hc; cases hc
    refine ⟨(hext D hlt hno).trans hD, fun hs => hs.elim hS fun hs => ?_⟩
    rcases hf.inS D hs with h2 | h2 | h2
    · exact hS h2
    · exact hno h2
    · simp only at h2; omega
  have hrel : ARelB C (s.called l st' nx') β1 Sn a w' := by
    refine ⟨fun t => VRel.keep hSkeep hβkeep _ _ (h.fr t), h.size, ⟨fun j p hj => ?_, ?_, fun i p k q hi hk hne b hbb hbk => ?_, fun b hbb => ?_, fun b hbb => ?_, h.st.gl.keep hSkeep⟩, ?_, fun j hj => ?_, hmarks, fun j hj => ?_, ?_⟩
    · rcases List.mem_append.1 hj with hj | hj
      · obtain ⟨i, o, h1, rfl, rfl, h4⟩ := hren hj
        obtain ⟨u, hu, hr⟩ := hs'.obj i o h1
        refine ⟨u, by rw [h4]; exact hu, ?_⟩
        rw [← e1] at hr
        exact ((renOb_iff o).1 hr).keep (fun b hb => ⟨.inr hb, rfl⟩) (fun _ _ e => e) fun _ _ => rfl
      · have hj' := mem_dropIds.1 hj
        obtain ⟨u, hu, hr⟩ := h.st.obj j p hj'.1
        exact ⟨u, hβkeep j u hu, hr.keep hSkeep hβkeep fun b hbb => hext b (hblt hj'.1 b (by rw [hu]; exact hbb)) (hapart hj b (by rw [hu]; exact hbb))⟩
    · show ((renSt ρ st' ++ dropIds l s.st).map (·.1)).Nodup
      rw [List.map_append, List.nodup_append]
      refine ⟨?_, dropIds_nodup h.st.nodup, fun j hj k hk e => ?_⟩
      · rw [renSt_ids, show (st'.map fun p => ρ p.1) = (st'.map (·.1)).map ρ by simp]
        exact nodup_map_inj hs'.nodup fun x _ y _ e => rho_inj hn hb e
      · subst e
        rw [renSt_ids] at hj
        obtain ⟨⟨i, o⟩, _, e⟩ := List.mem_map.1 hj
        obtain ⟨⟨k, q⟩, hq, e2⟩ := List.mem_map.1 hk
        have hq' := mem_dropIds.1 hq
        simp only at e e2
        subst e2
        rcases Nat.lt_or_ge i l.length with hi | hi
        · exact hq'.2 (by rw [← e]; show rho l s.nx i ∈ l; rw [rho_lt hi]; exact List.getElem_mem hi)
        · have h1 := h.id_lt hq'.1
          have h2 : rho l s.nx i = k := e
          rw [rho_ge hi] at h2
          omega
    · rcases List.mem_append.1 hi with hi | hi <;> rcases List.mem_append.1 hk with hk | hk
      · obtain ⟨i1, o1, h1, rfl, rfl, h4⟩ := hren hi
        obtain ⟨i2, o2, h5, rfl, rfl, h8⟩ := hren hk
        rw [h4] at hbb; rw [h8] at hbk
        exact hs'.apart _ _ _ _ h1 h5 (fun e => hne (by rw [e])) b hbb hbk
      · obtain ⟨i1, o1, h1, rfl, rfl, h4⟩ := hren hi
        rw [h4] at hbb; rw [hβ1 (mem_dropIds.1 hk).1] at hbk
        rcases hown' b ⟨_, _, h1, hbb⟩ with h' | h'
        · exact hapart hk b hbk h'
        · have := hblt (mem_dropIds.1 hk).1 b hbk; omega
      · obtain ⟨i2, o2, h5, rfl, rfl, h8⟩ := hren hk
        rw [h8] at hbk; rw [hβ1 (mem_dropIds.1 hi).1] at hbb
        rcases hown' b ⟨_, _, h5, hbk⟩ with h' | h'
        · exact hapart hi b hbb h'
        · have := hblt (mem_dropIds.1 hi).1 b hbb; omega
      · rw [hβ1 (mem_dropIds.1 hi).1] at hbb; rw [hβ1 (mem_dropIds.1 hk).1] at hbk
        exact h.st.apart _ _ _ _ (mem_dropIds.1 hi).1 (mem_dropIds.1 hk).1 hne b hbb hbk
    · rcases hownN b hbb with h' | ⟨j, o, hj, hbj⟩
      · refine ⟨fun hs => ?_, (hs'.own b h').2⟩
        rcases hs with hs | hs
        · rcases hown' b h' with h2 | h2
          · exact (h.st.own b (hsub b h2)).1 hs
          · have := h.st.inS b hs; omega
        · exact (hs'.own b h').1 hs
      · have hlt := hblt (mem_dropIds.1 hj).1 b hbj
        refine ⟨fun hs => ?_, Nat.lt_of_lt_of_le hlt hf.size⟩
        rcases hs with hs | hs
        · exact (h.st.own b ⟨j, o, (mem_dropIds.1 hj).1, hbj⟩).1 hs
        · rcases hf.inS b hs with h2 | h2 | h2
          · exact (h.st.own b ⟨j, o, (mem_dropIds.1 hj).1, hbj⟩).1 h2
          · exact hapart hj b hbj h2
          · simp only at h2; omega
    · rcases hbb with hbb | hbb
      · exact Nat.lt_of_lt_of_le (h.st.inS b hbb) hf.size
      · exact hs'.inS b hbb
    · have hf0 := h.frame
      refine ⟨Nat.le_trans hf0.size hf.size, hf.os.trans hf0.os, hf.tape.trans hf0.tape, hf.output.trans hf0.output, fun b hb hE => ?_, fun b hb => ?_, fun b hb => ?_⟩
      · rw [hext b (Nat.lt_of_lt_of_le hb hf0.size) fun ho => ?_]
        · exact hf0.old b hb hE
        · rcases hf0.own b (hsub b ho) with h' | h'
          · exact hE h'
          · omega
      · rcases hb with hb | hb
        · exact hf0.inS b hb
        · rcases hf.inS b hb with h2 | h2 | h2
          · exact hf0.inS b h2
          · exact .inr (hf0.own b (hsub b h2))
          · exact .inr (.inr (Nat.le_trans hf0.size h2))
      · rcases hownN b hb with h' | ⟨j, o, hj, hbj⟩
        · rcases hown' b h' with h2 | h2
          · exact hf0.own b (hsub b h2)
          · exact .inr (Nat.le_trans hf0.size h2)
        · exact hf0.own b ⟨j, o, (mem_dropIds.1 hj).1, hbj⟩
    · show (if j < s.nx then β j else β' (l.length + (j - s.nx))) = none
      have hj' : s.nx + (nx' - l.length) ≤ j := hj
      rw [if_neg (by omega)]
      exact hnx' _ (by omega)
    · show (if j < s.nx then β j else β' (l.length + (j - s.nx))) = C.B0 j
      have := h.nxm
      rw [if_pos (by omega)]
      exact h.pin j hj
    · exact Nat.le_trans h.nxm (Nat.le_add_right _ _)
  refine ⟨v, _, _, β1, Sn, rfl, fun hxt => ?_, hrel, ?_, hK st' nx' r hKr⟩
  · have he := hx hxt
    subst he
    exact fun b hb => hext b hb fun ⟨i, o, hi, _⟩ => by simp at hi
  · rw [← e1] at hr
    exact VRel.keep (fun b hb => ⟨.inr hb, rfl⟩) (fun _ _ e => e) _ _ ((renV_iff r v).1 hr)

/-! ### Functions that are handed deep values, and give such -/
def Imm (P : Program) (f : FuncId) (args : List AVal) (φ : AVal → Prop) : Prop := CSpec P f args [] 0 fun st nx r => st = [] ∧ nx = 0 ∧ φ r

theorem called_nil (s : AState) : s.called [] [] 0 = s := by
  have : ∀ st : List (Nat × Ob), dropIds [] st = st := fun st => by
    induction st with
    | nil => rfl
    | cons p st ih => obtain ⟨i, o⟩ := p; simp [dropIds, ih]
  obtain ⟨n, fr, st, nx⟩ := s
  simp [AState.called, renSt, this]

theorem acallI {x : Bool} {f : FuncId} {args avs : List AVal} {φ : AVal → Prop} {K' : AState → AVal → Prop} (hc : Imm P f args φ) (ha : renL (rho [] s.nx) args = avs) (hK : ∀ r, φ r → K' s (renV (rho [] s.nx) r)) : ACall P C x s f avs K' := by
  refine acall [] hc rfl (by simp [stIn]) ha (fun _ => rfl) fun st' nx' r ⟨e1, e2, h⟩ => ?_
  subst e1; subst e2
  rw [called_nil]
  exact hK r h

/-- An end that leaves no object. -/
theorem Ends.imm {φ : AVal → Prop} {st : List (Nat × Ob)} {nx : Nat} {r : AVal} (hr : renV (rho [] nx) r = r) (h : φ r) : Ends 0 (fun st nx r => st = [] ∧ nx = 0 ∧ φ r) st nx r :=
  ⟨[], [], r, ⟨rfl, by simp [stIn], hr.symm⟩, rfl, rfl, h⟩

theorem Imm.of_awp {f : FuncId} {fn : Func} {c : Code} {args : List AVal} {φ : AVal → Prop} (T : Told) (fz : List Tmp)
    (hf : P.funcs[f]? = some fn) (hb : fn.body = some c) (hn : (fn.name == "runtime.NumGoroutine") = false) (hl : args.length ≤ fn.ntmps)
    (h : ∀ w0 S0 E0 B0, awp P ⟨w0, S0, E0, 0, B0, none⟩ T c ⟨fn.ntmps, fun t => (args[t]?).getD .un, [], 0⟩ (endQ P fn.results.toList fz (Ends 0 fun st nx r => st = [] ∧ nx = 0 ∧ φ r))) : Imm P f args φ :=
  (CSpec.of_awp T fz hf hb hn hl h).ends

theorem Imm.mono {f : FuncId} {args : List AVal} {φ ψ : AVal → Prop} (h : Imm P f args φ) (hp : ∀ r, φ r → ψ r) : Imm P f args ψ :=
  ⟨h.1, fun w β S vs hs hβ ha => Calls.mono (h.2 w β S vs hs hβ ha) fun _ _ ⟨v, st', nx', r, β', S', h1, h2, h3, h4, h5, h6, h7, h8, h9, h10⟩ => ⟨v, st', nx', r, β', S', h1, h2, h3, h4, h5, h6, h7, h8, h9, hp r h10⟩⟩

end

/-- A frame of which these slots alone are known. -/
def frL : List (Nat × AVal) → Nat → AVal
  | [], _ => .any
  | (k, v) :: r, t => if t = k then v else frL r t

def slOk (s : AState) (ρ : Nat → Nat) : List (Nat × AVal) → Prop
  | [] => True
  | (k, v) :: r => s.fr k = renV ρ v ∧ slOk s ρ r

/-- 't' says less than 's' does; 'l': its objects' numbers there. -/
structure Wk (m : Nat) (s : AState) (n : Nat) (sl : List (Nat × AVal)) (st : List (Nat × Ob)) (l : List Nat) : Prop where
  n : s.n = n
  ok : wkB m s.nx l st = true
  fr : slOk s (rho l s.nx) sl
  st : stIn l s.nx s.st st

section
variable {P : Program} {C : Ctx} {s : AState} {T : Told} {β : Nat → Option Value} {S : Nat → Prop} {a : Act} {w : World}

theorem frL_rel (h : ARelB C s β S a w) {ρ : Nat → Nat} : ∀ {sl : List (Nat × AVal)}, slOk s ρ sl → ∀ t, VRel w (fun i => β (ρ i)) S (frL sl t) (a.tmps.getD t undef)
  | [], _, t => by simp only [frL, VRel]
  | (k, v) :: r, hs, t => by
    simp only [slOk] at hs
    simp only [frL]
    split
    · rename_i e; subst e
      rw [renV_iff, ← hs.1]
      exact h.fr _
    · exact frL_rel h hs.2 t

/-- Objects get new numbers, and some are forgotten. -/
theorem ARelB.ren (h : ARelB C s β S a w) {st : List (Nat × Ob)} {l : List Nat} (hok : wkB C.m s.nx l st = true) (hst : stIn l s.nx s.st st) {fr : Nat → AVal}
    (hfr : ∀ t, VRel w (fun i => β (rho l s.nx i)) S (fr t) (a.tmps.getD t undef)) : ARelB C ⟨s.n, fr, st, l.length⟩ (fun i => β (rho l s.nx i)) S a w := by
  obtain ⟨hwnd, hwlt, hwpin, hwids⟩ := wkB_spec hok
  have hb0 : ∀ {i o}, (i, o) ∈ st → i < l.length ∧ (rho l s.nx i, renOb (rho l s.nx) o) ∈ s.st := fun hi => stIn_mem hst hi
  have hown : ∀ b, Owned (fun i => β (rho l s.nx i)) st b → Owned β s.st b := fun b ⟨i, o, hi, hb⟩ => ⟨_, _, (hb0 hi).2, hb⟩
  refine ⟨hfr, h.size, ⟨fun i o hi => ?_, hwids, fun i o j o' hi hj hne => ?_, fun b hb => h.st.own b (hown b hb), h.st.inS, h.st.gl⟩, ?_, fun j hj => ?_, h.defers, fun j hj => ?_, ?_⟩
  · obtain ⟨v, h1, h2⟩ := h.st.obj _ _ (hb0 hi).2
    exact ⟨v, h1, (renOb_iff o).2 h2⟩
  · exact h.st.apart _ _ _ _ (hb0 hi).2 (hb0 hj).2 fun e => hne (rho_inj hwnd hwlt e)
  · have hf := h.frame
    exact ⟨hf.size, hf.os, hf.tape, hf.output, hf.old, hf.inS, fun b hb => hf.own b (hown b hb)⟩
  · simp only at hj ⊢
    rw [rho_ge hj]
    exact h.nx _ (by omega)
  · have e : rho l s.nx j = j := by unfold rho; rw [hwpin j hj]
    show β (rho l s.nx j) = C.B0 j
    rw [e]
    exact h.pin j hj
  · simp only
    rcases Nat.eq_zero_or_pos C.m with h0 | h0
    · omega
    · have := hwpin (C.m - 1) (by omega)
      have := (List.getElem?_eq_some_iff.1 this).1
      omega

theorem Wk.relB {n : Nat} {sl : List (Nat × AVal)} {st : List (Nat × Ob)} {l : List Nat} (h : ARelB C s β S a w) (hw : Wk C.m s n sl st l) : ARelB C ⟨n, frL sl, st, l.length⟩ (fun i => β (rho l s.nx i)) S a w := by
  have := h.ren hw.ok hw.st (frL_rel h hw.fr)
  rwa [hw.n] at this
theorem Wk.rel {n : Nat} {sl : List (Nat × AVal)} {st : List (Nat × Ob)} {l : List Nat} (h : ARel C s a w) (hw : Wk C.m s n sl st l) : ARel C ⟨n, frL sl, st, l.length⟩ a w := by
  obtain ⟨β, S, h⟩ := h
  exact ⟨_, S, hw.relB h⟩

theorem Wk.nil {n : Nat} {sl : List (Nat × AVal)} (hn : s.n = n) (h : slOk s (rho [] s.nx) sl) : Wk 0 s n sl [] [] :=
  ⟨hn, rfl, h, by simp [stIn]⟩

/-- What a round hands on. -/
structure Again {ι : Type} (m n nx : Nat) (sl : ι → List (Nat × AVal)) (st : ι → List (Nat × Ob)) (k : Nat) (μ : ι → Nat) (φ : ι → Prop) (s' : AState) : Prop where
  out : ∃ i' l, μ i' < k ∧ φ i' ∧ l.length = nx ∧ Wk m s' n (sl i') (st i') l

theorem wpIn_loop_ghost' {F : Fence} {rm : Nat} {Q : Exit → Act → World → Prop} {a : Act} {w : World} {c : Code} (I : Nat → Act → World → Prop) (n₀ : Nat) (h₀ : I n₀ a w)
    (round : ∀ n a w, I n a w → c.wpIn F rm P (Exit.then (fun a' w' => ∃ n', n' < n ∧ I n' a' w') Q) a w) : (Code.loop c).wpIn F rm P Q a w := by
  refine wpIn_loop (fun a w => ∃ n, I n a w) (fun a w => leastOf (fun n => I n a w)) ⟨n₀, h₀⟩ ?_
  intro a w hI
  refine wpIn_mono (round _ a w (leastOf_spec hI).1) ?_
  intro e a' w' hq
  cases e with
  | normal =>
    obtain ⟨n', hlt, hI'⟩ := hq
    exact ⟨⟨n', hI'⟩, Nat.lt_of_le_of_lt ((leastOf_spec ⟨n', hI'⟩).2 n' hI') hlt⟩
  | _ => exact hq

/-- A LOOP: 'i' runs through what may vary. -/
theorem aloop {ι : Type} {body : Code} {Q : Exit → AState → Prop} (sl : ι → List (Nat × AVal)) (st : ι → List (Nat × Ob)) (n0 nx : Nat) (μ : ι → Nat) (φ : ι → Prop)
    (h0 : ∃ i l, l.length = nx ∧ φ i ∧ Wk C.m s n0 (sl i) (st i) l)
    (round : ∀ i, φ i → awp P C T body ⟨n0, frL (sl i), st i, nx⟩ (thenQ (Again C.m n0 nx sl st (μ i) μ φ) Q)) :
    AWp P C (.loop body) s Q := by
  refine ⟨fun a w h => ?_⟩
  obtain ⟨i, l, hl, hφ, hw⟩ := h0
  refine wpIn_loop_ghost' (fun n a w => ∃ i, n = μ i ∧ φ i ∧ ARel C ⟨n0, frL (sl i), st i, nx⟩ a w) (μ i) ⟨i, rfl, hφ, by rw [← hl]; exact hw.rel h⟩ fun n a w ⟨i, hn, hφ, hr⟩ => ?_
  refine wpIn_mono (awp_sound body hr (round i hφ)) fun e a' w' hq => ?_
  obtain ⟨s', h1, h2⟩ := hq
  cases e <;> simp only [thenQ] at h2
  case normal =>
    obtain ⟨i', l, h3, h4, h5, h6⟩ := h2.out
    exact ⟨μ i', by omega, i', rfl, h4, by rw [← h5]; exact h6.rel h1⟩
  all_goals exact ⟨s', h1, h2⟩

/-! ### What is known of deep values -/
mutual
def D.known : D → Prop
  | .int k n => k.wrap n = n
  | .str xs => xs.length ≤ LIM ∧ ∀ x ∈ xs, 0 ≤ x ∧ x < 256
  | .ints k xs => xs.length ≤ LIM ∧ ∀ x ∈ xs, k.wrap x = x
  | .sl _ es => es.length ≤ LIM ∧ knownAll es
  | .ptr d => d.known
  | .agg ds => knownAll ds
  | _ => True
def knownAll : List D → Prop
  | [] => True
  | d :: ds => d.known ∧ knownAll ds
end

mutual
theorem Rep.known : ∀ (d : D) (cs : List Value), Rep w S d cs → d.known
  | .int k n, cs, h => by simp only [Rep] at h; simp only [D.known]; exact h.2
  | .bool b, cs, h => by simp only [D.known]
  | .str xs, cs, h => by
    simp only [Rep] at h
    simp only [D.known]
    obtain ⟨s, _, rfl, hs⟩ := h
    refine ⟨by simpa [bytesOf] using hs, fun x hx => ?_⟩
    simp only [bytesOf, List.mem_map] at hx
    obtain ⟨b, _, rfl⟩ := hx
    have := b.toNat_lt
    omega
  | .raw v, cs, h => by simp only [D.known]
  | .ints k xs, cs, h => by
    simp only [Rep] at h
    simp only [D.known]
    obtain ⟨A, c, _, _, h3, h4, _⟩ := h
    exact ⟨h3, h4⟩
  | .sl sz es, cs, h => by
    simp only [Rep] at h
    simp only [D.known]
    obtain ⟨A, c, _, _, h3, h4⟩ := h
    refine ⟨h3, ?_⟩
    cases es with
    | nil => simp only [knownAll]
    | cons e es =>
      obtain ⟨b, o, _, _, h5⟩ := h4 (by simp)
      exact RepRow.known (e :: es) b o h5
  | .ptr d, cs, h => by
    simp only [Rep] at h
    simp only [D.known]
    obtain ⟨b, o, _, _, vs, _, h4⟩ := h
    exact Rep.known d vs h4
  | .nilp, cs, h => by simp only [D.known]
  | .agg ds, cs, h => by
    simp only [Rep] at h
    simp only [D.known]
    exact RepAll.known ds cs h
  | .fn f caps, cs, h => by simp only [D.known]
theorem RepAll.known : ∀ (ds : List D) (cs : List Value), RepAll w S ds cs → knownAll ds
  | [], cs, h => by simp only [knownAll]
  | d :: ds, cs, h => by
    simp only [RepAll] at h
    simp only [knownAll]
    obtain ⟨c1, c2, _, h1, h2⟩ := h
    exact ⟨Rep.known d c1 h1, RepAll.known ds c2 h2⟩
theorem RepRow.known {sz : Nat} : ∀ (ds : List D) (b o : Nat), RepRow w S sz ds b o → knownAll ds
  | [], b, o, h => by simp only [knownAll]
  | d :: ds, b, o, h => by
    simp only [RepRow] at h
    simp only [knownAll]
    obtain ⟨⟨vs, _, _, h1⟩, h2⟩ := h
    exact ⟨Rep.known d vs h1, RepRow.known ds b _ h2⟩
end

def knownV : AVal → Prop
  | .d x => x.known
  | .ag _ cs => knownVs cs
  | .tup cs => knownVs cs
  | _ => True
where knownVs : List AVal → Prop
  | [] => True
  | x :: r => (match x with | .d y => y.known | _ => True) ∧ knownVs r

def knownSt : List (Nat × Ob) → Prop
  | [] => True
  | (_, .row k _ xs) :: r => (xs.length ≤ LIM ∧ ∀ x ∈ xs, k.wrap x = x) ∧ knownSt r
  | (_, .rowD _ _ es) :: r => (es.length ≤ LIM ∧ knownAll es) ∧ knownSt r
  | (_, .cell _ cs) :: r => knownV.knownVs cs ∧ knownSt r

theorem VAll.known : ∀ {xs : List AVal} {vs : List Value}, VAll w β S xs vs → knownV.knownVs xs
  | [], vs, h => by simp only [knownV.knownVs]
  | x :: xs, vs, h => by
    simp only [VAll] at h
    obtain ⟨v, r, _, h1, h2⟩ := h
    simp only [knownV.knownVs]
    refine ⟨?_, VAll.known h2⟩
    cases x <;> try trivial
    simp only [VRel] at h1
    obtain ⟨cs, h3, _⟩ := h1
    exact Rep.known _ cs h3

theorem SRel.known : ∀ {st : List (Nat × Ob)}, (∀ j o, (j, o) ∈ st → ∃ v, β j = some v ∧ ORel w β S v o) → knownSt st
  | [], h => by simp only [knownSt]
  | (j, o) :: r, h => by
    have ih := SRel.known (st := r) fun j o hj => h j o (List.mem_cons_of_mem _ hj)
    obtain ⟨v, _, hr⟩ := h j o (by simp)
    cases o with
    | row k t xs => simp only [ORel] at hr; simp only [knownSt]; exact ⟨⟨hr.2.2, hr.2.1⟩, ih⟩
    | rowD t sz es =>
      simp only [ORel] at hr; simp only [knownSt]
      obtain ⟨vs, _, h2, _, h4, _⟩ := hr
      exact ⟨⟨h4, RepAll.known es vs h2⟩, ih⟩
    | cell t cs =>
      simp only [ORel] at hr; simp only [knownSt]
      obtain ⟨b, vs, _, _, h3⟩ := hr
      exact ⟨VAll.known h3, ih⟩

/-- What the arguments are by their types may be taken as known. -/
theorem CSpec.learn {f : FuncId} {args : List AVal} {st : List (Nat × Ob)} {m : Nat} {K : List (Nat × Ob) → Nat → AVal → Prop} (he : Enters P f) (h : knownV.knownVs args → knownSt st → CSpec P f args st m K) : CSpec P f args st m K :=
  ⟨he, fun w β S vs hs hβ ha => (h (VAll.known ha) (SRel.known hs.obj)).2 w β S vs hs hβ ha⟩

theorem Imm.learn {f : FuncId} {args : List AVal} {φ : AVal → Prop} (he : Enters P f) (h : knownV.knownVs args → Imm P f args φ) : Imm P f args φ := CSpec.learn he fun hk _ => h hk

/-- Whatever the walk stands at: what is known of the slots and the objects. -/
theorem AWp.learn {c : Code} {Q : Exit → AState → Prop} (h : knownSt s.st → (∀ t, knownV (s.fr t)) → AWp P C c s Q) : AWp P C c s Q := by
  refine ⟨fun a w hr => ?_⟩
  obtain ⟨β, S, hb⟩ := hr
  refine (h (SRel.known hb.st.obj) (fun t => ?_)).run a w ⟨β, S, hb⟩
  have := hb.fr t
  revert this
  cases s.fr t <;> intro this <;> simp only [knownV]
  · simp only [VRel] at this
    obtain ⟨cs, h1, _⟩ := this
    exact Rep.known _ cs h1
  · simp only [VRel] at this
    obtain ⟨vs, _, h1⟩ := this
    exact VAll.known h1
  · simp only [VRel] at this
    obtain ⟨vs, _, h1⟩ := this
    exact VAll.known h1

theorem AWp.of_awp {c : Code} {Q : Exit → AState → Prop} (T : Told) (h : awp P C T c s Q) : AWp P C c s Q := ⟨fun _ _ hr => awp_sound c hr h⟩

end
end Go.Proofs.YtniaeiikdgbnfaaDoor.AW
namespace Go.Proofs.YtniaeiikdgbnfaaDoor.AW
open Go Go.RowKit
set_option linter.unusedSectionVars false
variable [Globs]
set_option linter.unusedVariables false

def told0 : Told := ⟨fun _ => false, fun _ _ => [], fun _ => .done⟩

/-- An empty row that lies nowhere yet. -/
def emptyOb (o : Ob) : Bool := match o with
  | .row _ _ [] => true
  | .rowD _ sz [] => decide (0 < sz)
  | _ => false

def AState.adopt : AState → Tmp → Ob → AState
  | ⟨n, fr, st, nx⟩, t, o => ⟨n, upd fr t (.own nx), (nx, o) :: st, nx + 1⟩

def isEm (x : AVal) : Bool := match x with
  | .em _ | .nls _ => true
  | _ => false

section
variable {P : Program} {C : Ctx} {s : AState} {T : Told} {β : Nat → Option Value} {S : Nat → Prop} {a : Act} {w : World}

theorem ARel.adopt (h : ARel C s a w) {t : Tmp} {o : Ob} (ho : emptyOb o = true) (ht : isEm (s.fr t) = true) : ARel C (s.adopt t o) a w := by
  obtain ⟨β, S, h⟩ := h
  have hx : ∃ A, a.tmps.getD t undef = .slice A 0 0 := by
    have := h.fr t
    unfold isEm at ht
    split at ht
    · rename_i y e; rw [e] at this; simp only [VRel] at this; exact this.1
    · rename_i y e; rw [e] at this; simp only [VRel] at this; exact ⟨none, this.1⟩
    · cases ht
  obtain ⟨A, hA⟩ := hx
  have hb : blk (.slice A 0 0) = none := blk_empty A
  have hr : ORel w (updO β s.nx (.slice A 0 0)) S (.slice A 0 0) o := by
    unfold emptyOb at ho
    split at ho
    · simp only [ORel]; exact ⟨.inl ⟨A, rfl, rfl, rfl⟩, by simp, by simp⟩
    · simp only [ORel]; exact ⟨[], .inl ⟨A, rfl, rfl, rfl⟩, by simp [RepAll], by simp, by simp, of_decide_eq_true ho⟩
    · cases ho
  have h1 := h.fresh (World.grownBy.refl w _) (o' := o) (v := .slice A 0 0) (by simp [hb]) hr
  obtain ⟨n, fr, st, nx⟩ := s
  refine ⟨_, S, fun u => ?_, h1.size, h1.st, h1.frame, h1.nx, h1.defers, h1.pin, h1.nxm⟩
  simp only [AState.adopt, upd]
  split
  · rename_i e; subst e; simp only [VRel, updO, if_true]; rw [hA]
  · exact h1.fr u

theorem AWp.adopt {c : Code} {Q : Exit → AState → Prop} (t : Tmp) (o : Ob) (ho : emptyOb o = true) (ht : isEm (s.fr t) = true) (h : AWp P C c (s.adopt t o) Q) : AWp P C c s Q :=
  ⟨fun a w hr => h.run a w (hr.adopt ho ht)⟩

theorem AWp.freeze {c : Code} {Q : Exit → AState → Prop} (ts : List Tmp) (h : qFreezes P ts s fun s => AWp P C c s Q) : AWp P C c s Q :=
  ⟨fun a w ⟨β, S, hr⟩ => let ⟨S', s', h1, h2⟩ := qFreezes_sound hr h; h2.run a w ⟨β, S', h1⟩⟩

theorem AWp.mono {c : Code} {Q Q' : Exit → AState → Prop} (h : AWp P C c s Q) (hq : ∀ e s, Q e s → Q' e s) : AWp P C c s Q' :=
  ⟨fun a w hr => wpIn_mono (h.run a w hr) fun e _ _ ⟨s', h1, h2⟩ => ⟨s', h1, hq e s' h2⟩⟩

/-- Two ways that come together again: 'M' is what holds there. -/
theorem AWp.join {x y : Code} {Q : Exit → AState → Prop} (M : AState → Prop) (hx : AWp P C x s (thenQ M Q)) (hy : ∀ s, M s → AWp P C y s Q) : AWp P C (.seq x y) s Q :=
  ⟨fun a w hr => wpIn_seq (wpIn_mono (hx.run a w hr) fun e a' w' ⟨s', h1, h2⟩ => by
    cases e <;> first | exact (hy s' h2).run a' w' h1 | exact ⟨s', h1, h2⟩)⟩

end
end Go.Proofs.YtniaeiikdgbnfaaDoor.AW
namespace Go.Proofs.YtniaeiikdgbnfaaDoor.AW
open Go Go.RowKit
set_option linter.unusedSectionVars false
variable [Globs]

def rowD? : Ob → Option D
  | .row k _ xs => some (.ints k xs)
  | .rowD _ sz es => some (.sl sz es)
  | .cell _ _ => none

/-- Values as they are while nobody writes these objects. -/
def peekL : List (Nat × Ob) → List AVal → List AVal
  | [], xs => xs
  | (j, o) :: r, xs =>
    match rowD? o with
    | some d => peekL r (frzL j d xs)
    | none => peekL r xs

/-- Structs that are looked at: 'y' is what object j is just then. -/
def peekC : List (Nat × D) → List AVal → List AVal
  | [], xs => xs
  | (j, y) :: r, xs => peekC r (frzL j (.ptr y) xs)
def pcOk (st : List (Nat × Ob)) : List (Nat × D) → Prop
  | [] => True
  | (j, y) :: r => (match getO st j with
    | some (.cell _ cs) => allDv cs = some (flatD y)
    | _ => False) ∧ pcOk st r

mutual
def flatV : AVal → Bool
  | .d (.int _ _) | .d (.bool _) | .d (.str _) | .d .nilp | .d (.raw _) => true
  | .any | .un | .em _ | .nls _ | .own _ => true
  | .tup cs => flatVs cs
  | _ => false
def flatVs : List AVal → Bool
  | [] => true
  | x :: r => flatV x && flatVs r
end

def flatSt : List (Nat × Ob) → Bool
  | [] => true
  | (_, .row _ _ _) :: r => flatSt r
  | _ => false

section
variable {P : Program} {C : Ctx} {s : AState} {β : Nat → Option Value} {S S' : Nat → Prop} {a : Act} {w : World}

mutual
theorem flatV_rel : ∀ (x : AVal) (v : Value), flatV x = true → VRel w β S x v → VRel w β S' x v
  | .any, v, _, h => by simp only [VRel]
  | .un, v, _, h => by simpa only [VRel] using h
  | .d x, v, hf, h => by
    cases x <;> simp [flatV] at hf <;> simpa only [VRel, Rep] using h
  | .em x, v, _, h => by simpa only [VRel] using h
  | .nls x, v, _, h => by simpa only [VRel] using h
  | .own i, v, _, h => by simpa only [VRel] using h
  | .view i off len, v, hf, h => by simp [flatV] at hf
  | .optr i off, v, hf, h => by simp [flatV] at hf
  | .ag t cs, v, hf, h => by simp [flatV] at hf
  | .tup cs, v, hf, h => by
    simp only [flatV] at hf
    simp only [VRel] at h ⊢
    obtain ⟨vs, h1, h2⟩ := h
    exact ⟨vs, h1, flatVs_rel cs _ hf h2⟩
  | .ofn f cs, v, hf, h => by simp [flatV] at hf
theorem flatVs_rel : ∀ (xs : List AVal) (vs : List Value), flatVs xs = true → VAll w β S xs vs → VAll w β S' xs vs
  | [], vs, _, h => by simpa only [VAll] using h
  | x :: xs, vs, hf, h => by
    simp only [flatVs, Bool.and_eq_true] at hf
    simp only [VAll] at h ⊢
    obtain ⟨v, r, e, h1, h2⟩ := h
    exact ⟨v, r, e, flatV_rel x v hf.1 h1, flatVs_rel xs r hf.2 h2⟩
end

theorem flatSt_mem : ∀ {st : List (Nat × Ob)}, flatSt st = true → ∀ {i o}, (i, o) ∈ st → ∃ k t xs, o = .row k t xs
  | [], _, i, o, h => by simp at h
  | (j, p) :: r, hf, i, o, h => by
    cases p with
    | row k t xs =>
      simp only [flatSt] at hf
      rcases List.mem_cons.1 h with h | h
      · injection h with h1 h2; subst h2; exact ⟨k, t, xs, rfl⟩
      · exact flatSt_mem hf h
    | rowD t sz es => simp [flatSt] at hf
    | cell t cs => simp [flatSt] at hf

theorem frzOk_of (h : ARelB C s β S a w) {j : Nat} {o : Ob} {d : D} (hj : (j, o) ∈ s.st) (hd : rowD? o = some d) (hS : ∀ b, S b ∨ (β j).bind blk = some b → S' b) : FrzOk w β S' j d := by
  obtain ⟨v, hv, hr⟩ := h.st.obj j _ hj
  cases o with
  | cell e cs => simp [rowD?] at hd
  | row k e xs =>
    simp only [rowD?, Option.some.injEq] at hd
    subst hd
    simp only [ORel] at hr
    obtain ⟨hr1, hr2, hr3⟩ := hr
    obtain ⟨A, c, rfl, hle, hA⟩ := ownsV_cells hr1
    have base : ∀ {b : Nat}, (β j).bind blk = some b → ∀ off len, off + len ≤ xs.length → 0 < len → Cells w b off (((xs.drop off).take len).map (Value.int k)) := fun {b} hb off len hl hp => by
      obtain ⟨b', e1, e2, hc⟩ := hA (by omega)
      rw [hv, Option.bind_some, e2] at hb
      injection hb with hb; subst hb
      have := hc.sub off len
      simpa [List.map_take, List.map_drop] using this
    refine ⟨fun u hu _ => ?_, fun k' xs' e off len A' c' hl hc hA' => ?_, (fun y e => by cases e), fun k' xs' e off b hlt hb => ?_⟩
    · rw [hv] at hu; injection hu with hu; subst hu
      simp only [VRel, Rep]
      refine ⟨_, ⟨A, c, rfl, hle, hr3, hr2, fun hne => ?_⟩, rfl⟩
      obtain ⟨b, e1, e2, hc⟩ := hA (List.length_pos_iff.2 hne)
      exact ⟨b, 0, e1, hS b (.inr (by rw [hv]; exact e2)), hc⟩
    · injection e with e1 e2; subst e1; subst e2
      have hln : ((xs.drop off).take len).length = len := by simp; omega
      simp only [VRel, Rep]
      refine ⟨[.slice A' len c'], ⟨A', c', by rw [hln], by omega, by omega, fun x hx => hr2 x (List.mem_of_mem_drop (List.mem_of_mem_take hx)), fun hne => ?_⟩, rfl⟩
      have hp : 0 < len := by have := List.length_pos_iff.2 hne; omega
      obtain ⟨b, hb, rfl⟩ := hA' hp
      exact ⟨b, off, rfl, hS b (.inr hb), base hb off len hl hp⟩
    · injection e with e1 e2; subst e1; subst e2
      simp only [VRel, Rep]
      refine ⟨_, ⟨b, off, rfl, hS b (.inr hb), [.int k (xs.getD off 0)], ?_, rfl, ?_⟩, rfl⟩
      · have := base hb off 1 (by omega) (by omega)
        rw [take_one_drop hlt] at this
        simpa [List.getD_eq_getElem?_getD, hlt] using this
      · rw [List.getD_eq_getElem?_getD, List.getElem?_eq_getElem hlt]; exact hr2 _ (List.getElem_mem hlt)
  | rowD e sz es =>
    simp only [rowD?, Option.some.injEq] at hd
    subst hd
    simp only [ORel] at hr
    obtain ⟨vs, hr1, hr2, hr3, hr4, hr5⟩ := hr
    obtain ⟨A, c, rfl, hle, hA⟩ := ownsV_cells hr1
    refine ⟨fun u hu _ => ?_, (fun _ _ e => by cases e), (fun _ e => by cases e), (fun _ _ e => by cases e)⟩
    rw [hv] at hu; injection hu with hu; subst hu
    simp only [VRel, Rep]
    refine ⟨_, ⟨A, c, rfl, hle, hr4, fun hne => ?_⟩, rfl⟩
    obtain ⟨b, e1, e2, hc⟩ := hA (List.length_pos_iff.2 hne)
    exact ⟨b, 0, e1, hS b (.inr (by rw [hv]; exact e2)), repRow_of hc (hr2.keep fun b hb => ⟨hS b (.inl hb), rfl⟩) hr3⟩

theorem peekL_rel (h : ARelB C s β S a w) (hS : ∀ b, S b → S' b) : ∀ {st : List (Nat × Ob)}, (∀ j o, (j, o) ∈ st → (j, o) ∈ s.st ∧ ∀ b, (β j).bind blk = some b → S' b) → ∀ {xs : List AVal} {vs : List Value}, VAll w β S' xs vs → VAll w β S' (peekL st xs) vs
  | [], _, xs, vs, hv => hv
  | (j, o) :: r, hst, xs, vs, hv => by
    simp only [peekL]
    have ih := fun {xs vs} => @peekL_rel h hS r (fun j o hj => hst j o (List.mem_cons_of_mem _ hj)) xs vs
    split
    · rename_i d hd
      obtain ⟨h1, h2⟩ := hst j o (by simp)
      exact ih (frzL_rel (fun _ hb => hb) (frzOk_of h h1 hd fun b hb => hb.elim (hS b) (h2 b)) _ _ hv)
    · exact ih hv

theorem frzOk_cell (h : ARelB C s β S a w) (hS : ∀ b, S b → S' b) {j : Nat} {e : TypeId} {cs : List AVal} {y : D} (hj : (j, .cell e cs) ∈ s.st) (hb : ∀ b, (β j).bind blk = some b → S' b) (hds : allDv cs = some (flatD y)) : FrzOk w β S' j (.ptr y) := by
  obtain ⟨v, hv, hr⟩ := h.st.obj j _ hj
  simp only [ORel] at hr
  obtain ⟨b, vs, rfl, hh, hr⟩ := hr
  have hrep := rep_of_flat _ _ (allDv_rel hds hr)
  refine ⟨fun u hu hne => (hne _ rfl).elim, (fun _ _ e => by cases e), fun y' e b' hb' => ?_, (fun _ _ e => by cases e)⟩
  injection e with e; subst e
  have hbb := hb'
  rw [hv] at hb'
  simp only [Option.bind_some, blk, Option.some.injEq] at hb'
  subst hb'
  simp only [VRel, Rep]
  refine ⟨_, ⟨b, 0, rfl, hb b hbb, vs.toList, fun i u hu => ?_, hrep.keep fun b hb => ⟨hS b hb, rfl⟩⟩, rfl⟩
  simp [World.cell?, hh]
  simpa using hu

theorem peekC_rel (h : ARelB C s β S a w) (hS : ∀ b, S b → S' b) {st : List (Nat × Ob)} (hst : ∀ j o, (j, o) ∈ st → (j, o) ∈ s.st ∧ ∀ b, (β j).bind blk = some b → S' b) :
    ∀ {pc : List (Nat × D)}, pcOk st pc → ∀ {xs : List AVal} {vs : List Value}, VAll w β S' xs vs → VAll w β S' (peekC pc xs) vs
  | [], _, xs, vs, hv => hv
  | (j, y) :: r, hp, xs, vs, hv => by
    simp only [pcOk] at hp
    simp only [peekC]
    obtain ⟨h1, h2⟩ := hp
    split at h1
    · rename_i e cs ho
      obtain ⟨h3, h4⟩ := hst j _ (getO_mem ho)
      exact peekC_rel h hS hst h2 (frzL_rel (fun _ hb => hb) (frzOk_cell h hS h3 h4 h1) _ _ hv)
    · exact h1.elim

/-- A CALL THAT LOOKS AT WHAT IS OWNED, and may write what it is handed ('l'): what comes back are numbers and rows of numbers. -/
theorem acallP {x : Bool} {f : FuncId} {args avs : List AVal} {st : List (Nat × Ob)} {K : List (Nat × Ob) → Nat → AVal → Prop} {K' : AState → AVal → Prop} (l : List Nat) (pc : List (Nat × D)) (hc : CSpec P f args st l.length K)
    (hok : wkB 0 s.nx l st = true) (hst : stIn l s.nx s.st st) (hpc : pcOk (dropIds l s.st) pc) (ha : renL (rho l s.nx) args = peekL (dropIds l s.st) (peekC pc avs)) (hx : x = true → st = [])
    (hK : ∀ st' nx' r, K st' nx' r → flatSt st' = true ∧ flatV r = true ∧ K' (s.called l st' nx') (renV (rho l s.nx) r)) : ACall P C x s f avs K' := by
  obtain ⟨hn, hb, _, hsn⟩ := wkB_spec hok
  refine ⟨fun β S a w vs h hv => ?_⟩
  let ρ := rho l s.nx
  let β0 : Nat → Option Value := fun i => β (ρ i)
  let S2 : Nat → Prop := fun b => S b ∨ ∃ j o, (j, o) ∈ dropIds l s.st ∧ (β j).bind blk = some b
  have hβ0 : ∀ i, l.length ≤ i → β0 i = none := fun i hi => by
    show β (rho l s.nx i) = none
    rw [rho_ge hi]
    exact h.nx _ (by omega)
  have hargs : VAll w β0 S2 args vs := (renL_iff args vs).2 (by
    rw [ha]
    refine peekL_rel h (fun b hb => .inl hb) (fun j o hj => ⟨(mem_dropIds.1 hj).1, fun b hb => .inr ⟨j, o, hj, hb⟩⟩) (peekC_rel h (fun b hb => .inl hb) (fun j o hj => ⟨(mem_dropIds.1 hj).1, fun b hb => .inr ⟨j, o, hj, hb⟩⟩) hpc ?_)
    exact VAll.keep (fun b hb => ⟨.inl hb, rfl⟩) (fun _ _ e => e) _ _ hv)
  have hown0 : ∀ b, Owned β0 st b → ∃ i o, (i, o) ∈ st ∧ i < l.length ∧ (ρ i, renOb ρ o) ∈ s.st ∧ (β (ρ i)).bind blk = some b := fun b ⟨i, o, hi, hb⟩ =>
    ⟨i, o, hi, (stIn_mem hst hi).1, (stIn_mem hst hi).2, hb⟩
  have hsub : ∀ b, Owned β0 st b → Owned β s.st b := fun b hb => let ⟨i, o, _, _, h3, h4⟩ := hown0 b hb; ⟨_, _, h3, h4⟩
  have hblt : ∀ {j o}, (j, o) ∈ s.st → ∀ b, (β j).bind blk = some b → b < w.heap.size := fun {j o} hj b hb => (h.st.own b ⟨j, o, hj, hb⟩).2
  have hapart : ∀ {j o}, (j, o) ∈ dropIds l s.st → ∀ b, (β j).bind blk = some b → ¬ Owned β0 st b := fun {j o} hj b hb ho => by
    obtain ⟨i, o', _, hil, h3, h4⟩ := hown0 b ho
    have hj' := mem_dropIds.1 hj
    refine h.st.apart j o _ _ hj'.1 h3 (fun e => hj'.2 ?_) b hb h4
    rw [e]
    show rho l s.nx i ∈ l
    rw [rho_lt hil]; exact List.getElem_mem hil
  have hs0 : SRel w β0 S2 st := by
    refine ⟨fun i o hi => ?_, hsn, fun i o j o' hi hj hne b hbb => ?_, fun b hb => ⟨fun hs => ?_, (h.st.own b (hsub b hb)).2⟩, fun b hb => ?_, h.st.gl.keep fun b hb => ⟨.inl hb, rfl⟩⟩
    · obtain ⟨v, h1, h2⟩ := h.st.obj _ _ (stIn_mem hst hi).2
      exact ⟨v, h1, ((renOb_iff o).2 h2).keep (fun b hb => ⟨.inl hb, rfl⟩) (fun _ _ e => e) fun _ _ => rfl⟩
    · exact h.st.apart _ _ _ _ (stIn_mem hst hi).2 (stIn_mem hst hj).2 (fun e => hne (rho_inj hn ‹∀ j ∈ l, j < s.nx› e)) b hbb
    · rcases hs with hs | ⟨j, o, hj, hbj⟩
      · exact (h.st.own b (hsub b hb)).1 hs
      · exact hapart hj b hbj hb
    · rcases hb with hb | ⟨j, o, hj, hbj⟩
      · exact h.st.inS b hb
      · exact hblt (mem_dropIds.1 hj).1 b hbj
  refine ⟨hc.1, Calls.mono (hc.2 w β0 S2 vs hs0 hβ0 hargs) fun e w' hh => ?_⟩
  obtain ⟨v, st', nx', r, β', S', rfl, hf, hs', hnx', hm, hpin, hr, hKr⟩ := hh
  obtain ⟨hfs, hfr, hKr⟩ := hK st' nx' r hKr
  let β1 : Nat → Option Value := fun j => if j < s.nx then β j else β' (l.length + (j - s.nx))
  have e1 : (fun i => β1 (ρ i)) = β' := by
    funext i
    show (if rho l s.nx i < s.nx then β (rho l s.nx i) else β' (l.length + (rho l s.nx i - s.nx))) = β' i
    rcases Nat.lt_or_ge i l.length with hi | hi
    · have h1 : rho l s.nx i < s.nx := by rw [rho_lt hi]; exact hb _ (List.getElem_mem hi)
      rw [if_pos h1]
      exact (hpin i hi).symm
    · rw [rho_ge hi, if_neg (by omega)]
      congr 1; omega
  have hext : ∀ b, b < w.heap.size → ¬ Owned β0 st b → w'.heap[b]? = w.heap[b]? := fun b h1 h2 => hf.old b h1 h2
  have hSkeep : ∀ b, S b → S b ∧ w'.heap[b]? = w.heap[b]? := fun b hb => ⟨hb, hext b (h.st.inS b hb) fun ho => (h.st.own b (hsub b ho)).1 hb⟩
  have hβkeep : ∀ j u, β j = some u → β1 j = some u := fun j u e => by
    show (if j < s.nx then β j else _) = some u
    rw [if_pos]
    · exact e
    · rcases Nat.lt_or_ge j s.nx with h' | h'
      · exact h'
      · rw [h.nx j h'] at e; cases e
  have hβ1 : ∀ {j o}, (j, o) ∈ s.st → β1 j = β j := fun {j o} hj => by
    obtain ⟨u, hu, _⟩ := h.st.obj j o hj
    rw [hβkeep j u hu, hu]
  have hren : ∀ {j p}, (j, p) ∈ renSt ρ st' → ∃ i o, (i, o) ∈ st' ∧ j = ρ i ∧ p = renOb ρ o ∧ β1 j = β' i := fun {j p} hj => by
    obtain ⟨i, o, h1, h2, h3⟩ := mem_renSt.1 hj
    exact ⟨i, o, h1, h2, h3, by rw [h2]; exact congrFun e1 i⟩
  have hown' : ∀ b, Owned β' st' b → Owned β0 st b ∨ w.heap.size ≤ b := fun b hb => hf.own b hb
  have hownN : ∀ b, Owned β1 (renSt ρ st' ++ dropIds l s.st) b → Owned β' st' b ∨ (∃ j o, (j, o) ∈ dropIds l s.st ∧ (β j).bind blk = some b) := fun b ⟨j, o, hj, hb⟩ => by
    rcases List.mem_append.1 hj with hj | hj
    · obtain ⟨i, o', h1, h2, h3, h4⟩ := hren hj
      exact .inl ⟨i, o', h1, by rw [← h4]; exact hb⟩
    · exact .inr ⟨j, o, hj, by rw [← hβ1 (mem_dropIds.1 hj).1]; exact hb⟩
  have hmarks : Marks C S a w' := h.defers.keep fun D hD hS => by
    have hlt : D < w.heap.size := (Array.getElem?_eq_some_iff.1 hD).1
    have hno : ¬ Owned β0 st D := fun ho => by
      obtain ⟨cs, t, hc⟩ := h.st.cells (hsub D ho)
      rw [hD] at hc; cases hc
    exact ⟨(hext D hlt hno).trans hD, hS⟩
  have hrel : ARelB C (s.called l st' nx') β1 S a w' := by
    refine ⟨fun t => VRel.keep hSkeep hβkeep _ _ (h.fr t), h.size, ⟨fun j p hj => ?_, ?_, fun i p k q hi hk hne b hbb hbk => ?_, fun b hbb => ?_, fun b hbb => Nat.lt_of_lt_of_le (h.st.inS b hbb) hf.size, h.st.gl.keep hSkeep⟩, ?_, fun j hj => ?_, hmarks, fun j hj => ?_, ?_⟩
    · rcases List.mem_append.1 hj with hj | hj
      · obtain ⟨i, o, h1, rfl, rfl, h4⟩ := hren hj
        obtain ⟨u, hu, hr⟩ := hs'.obj i o h1
        refine ⟨u, by rw [h4]; exact hu, ?_⟩
        obtain ⟨k, t, xs, rfl⟩ := flatSt_mem hfs h1
        simpa only [ORel, renOb] using hr
      · have hj' := mem_dropIds.1 hj
        obtain ⟨u, hu, hr⟩ := h.st.obj j p hj'.1
        exact ⟨u, hβkeep j u hu, hr.keep hSkeep hβkeep fun b hbb => hext b (hblt hj'.1 b (by rw [hu]; exact hbb)) (hapart hj b (by rw [hu]; exact hbb))⟩
    · show ((renSt ρ st' ++ dropIds l s.st).map (·.1)).Nodup
      rw [List.map_append, List.nodup_append]
      refine ⟨?_, dropIds_nodup h.st.nodup, fun j hj k hk e => ?_⟩
      · rw [renSt_ids, show (st'.map fun p => ρ p.1) = (st'.map (·.1)).map ρ by simp]
        exact nodup_map_inj hs'.nodup fun x _ y _ e => rho_inj hn hb e
      · subst e
        rw [renSt_ids] at hj
        obtain ⟨⟨i, o⟩, _, e⟩ := List.mem_map.1 hj
        obtain ⟨⟨k, q⟩, hq, e2⟩ := List.mem_map.1 hk
        have hq' := mem_dropIds.1 hq
        simp only at e e2
        subst e2
        rcases Nat.lt_or_ge i l.length with hi | hi
        · exact hq'.2 (by rw [← e]; show rho l s.nx i ∈ l; rw [rho_lt hi]; exact List.getElem_mem hi)
        · have h1 := h.id_lt hq'.1
          have h2 : rho l s.nx i = k := e
          rw [rho_ge hi] at h2
          omega
    · rcases List.mem_append.1 hi with hi | hi <;> rcases List.mem_append.1 hk with hk | hk
      · obtain ⟨i1, o1, h1, rfl, rfl, h4⟩ := hren hi
        obtain ⟨i2, o2, h5, rfl, rfl, h8⟩ := hren hk
        rw [h4] at hbb; rw [h8] at hbk
        exact hs'.apart _ _ _ _ h1 h5 (fun e => hne (by rw [e])) b hbb hbk
      · obtain ⟨i1, o1, h1, rfl, rfl, h4⟩ := hren hi
        rw [h4] at hbb; rw [hβ1 (mem_dropIds.1 hk).1] at hbk
        rcases hown' b ⟨_, _, h1, hbb⟩ with h' | h'
        · exact hapart hk b hbk h'
        · have := hblt (mem_dropIds.1 hk).1 b hbk; omega
      · obtain ⟨i2, o2, h5, rfl, rfl, h8⟩ := hren hk
        rw [h8] at hbk; rw [hβ1 (mem_dropIds.1 hi).1] at hbb
        rcases hown' b ⟨_, _, h5, hbk⟩ with h' | h'
        · exact hapart hi b hbb h'
        · have := hblt (mem_dropIds.1 hi).1 b hbb; omega
      · rw [hβ1 (mem_dropIds.1 hi).1] at hbb; rw [hβ1 (mem_dropIds.1 hk).1] at hbk
        exact h.st.apart _ _ _ _ (mem_dropIds.1 hi).1 (mem_dropIds.1 hk).1 hne b hbb hbk
    · rcases hownN b hbb with h' | ⟨j, o, hj, hbj⟩
      · refine ⟨fun hs => ?_, (hs'.own b h').2⟩
        rcases hown' b h' with h2 | h2
        · exact (h.st.own b (hsub b h2)).1 hs
        · have := h.st.inS b hs; omega
      · have hlt := hblt (mem_dropIds.1 hj).1 b hbj
        exact ⟨fun hs => (h.st.own b ⟨j, o, (mem_dropIds.1 hj).1, hbj⟩).1 hs, Nat.lt_of_lt_of_le hlt hf.size⟩
    · have hf0 := h.frame
      refine ⟨Nat.le_trans hf0.size hf.size, hf.os.trans hf0.os, hf.tape.trans hf0.tape, hf.output.trans hf0.output, fun b hb hE => ?_, hf0.inS, fun b hb => ?_⟩
      · rw [hext b (Nat.lt_of_lt_of_le hb hf0.size) fun ho => ?_]
        · exact hf0.old b hb hE
        · rcases hf0.own b (hsub b ho) with h' | h'
          · exact hE h'
          · omega
      · rcases hownN b hb with h' | ⟨j, o, hj, hbj⟩
        · rcases hown' b h' with h2 | h2
          · exact hf0.own b (hsub b h2)
          · exact .inr (Nat.le_trans hf0.size h2)
        · exact hf0.own b ⟨j, o, (mem_dropIds.1 hj).1, hbj⟩
    · show (if j < s.nx then β j else β' (l.length + (j - s.nx))) = none
      have hj' : s.nx + (nx' - l.length) ≤ j := hj
      rw [if_neg (by omega)]
      exact hnx' _ (by omega)
    · show (if j < s.nx then β j else β' (l.length + (j - s.nx))) = C.B0 j
      have := h.nxm
      rw [if_pos (by omega)]
      exact h.pin j hj
    · exact Nat.le_trans h.nxm (Nat.le_add_right _ _)
  refine ⟨v, _, _, β1, S, rfl, fun hxt => ?_, hrel, ?_, hKr⟩
  · have he := hx hxt
    subst he
    exact fun b hb => hext b hb fun ⟨i, o, hi, _⟩ => by simp at hi
  · rw [← e1] at hr
    exact (renV_iff r v).1 (flatV_rel r v hfr hr)

theorem acallPI {x : Bool} {f : FuncId} {args avs : List AVal} {φ : AVal → Prop} {K' : AState → AVal → Prop} (pc : List (Nat × D)) (hc : Imm P f args φ) (hpc : pcOk (dropIds [] s.st) pc) (ha : renL (rho [] s.nx) args = peekL (dropIds [] s.st) (peekC pc avs))
    (hK : ∀ r, φ r → flatV r = true ∧ K' s (renV (rho [] s.nx) r)) : ACall P C x s f avs K' := by
  refine acallP [] pc hc rfl (by simp [stIn]) hpc ha (fun _ => rfl) fun st' nx' r ⟨e1, e2, h⟩ => ?_
  subst e1; subst e2
  rw [called_nil]
  exact ⟨rfl, hK r h⟩

end
end Go.Proofs.YtniaeiikdgbnfaaDoor.AW
namespace Go.Proofs.YtniaeiikdgbnfaaDoor.AW
open Go Go.RowKit
set_option linter.unusedSectionVars false
variable [Globs]
set_option linter.unusedVariables false

def awpRounds (P : Program) (C : Ctx) (T : Told) (body : Code) (Q : Exit → AState → Prop) : Nat → AState → Prop
  | 0, _ => False
  | n + 1, s => awp P C T body s (thenQ (awpRounds P C T body Q n) Q)

section
variable {P : Program} {C : Ctx} {s : AState} {T : Told}

theorem rounds_sound {body : Code} {Q : Exit → AState → Prop} : ∀ (n : Nat) {s : AState} {a : Act} {w : World}, ARel C s a w → awpRounds P C T body Q n s → Code.roundsIn (fence C.rd) 0 P body (liftQ C Q) n a w
  | 0, s, a, w, _, h => by simp only [awpRounds] at h
  | n + 1, s, a, w, hr, h => by
    simp only [awpRounds] at h
    simp only [Code.roundsIn]
    refine wpIn_mono (awp_sound body hr h) fun e a' w' ⟨s', h1, h2⟩ => ?_
    cases e <;> first | exact rounds_sound n h1 h2 | exact ⟨s', h1, h2⟩

theorem AWp.rounds {body : Code} {Q : Exit → AState → Prop} (T : Told) (n : Nat) (h : awpRounds P C T body Q n s) : AWp P C (.loop body) s Q :=
  ⟨fun a w hr => wpIn_mono (wpIn_loop_rounds n (rounds_sound n hr h)) fun e a' w' ⟨s', h1, h2⟩ => ⟨s', h1, h2⟩⟩

end
end Go.Proofs.YtniaeiikdgbnfaaDoor.AW
namespace Go.Proofs.YtniaeiikdgbnfaaDoor.AW
open Go Go.RowKit
set_option linter.unusedSectionVars false
variable [Globs]

mutual
/-- Does a value name objects below p alone? -/
def belowV (p : Nat) : AVal → Bool
  | .own i => decide (i < p)
  | .view i _ _ => decide (i < p)
  | .optr i _ => decide (i < p)
  | .ag _ cs => belowL p cs
  | .tup cs => belowL p cs
  | .ofn _ cs => belowL p cs
  | .any => true
  | .un => true
  | .d _ => true
  | .em _ => true
  | .nls _ => true
def belowL (p : Nat) : List AVal → Bool
  | [] => true
  | x :: xs => belowV p x && belowL p xs
end

def belowS (p : Nat) : List (Nat × AVal) → Bool
  | [] => true
  | x :: xs => belowV p x.2 && belowS p xs

def cut (p : Nat) (β : Nat → Option Value) : Nat → Option Value := fun j => if j < p then β j else none

section
variable {P : Program} {C : Ctx} {s : AState} {T : Told} {β : Nat → Option Value} {S : Nat → Prop} {a : Act} {w : World}

theorem cut_bind {p i b : Nat} (hi : i < p) (h : (β i).bind blk = some b) : (cut p β i).bind blk = some b := by
  unfold cut; rw [if_pos hi]; exact h

mutual
theorem belowV_rel {p : Nat} : ∀ (x : AVal) (v : Value), belowV p x = true → VRel w β S x v → VRel w (cut p β) S x v
  | .any, v, _, h => by simp only [VRel]
  | .un, v, _, h => by simpa only [VRel] using h
  | .d x, v, _, h => by simpa only [VRel] using h
  | .em x, v, _, h => by simpa only [VRel] using h
  | .nls x, v, _, h => by simpa only [VRel] using h
  | .own i, v, hb, h => by
    simp only [belowV, decide_eq_true_eq] at hb
    simp only [VRel] at h ⊢
    unfold cut; rw [if_pos hb]; exact h
  | .view i off len, v, hb, h => by
    simp only [belowV, decide_eq_true_eq] at hb
    simp only [VRel] at h ⊢
    obtain ⟨A, c, e, hl, hA⟩ := h
    exact ⟨A, c, e, hl, fun hp => let ⟨b, hb', e'⟩ := hA hp; ⟨b, cut_bind hb hb', e'⟩⟩
  | .optr i off, v, hb, h => by
    simp only [belowV, decide_eq_true_eq] at hb
    simp only [VRel] at h ⊢
    obtain ⟨b, hb', e⟩ := h
    exact ⟨b, cut_bind hb hb', e⟩
  | .ag _ cs, v, hb, h => by
    simp only [belowV] at hb
    simp only [VRel] at h ⊢
    obtain ⟨vs, h1, h2⟩ := h
    exact ⟨vs, h1, belowL_rel cs _ hb h2⟩
  | .tup cs, v, hb, h => by
    simp only [belowV] at hb
    simp only [VRel] at h ⊢
    obtain ⟨vs, h1, h2⟩ := h
    exact ⟨vs, h1, belowL_rel cs _ hb h2⟩
  | .ofn f cs, v, hb, h => by
    simp only [belowV] at hb
    simp only [VRel] at h ⊢
    obtain ⟨vs, h1, h2⟩ := h
    exact ⟨vs, h1, belowL_rel cs _ hb h2⟩
theorem belowL_rel {p : Nat} : ∀ (xs : List AVal) (vs : List Value), belowL p xs = true → VAll w β S xs vs → VAll w (cut p β) S xs vs
  | [], vs, _, h => by simpa only [VAll] using h
  | x :: xs, vs, hb, h => by
    simp only [belowL, Bool.and_eq_true] at hb
    simp only [VAll] at h ⊢
    obtain ⟨v, r, e, h1, h2⟩ := h
    exact ⟨v, r, e, belowV_rel x v hb.1 h1, belowL_rel xs r hb.2 h2⟩
end

theorem belowS_fr {p : Nat} : ∀ {sl : List (Nat × AVal)}, belowS p sl = true → ∀ t, belowV p (frL sl t) = true
  | [], _, t => by simp only [frL, belowV]
  | (k, v) :: r, h, t => by
    simp only [belowS, Bool.and_eq_true] at h
    simp only [frL]
    split
    · exact h.1
    · exact belowS_fr h.2 t

/-- The world grows, or a block turns that nobody speaks of. -/
theorem ARelB.grown (h : ARelB C s β S a w) {w' : World} {row : Option Nat} (hg : w.grownBy w' row) (hr : ∀ g, row = some g → ¬ S g ∧ ¬ Owned β s.st g ∧ C.w0.heap.size ≤ g ∧ a.defers = []) : ARelB C s β S a w' := by
  have hS : ∀ b, S b → S b ∧ w'.heap[b]? = w.heap[b]? := fun b hb => ⟨hb, hg.block b (h.st.inS b hb) fun e => (hr b e.symm).1 hb⟩
  have hlt : ∀ b, b < w.heap.size → b < w'.heap.size := fun b hb => Nat.lt_of_lt_of_le hb hg.size
  refine ⟨fun t => VRel.keep hS (fun _ _ e => e) _ _ (h.fr t), h.size, ⟨fun j o hj => ?_, h.st.nodup, h.st.apart, fun b hb => ⟨(h.st.own b hb).1, hlt b (h.st.own b hb).2⟩, fun b hb => hlt b (h.st.inS b hb), h.st.gl.keep hS⟩,
    ⟨Nat.le_trans h.frame.size hg.size, hg.os.trans h.frame.os, hg.tape.trans h.frame.tape, hg.output.trans h.frame.output, fun b hb hE => ?_, h.frame.inS, h.frame.own⟩, h.nx, ?_, h.pin, h.nxm⟩
  · obtain ⟨v, hv, hr'⟩ := h.st.obj j o hj
    refine ⟨v, hv, hr'.keep hS (fun _ _ e => e) fun b hb => ?_⟩
    have ho : Owned β s.st b := ⟨j, o, hj, by rw [hv]; exact hb⟩
    exact hg.block b (h.st.own b ho).2 fun e => (hr b e.symm).2.1 ho
  · rw [hg.block b (Nat.lt_of_lt_of_le hb h.frame.size) fun e => ?_]
    · exact h.frame.old b hb hE
    · have := (hr b e.symm).2.2.1
      omega
  · cases row with
    | none => exact h.defers.keep fun D hD hS => ⟨(hg.block D (Array.getElem?_eq_some_iff.1 hD).1 (by simp)).trans hD, hS⟩
    | some g =>
      have hd := (hr g rfl).2.2.2
      exact ⟨fun d hd' => by rw [hd] at hd'; simp at hd', by rw [hd]; simp, fun _ => hd⟩

/-- Behind a stretch of which the relation is held to where it began. -/
theorem ARelB.seg (h : ARelB C s β S a w) {m : Nat} {rd : Option Nat} {s' : AState} {a' : Act} {w' : World} {β' : Nat → Option Value} {S' : Nat → Prop} (hm : C.m ≤ m) (hbel : ∀ t, belowV m (s.fr t) = true)
    (h' : ARelB ⟨w, S, Owned β s.st, m, β, rd⟩ s' β' S' a' w') : ARelB C ⟨s.n, s.fr, s'.st, s'.nx⟩ β' (fun b => S b ∨ S' b) a w' := by
  have hf := h'.frame
  have hf0 := h.frame
  have hext : ∀ b, b < w.heap.size → ¬ Owned β s.st b → w'.heap[b]? = w.heap[b]? := fun b h1 h2 => hf.old b h1 h2
  have hSk : ∀ b, S b → (S b ∨ S' b) ∧ w'.heap[b]? = w.heap[b]? := fun b hb => ⟨.inl hb, hext b (h.st.inS b hb) fun ho => (h.st.own b ho).1 hb⟩
  have hown' : ∀ b, Owned β' s'.st b → Owned β s.st b ∨ w.heap.size ≤ b := fun b hb => hf.own b hb
  have hpin : ∀ j u, cut m β j = some u → β' j = some u := fun j u e => by
    unfold cut at e
    split at e
    · rename_i hj; rw [h'.pin j hj]; exact e
    · cases e
  refine ⟨fun t => VRel.keep hSk hpin _ _ (belowV_rel _ _ (hbel t) (h.fr t)), h.size, ⟨fun j o hj => ?_, h'.st.nodup, h'.st.apart, fun b hb => ⟨fun hs => ?_, (h'.st.own b hb).2⟩, fun b hb => ?_, h.st.gl.keep hSk⟩, ?_, h'.nx, ?_, fun j hj => ?_, Nat.le_trans hm h'.nxm⟩
  · obtain ⟨v, hv, hr⟩ := h'.st.obj j o hj
    exact ⟨v, hv, hr.keep (fun b hb => ⟨.inr hb, rfl⟩) (fun _ _ e => e) fun _ _ => rfl⟩
  · rcases hs with hs | hs
    · rcases hown' b hb with h2 | h2
      · exact (h.st.own b h2).1 hs
      · have := h.st.inS b hs; omega
    · exact (h'.st.own b hb).1 hs
  · rcases hb with hb | hb
    · exact Nat.lt_of_lt_of_le (h.st.inS b hb) hf.size
    · exact h'.st.inS b hb
  · refine ⟨Nat.le_trans hf0.size hf.size, hf.os.trans hf0.os, hf.tape.trans hf0.tape, hf.output.trans hf0.output, fun b hb hE => ?_, fun b hb => ?_, fun b hb => ?_⟩
    · rw [hext b (Nat.lt_of_lt_of_le hb hf0.size) fun ho => ?_]
      · exact hf0.old b hb hE
      · rcases hf0.own b ho with h' | h'
        · exact hE h'
        · omega
    · rcases hb with hb | hb
      · exact hf0.inS b hb
      · rcases hf.inS b hb with h2 | h2 | h2
        · exact hf0.inS b h2
        · exact .inr (hf0.own b h2)
        · exact .inr (.inr (Nat.le_trans hf0.size h2))
    · rcases hown' b hb with h2 | h2
      · exact hf0.own b h2
      · exact .inr (Nat.le_trans hf0.size h2)
  · exact h.defers.keep fun D hD hS => by
      have hlt : D < w.heap.size := (Array.getElem?_eq_some_iff.1 hD).1
      have hno : ¬ Owned β s.st D := fun ho => by
        obtain ⟨cs, t, hc⟩ := h.st.cells ho
        rw [hD] at hc; cases hc
      refine ⟨(hext D hlt hno).trans hD, fun hs => hs.elim hS fun hs => ?_⟩
      rcases hf.inS D hs with h2 | h2 | h2
      · exact hS h2
      · exact hno h2
      · simp only at h2; omega
  · rw [h'.pin j (Nat.lt_of_lt_of_le hj hm)]
    exact h.pin j hj

/-- The relation begun anew. -/
theorem ARelB.anew (h : ARelB C s β S a w) {m : Nat} (rd : Option Nat) (hm : m ≤ s.nx) (hd : a.defers = []) : ARelB ⟨w, S, Owned β s.st, m, β, rd⟩ s β S a w :=
  ⟨h.fr, h.size, h.st, ⟨Nat.le_refl _, rfl, rfl, rfl, fun _ _ _ => rfl, fun b hb => .inl hb, fun b hb => .inl hb⟩, h.nx, ⟨fun d hd' => by rw [hd] at hd'; simp at hd', by rw [hd]; simp, fun _ => hd⟩, fun _ _ => rfl, hm⟩

/-! ### Iterators -/
/-- WHAT AN ITERATOR DOES: it calls yield n times, number k with 'enc k', unless yield says no; beside that it makes new memory at most. -/
def Iter (P : Program) (g : FuncId) (lb : Array Value) (n : Nat) (enc : Nat → Array Value) (Good : World → Prop) : Prop :=
  ∀ (l : Nat) (J : Nat → World → Prop) (Jx : World → Prop) (W : World),
    (∀ k W W', J k W → W.grownBy W' none → J k W') → (∀ W W', Jx W → W.grownBy W' none → Jx W') → (∀ k W, J k W → Good W) →
    (∀ k W, k < n → J k W → YieldAt (fence none) 0 P l (enc k) W fun e W' => (e = .returned (.bool true) ∧ J (k + 1) W') ∨ (e = .returned (.bool false) ∧ Jx W')) →
    J 0 W → Calls P g (#[.func (.yield l) #[] #[]] ++ lb) W fun e W' => (∃ v, e = .returned v) ∧ (J n W' ∨ Jx W')

structure AIter (P : Program) (g : FuncId) (caps : List D) (n : Nat) (es : Nat → List D) : Prop where
  enters : Enters P g
  run : ∀ w S (lb : Array Value), RepAll w S caps lb.toList → ∃ enc : Nat → Array Value, (∀ k, k < n → VAll w (fun _ => none) S ((es k).map .d) (enc k).toList) ∧ Iter P g lb n enc (fun W => ∀ b, S b → W.heap[b]? = w.heap[b]?)

/-- What a round hands on. -/
structure OutR {ι : Type} (p nx : Nat) (st : ι → List (Nat × Ob)) (φ : ι → Prop) (s : AState) : Prop where
  out : ∃ i l, l.length = nx ∧ φ i ∧ wkB p s.nx l (st i) = true ∧ stIn l s.nx s.st (st i)

def roundQ {ι : Type} (p nx : Nat) (st : ι → List (Nat × Ob)) (φ : ι → Prop) (χ : Exit → ι → Prop) : Exit → AState → Prop
  | .normal, s => OutR p nx st φ s
  | .ret, s => OutR p nx st (χ .ret) s
  | .exit id, s => OutR p nx st (χ (.exit id)) s
  | _, _ => False

/-- The loop's own state between two rounds. -/
structure InLoop (CL : Ctx) (n0 nx : Nat) (sl : List (Nat × AVal)) (stt : List (Nat × Ob)) (tm : Array Value) (D l : Nat) (S : Nat → Prop) (rc : Loop) (W : World) : Prop where
  out : ∃ β' S', W.heap[l]? = some (.loop rc) ∧ W.heap[D]? = some (.deferred (some [])) ∧ ¬ S' D ∧ ¬ S' l ∧ (∀ b, S b → S' b) ∧ ARelB CL ⟨n0, frL sl, stt, nx⟩ β' S' { tmps := tm, defers := [] } W

theorem InLoop.grown {CL : Ctx} {n0 nx : Nat} {sl : List (Nat × AVal)} {stt : List (Nat × Ob)} {tm : Array Value} {D l : Nat} {rc : Loop} {W W' : World} (h : InLoop CL n0 nx sl stt tm D l S rc W) (hg : W.grownBy W' none) :
    InLoop CL n0 nx sl stt tm D l S rc W' := by
  obtain ⟨β', S', h1, h2, h3, h4, h5, h6⟩ := h.out
  exact ⟨β', S', (hg.block l (Array.getElem?_eq_some_iff.1 h1).1 (by simp)).trans h1, (hg.block D (Array.getElem?_eq_some_iff.1 h2).1 (by simp)).trans h2, h3, h4, h5, h6.grown hg (by simp)⟩

theorem frL_params : ∀ {ps : List Tmp} {xs : List AVal} {vs : List Value} {tm : Array Value} {fr : List (Nat × AVal)}, ps.Nodup → (∀ t ∈ ps, t < tm.size) → xs.length = ps.length → VAll w β S xs vs →
    (∀ t, VRel w β S (frL fr t) (tm.getD t undef)) → ∀ t, VRel w β S (frL (ps.zip xs ++ fr) t) (((ps.zip vs).foldl (fun t (x : Tmp × Value) => t.setIfInBounds x.1 x.2) tm).getD t undef)
  | [], xs, vs, tm, fr, _, _, hl, _, hf, t => by simpa using hf t
  | p :: ps, x :: xs, vs, tm, fr, hn, hlt, hl, hv, hf, t => by
    simp only [VAll] at hv
    obtain ⟨v, r, rfl, h1, h2⟩ := hv
    simp only [List.nodup_cons] at hn
    simp only [List.zip_cons_cons, List.foldl_cons, List.cons_append, frL]
    have step := @frL_params ps xs r (tm.setIfInBounds p v) ((p, x) :: fr) hn.2 (fun t ht => by simpa using hlt t (by simp [ht])) (by simpa using hl) h2 (fun t => by
      simp only [frL]
      split
      · rename_i e; subst e
        rw [Array.getD_eq_getD_getElem?, Array.getElem?_setIfInBounds]
        simp [hlt t (by simp), h1]
      · rename_i e
        rw [Array.getD_eq_getD_getElem?, Array.getElem?_setIfInBounds_ne (fun h => e h.symm), ← Array.getD_eq_getD_getElem?]
        exact hf t) t
    split
    · rename_i e; subst e
      have : ∀ (ps : List Tmp) (xs : List AVal) (fr : List (Nat × AVal)), t ∉ ps → frL (ps.zip xs ++ fr) t = frL fr t := fun ps => by
        induction ps with
        | nil => intro xs fr _; simp
        | cons q ps ih =>
          intro xs fr hq
          cases xs with
          | nil => simp
          | cons y ys =>
            simp only [List.mem_cons, not_or] at hq
            simp only [List.zip_cons_cons, List.cons_append, frL, if_neg hq.1]
            exact ih ys fr hq.2
      rw [this ps xs _ hn.1] at step
      simpa [frL] using step
    · rename_i e
      have : ∀ (ps : List Tmp) (xs : List AVal), frL (ps.zip xs ++ (p, x) :: fr) t = frL (ps.zip xs ++ fr) t := fun ps => by
        induction ps with
        | nil => intro xs; simp [frL, e]
        | cons q ps ih =>
          intro xs
          cases xs with
          | nil => simp [frL, e]
          | cons y ys => simp only [List.zip_cons_cons, List.cons_append, frL]; rw [ih ys]
      rw [this] at step
      exact step
  | p :: ps, [], vs, tm, fr, _, _, hl, _, _, t => by simp at hl

theorem foldl_size : ∀ (l : List (Tmp × Value)) (tm : Array Value), (l.foldl (fun t (x : Tmp × Value) => t.setIfInBounds x.1 x.2) tm).size = tm.size
  | [], tm => rfl
  | x :: l, tm => by simp only [List.foldl_cons]; rw [foldl_size l]; simp

end

def pend : Exit → Option Code
  | .ret => some .ret
  | .exit id => some (.exit id)
  | _ => none

section
variable {P : Program} {C : Ctx} {s : AState} {T : Told} {β : Nat → Option Value} {S : Nat → Prop} {a : Act} {w : World}

theorem grown_put (W : World) (l : Nat) (o : Obj) : W.grownBy (W.putObj l o) (some l) :=
  ⟨rfl, rfl, rfl, by simp, fun k _ hk => World.putObj_heap_other (fun e => hk (by rw [e]))⟩

theorem not_owned_of {st : List (Nat × Ob)} (h : SRel w β S st) {l : Nat} {o : Obj} (hl : w.heap[l]? = some o) (ho : ∀ cs t f, o ≠ .cells cs t f) : ¬ Owned β st l := fun hb => by
  obtain ⟨cs, t, hc⟩ := h.cells hb
  rw [hl] at hc
  injection hc with hc
  exact ho _ _ _ hc

/-- THE LAW. -/
theorem AWp.rangeFunc {ι : Type} {g : Operand} {ps : Array Tmp} {assign body : Code} {Q : Exit → AState → Prop} (T : Told) {gf : FuncId} {caps : List D} {n : Nat} {es : Nat → List D} (hit : AIter P gf caps n es)
    (sl : List (Nat × AVal)) (st : ι → List (Nat × Ob)) (n0 nx p : Nat) (φ : Nat → ι → Prop) (χ : Exit → ι → Prop)
    (hrd : C.rd = none) (hgc : constOk P 0 g) (hg : aev P s 0 g = .d (.fn gf caps)) (hes : ∀ k, k < n → (es k).length = ps.size) (hps : ps.toList.all (fun t => decide (t < n0)) = true) (hnd : nodupB ps.toList = true)
    (hp : C.m ≤ p) (hpx : p ≤ nx) (hsl : belowS p sl = true) (h0 : ∃ i l, l.length = nx ∧ φ 0 i ∧ Wk C.m s n0 sl (st i) l)
    (round : ∀ k i, k < n → φ k i → ∀ w0 S0 E0 B0 r, awp P ⟨w0, S0, E0, p, B0, some r⟩ T assign ⟨n0, frL (ps.toList.zip ((es k).map .d) ++ sl), st i, nx⟩
      (thenQ (fun s1 => ∀ w0 S0 E0 B0, awp P ⟨w0, S0, E0, p, B0, some r⟩ T body s1 (roundQ p nx st (φ (k + 1)) χ)) fun _ _ => False))
    (done : ∀ i, φ n i → Q .normal ⟨n0, frL sl, st i, nx⟩) (hret : ∀ i, χ .ret i → Q .ret ⟨n0, frL sl, st i, nx⟩) (hexit : ∀ id i, χ (.exit id) i → Q (.exit id) ⟨n0, frL sl, st i, nx⟩) :
    AWp P C (.rangeFunc g ps assign body) s Q := by
  refine ⟨fun a w ⟨β0, S, h⟩ => ?_⟩
  obtain ⟨i0, l0, hl0, hφ0, hw⟩ := h0
  obtain ⟨β, hB⟩ : ∃ β, ARelB C ⟨n0, frL sl, st i0, nx⟩ β S a w := ⟨_, by have := hw.relB h; rwa [hl0] at this⟩
  have hgv := aev_rel h hgc
  rw [hg] at hgv
  simp only [VRel, Rep] at hgv
  obtain ⟨cs, ⟨lb, rfl, hlb⟩, hgv⟩ := hgv
  replace hgv : a.eval g = .func (.func gf) #[] lb := hgv
  obtain ⟨enc, henc, hiter⟩ := hit.run w S lb hlb
  have hencs : ∀ k, k < n → (enc k).size = ps.size := fun k hk => by
    have := VAll.length _ _ (henc k hk)
    simpa [hes k hk] using this
  have hpl : ∀ t ∈ ps.toList, t < n0 := fun t ht => by simpa using List.all_eq_true.1 hps t ht
  rw [hrd]
  obtain ⟨CL, hCL⟩ : ∃ CL : Ctx, CL = ⟨w, S, Owned β (st i0), p, β, none⟩ := ⟨_, rfl⟩
  have hBL : ARelB CL ⟨n0, frL sl, st i0, nx⟩ β S { tmps := a.tmps, defers := [] } w := by
    rw [hCL]
    exact ⟨hB.fr, hB.size, hB.st, ⟨Nat.le_refl _, rfl, rfl, rfl, fun _ _ _ => rfl, fun b hb => .inl hb, fun b hb => .inl hb⟩, hB.nx, ⟨fun d hd => by simp at hd, by simp, fun _ => rfl⟩, fun _ _ => rfl, hpx⟩
  have hm : CL.m = p := by rw [hCL]
  have hw0 : CL.w0 = w := by rw [hCL]
  refine wpIn_rangeFunc fun fn hfn => ?_
  obtain ⟨rc, hrc⟩ : ∃ rc : LoopState → Option Code → Loop, rc = fun st pe => { state := st, pending := pe, fn, tmps := a.tmps, params := ps, assign, body, defers := w.heap.size } := ⟨_, rfl⟩
  obtain ⟨W1, hW1⟩ : ∃ W1, (w.alloc (.deferred (some []))).alloc (.loop (rc .ready none)) = W1 := ⟨_, rfl⟩
  have hL1 : W1.heap[w.heap.size + 1]? = some (.loop (rc .ready none)) := by
    rw [← hW1]; have := World.alloc_heap_new (w.alloc (.deferred (some []))) (.loop (rc .ready none)); rwa [World.size_alloc] at this
  have hK1 : W1.heap[w.heap.size]? = some (.deferred (some [])) := by
    rw [← hW1]; exact (Below.heap_alloc _ _ _ (by simp)).trans (World.alloc_heap_new w _)
  have hSlt : ∀ b, S b → b < w.heap.size := hB.st.inS
  have hIn1 : InLoop CL n0 nx sl (st i0) a.tmps w.heap.size (w.heap.size + 1) S (rc .ready none) W1 := by
    refine ⟨β, S, hL1, hK1, fun hs => ?_, fun hs => ?_, fun _ h => h, ?_⟩
    · have := hSlt _ hs; omega
    · have := hSlt _ hs; omega
    · rw [← hW1]; exact (hBL.grown (grown_alloc _ _) (by simp)).grown (grown_alloc _ _) (by simp)
  refine ⟨w.heap.size + 1, [{ target := .collected w.heap.size, args := #[] }], W1, { target := .fn (.func gf) lb, args := #[.func (.yield (w.heap.size + 1)) #[] #[]] }, W1, gf,
    #[.func (.yield (w.heap.size + 1)) #[] #[]] ++ lb, W1, ?_, ?_, fun _ _ => trivial, ?_, fun h => by simp [fence, Fence.wide] at h, ?_⟩
  · rw [← hW1, hrc]; exact run_enterLoop_outer _ _ _ _ _
  · simp only [resolve, hgv]
    simp [go_sem]
  · simp [invoke, go_sem, callFunc_enters hit.enters]
  refine callsIn_fence.2 (Calls.mono (hiter (w.heap.size + 1) (fun k W => ∃ i, φ k i ∧ InLoop CL n0 nx sl (st i) a.tmps w.heap.size (w.heap.size + 1) S (rc .ready none) W)
    (fun W => ∃ e c i, pend e = some c ∧ χ e i ∧ InLoop CL n0 nx sl (st i) a.tmps w.heap.size (w.heap.size + 1) S (rc .done (some c)) W) W1
    (fun k W W' ⟨i, h1, h2⟩ hg => ⟨i, h1, h2.grown hg⟩) (fun W W' ⟨e, c, i, h1, h2, h3⟩ hg => ⟨e, c, i, h1, h2, h3.grown hg⟩) ?_ ?_ ⟨i0, hφ0, hIn1⟩) ?_)
  · rintro k W ⟨i, h1, h2⟩ b hb
    obtain ⟨β', S', _, _, _, _, _, h6⟩ := h2.out
    have := h6.frame.old b (by rw [hw0]; exact hSlt b hb) (by rw [hCL]; exact fun ho => (hB.st.own b ho).1 hb)
    rw [hw0] at this
    exact this
  · -- one round
    rintro k W hk ⟨i, hφ, hin⟩
    obtain ⟨β1, S1, hl, hD, hnD, hnl, hSS, h1⟩ := hin.out
    have hllt : w.heap.size + 1 < W.heap.size := (Array.getElem?_eq_some_iff.1 hl).1
    have hDlt : w.heap.size < W.heap.size := (Array.getElem?_eq_some_iff.1 hD).1
    refine ⟨fn, _, assign, body, by have := run_yield (P := P) (args := enc k) hl (by rw [hrc]; exact hencs k hk); rw [hrc] at this; exact this, roundIn_of_wpIn hfn ?_⟩
    have hno1 : ¬ Owned β1 (st i) (w.heap.size + 1) := not_owned_of h1.st hl (by simp)
    have hnoD1 : ¬ Owned β1 (st i) w.heap.size := not_owned_of h1.st hD (by simp)
    have hencW : VAll W β1 S1 ((es k).map .d) (enc k).toList := by
      refine VAll.keep (fun b hb => ⟨hSS b hb, ?_⟩) (fun j u e => by cases e) _ _ (henc k hk)
      have := h1.frame.old b (by rw [hw0]; exact hSlt b hb) (by rw [hCL]; exact fun ho => (hB.st.own b ho).1 hb)
      rw [hw0] at this
      exact this
    have hsz : a.tmps.size = n0 := hB.size
    have hA : ARelB ⟨W, S1, Owned β1 (st i), p, β1, some (w.heap.size + 1)⟩ ⟨n0, frL (ps.toList.zip ((es k).map .d) ++ sl), st i, nx⟩ β1 S1
        { tmps := (ps.zip (enc k)).foldl (fun t (p, v) => t.setIfInBounds p v) a.tmps, defers := [] } W := by
      have e : (ps.zip (enc k)).foldl (fun t (x : Tmp × Value) => t.setIfInBounds x.1 x.2) a.tmps = (ps.toList.zip (enc k).toList).foldl (fun t (x : Tmp × Value) => t.setIfInBounds x.1 x.2) a.tmps := by
        rw [← Array.foldl_toList, Array.toList_zip]
      refine ⟨fun t => ?_, ?_, h1.st, ⟨Nat.le_refl _, rfl, rfl, rfl, fun _ _ _ => rfl, fun b hb => .inl hb, fun b hb => .inl hb⟩, h1.nx, ⟨fun d hd => by simp at hd, by simp, fun _ => rfl⟩, fun _ _ => rfl, hpx⟩
      · show VRel W β1 S1 _ (((ps.zip (enc k)).foldl (fun t (x : Tmp × Value) => t.setIfInBounds x.1 x.2) a.tmps).getD t undef)
        rw [e]
        exact frL_params (nodupB_spec hnd) (fun t ht => by rw [hsz]; exact hpl t ht) (by simp [hes k hk]) hencW h1.fr t
      · show ((ps.zip (enc k)).foldl (fun t (x : Tmp × Value) => t.setIfInBounds x.1 x.2) a.tmps).size = n0
        rw [e, foldl_size]; exact hsz
    refine wpIn_mono (awp_sound (C := ⟨W, S1, Owned β1 (st i), p, β1, some (w.heap.size + 1)⟩) assign ⟨β1, S1, hA⟩ (round k i hk hφ _ _ _ _ _)) ?_
    rintro e a1 W2 ⟨s1, ⟨β2, S2, h2⟩, hq⟩
    cases e <;> simp only [thenQ] at hq
    have h12 := h1.seg (by rw [hm]; exact Nat.le_refl _) (belowS_fr hsl) h2
    have hl2 : W2.heap[w.heap.size + 1]? = some (.loop (rc .ready none)) := (h2.frame.old _ hllt hno1).trans hl
    have hD2 : W2.heap[w.heap.size]? = some (.deferred (some [])) := (h2.frame.old _ hDlt hnoD1).trans hD
    have nS2 : ∀ b, b < W.heap.size → ¬ Owned β1 (st i) b → ¬ S1 b → ¬ (S1 b ∨ S2 b) := fun b hb ho hs hh => by
      rcases hh with hh | hh
      · exact hs hh
      · rcases h2.frame.inS b hh with h | h | h
        · exact hs h
        · exact ho h
        · simp only at h; omega
    have hnl2 := nS2 _ hllt hno1 hnl
    have hnD2 := nS2 _ hDlt hnoD1 hnD
    have hno2 : ¬ Owned β2 s1.st (w.heap.size + 1) := not_owned_of h2.st hl2 (by simp)
    refine ⟨_, run_beginRound hl2 (by rw [hrc]), ?_⟩
    obtain ⟨W3, hW3⟩ : ∃ W3, W2.putObj (w.heap.size + 1) (.loop { rc .ready none with state := .busy }) = W3 := ⟨_, rfl⟩
    rw [hW3]
    have hl3 : W3.heap[w.heap.size + 1]? = some (.loop { rc .ready none with state := .busy }) := by rw [← hW3]; exact World.putObj_heap_same (Array.getElem?_eq_some_iff.1 hl2).1
    have hD3 : W3.heap[w.heap.size]? = some (.deferred (some [])) := by rw [← hW3]; exact (World.putObj_heap_other (by omega)).trans hD2
    have h3 : ARelB CL ⟨n0, frL sl, s1.st, s1.nx⟩ β2 (fun b => S1 b ∨ S2 b) { tmps := a.tmps, defers := [] } W3 := by
      rw [← hW3]
      exact h12.grown (grown_put _ _ _) fun g e => by cases e; exact ⟨hnl2, hno2, by rw [hw0]; omega, rfl⟩
    have h2' : ARelB ⟨W3, (fun b => S1 b ∨ S2 b), Owned β2 s1.st, p, β2, some (w.heap.size + 1)⟩ s1 β2 (fun b => S1 b ∨ S2 b) a1 W3 := by
      have hd := h2.defers.2.2 (by simp)
      refine ⟨fun t => VRel.keep (fun b hb => ⟨.inr hb, ?_⟩) (fun _ _ e => e) _ _ (h2.fr t), h2.size, h3.st, ⟨Nat.le_refl _, rfl, rfl, rfl, fun _ _ _ => rfl, fun b hb => .inl hb, fun b hb => .inl hb⟩, h2.nx, ⟨fun d hd' => by rw [hd] at hd'; simp at hd', by rw [hd]; simp, fun _ => hd⟩, fun _ _ => rfl, h2.nxm⟩
      rw [← hW3]
      exact World.putObj_heap_other fun e => hnl2 (.inr (e ▸ hb))
    refine wpIn_mono (awp_sound (C := ⟨W3, (fun b => S1 b ∨ S2 b), Owned β2 s1.st, p, β2, some (w.heap.size + 1)⟩) body ⟨β2, _, h2'⟩ (hq _ _ _ _)) ?_
    rintro e a3 W4 ⟨s3, ⟨β3, S3, h4⟩, hq4⟩
    have h34 := h3.seg (by rw [hm]; exact Nat.le_refl _) (belowS_fr hsl) h4
    have hl3lt : w.heap.size + 1 < W3.heap.size := (Array.getElem?_eq_some_iff.1 hl3).1
    have hno3 : ¬ Owned β2 s1.st (w.heap.size + 1) := hno2
    have hnoD3 : ¬ Owned β2 s1.st w.heap.size := not_owned_of h2.st hD2 (by simp)
    have hl4 : W4.heap[w.heap.size + 1]? = some (.loop { rc .ready none with state := .busy }) := (h4.frame.old _ hl3lt hno3).trans hl3
    have hD4 : W4.heap[w.heap.size]? = some (.deferred (some [])) := (h4.frame.old _ (by simp only; omega) hnoD3).trans hD3
    have nS4 : ∀ b, b < W3.heap.size → ¬ Owned β2 s1.st b → ¬ (S1 b ∨ S2 b) → ¬ ((S1 b ∨ S2 b) ∨ S3 b) := fun b hb ho hs hh => by
      rcases hh with hh | hh
      · exact hs hh
      · rcases h4.frame.inS b hh with h | h | h
        · exact hs h
        · exact ho h
        · simp only at h; omega
    have hnl4 := nS4 _ hl3lt hno3 hnl2
    have hnD4 := nS4 _ (by omega) hnoD3 hnD2
    have hno4 : ¬ Owned β3 s3.st (w.heap.size + 1) := not_owned_of h4.st hl4 (by simp)
    have fin : ∀ (jump : Option Code) (φ' : ι → Prop), OutR p nx st φ' s3 → ∃ i', φ' i' ∧
        (Instr.endRound (w.heap.size + 1) jump).run P W4 = .ok (.bool jump.isNone) (W4.putObj (w.heap.size + 1) (.loop (rc (if jump.isNone then .ready else .done) jump))) ∧
        InLoop CL n0 nx sl (st i') a.tmps w.heap.size (w.heap.size + 1) S (rc (if jump.isNone then .ready else .done) jump) (W4.putObj (w.heap.size + 1) (.loop (rc (if jump.isNone then .ready else .done) jump))) := fun jump φ' ⟨i', l', hl', hφ', hok, hst⟩ => by
      refine ⟨i', hφ', ?_, ?_⟩
      · have := run_endRound (P := P) jump hl4
        rw [hrc] at this ⊢
        exact this
      · have h5 := h34.grown (grown_put W4 (w.heap.size + 1) (.loop (rc (if jump.isNone then .ready else .done) jump))) fun g e => by cases e; exact ⟨hnl4, hno4, by rw [hw0]; omega, rfl⟩
        have h6 := h5.ren (l := l') (st := st i') (fr := frL sl) (by rw [hm]; exact hok) hst fun t => by
          refine VRel.keep (fun b hb => ⟨hb, rfl⟩) (fun j u e => ?_) _ _ (belowV_rel _ _ (belowS_fr hsl t) (h5.fr t))
          unfold cut at e
          split at e
          · rename_i hj
            have hpin := (wkB_spec hok).2.2.1 j hj
            have e2 : rho l' s3.nx j = j := by unfold rho; rw [hpin]
            show β3 (rho l' s3.nx j) = some u
            rw [e2]; exact e
          · cases e
        rw [hl'] at h6
        refine ⟨_, _, World.putObj_heap_same (Array.getElem?_eq_some_iff.1 hl4).1, (World.putObj_heap_other (by omega)).trans hD4, hnD4, hnl4, fun b hb => .inl (.inl (hSS b hb)), h6⟩
    cases e <;> simp only [roundQ] at hq4
    case normal =>
      obtain ⟨i', h7, h8, h9⟩ := fin none _ hq4
      exact ⟨_, _, h8, .inl ⟨rfl, i', h7, h9⟩⟩
    case ret =>
      obtain ⟨i', h7, h8, h9⟩ := fin (some .ret) _ hq4
      exact ⟨_, _, h8, .inr ⟨rfl, .ret, .ret, i', rfl, h7, h9⟩⟩
    case exit id =>
      obtain ⟨i', h7, h8, h9⟩ := fin (some (.exit id)) _ hq4
      exact ⟨_, _, h8, .inr ⟨rfl, .exit id, .exit id, i', rfl, h7, h9⟩⟩
  · -- behind the iterator
    have fin : ∀ (i : ι) (r : Loop) (W : World) (o : Obj), InLoop CL n0 nx sl (st i) a.tmps w.heap.size (w.heap.size + 1) S r W →
        ARel C ⟨n0, frL sl, st i, nx⟩ { a with defers := [{ target := .collected w.heap.size, args := #[] }] ++ a.defers } (W.putObj (w.heap.size + 1) o) := fun i r W o hin => by
      obtain ⟨β', S', hl, hD, hnD, hnl, hSS, h1⟩ := hin.out
      have hno : ¬ Owned β' (st i) (w.heap.size + 1) := not_owned_of h1.st hl (by simp)
      have h5 := h1.grown (grown_put W (w.heap.size + 1) o) fun g e => by cases e; exact ⟨hnl, hno, by rw [hw0]; omega, rfl⟩
      rw [hCL] at h5
      have h6 := hB.seg hp (belowS_fr hsl) h5
      refine ⟨β', _, h6.fr, h6.size, h6.st, h6.frame, h6.nx, ⟨fun d hd => ?_, ?_, fun hr => (hr hrd).elim⟩, h6.pin, h6.nxm⟩
      · rcases List.mem_append.1 hd with hd | hd
        · simp only [List.mem_singleton] at hd
          subst hd
          refine ⟨_, rfl, (World.putObj_heap_other (by omega)).trans hD, fun hs => ?_, hB.frame.size⟩
          rcases hs with hs | hs
          · have := hSlt _ hs; omega
          · exact hnD hs
        · exact h6.defers.1 d hd
      · simp only [List.singleton_append, List.nodup_cons]
        refine ⟨fun hm => ?_, h6.defers.2.1⟩
        obtain ⟨D, e, hD', _⟩ := hB.defers.1 _ hm
        have : D = w.heap.size := by simpa using e.symm
        subst this
        have := (Array.getElem?_eq_some_iff.1 hD').1
        omega
    rintro e W ⟨⟨v, rfl⟩, (⟨i, hφ, hin⟩ | ⟨e, c, i, hc, hχ, hin⟩)⟩
    · obtain ⟨_, _, hl, _⟩ := hin.out
      exact ⟨none, _, by have := run_endLoop (P := P) hl (by rw [hrc]; simp); rw [hrc] at this; exact this, _, fin i _ _ _ hin, done i hφ⟩
    · obtain ⟨_, _, hl, _⟩ := hin.out
      refine ⟨some c, _, by have := run_endLoop (P := P) hl (by rw [hrc]; simp); rw [hrc] at this; exact this, ?_⟩
      cases e <;> simp only [pend] at hc <;> first | (cases hc; done) | skip
      · injection hc with hc; subst hc
        exact wpIn_exit ⟨_, fin i _ _ _ hin, hexit _ i hχ⟩
      · injection hc with hc; subst hc
        exact wpIn_ret ⟨_, fin i _ _ _ hin, hret i hχ⟩

end

section
variable {P : Program} {b : Frame} {a : Act} {k : List Item} {cs : List Frame} {w : World} {F : Fence} {n : Nat} {Q : Exit → Act → World → Prop}

theorem stepR_scope' {c : Code} : step P (lone (b.atR a (.code (.scope c) :: k)) cs w) = .next (lone (b.atR a (.code c :: .inScope c :: k)) cs w) :=
  step_lone_go (by simp [stepG, stepG.exec, Frame.atR])
theorem stepR_inScope' {c : Code} : step P (lone (b.atR a (.inScope c :: k)) cs w) = .next (lone (b.atR a k) cs w) :=
  step_lone_go (by simp [stepG, stepG.exec, Frame.atR])

def gotoPost (L : Nat) (N : Act → World → Prop) (Q : Exit → Act → World → Prop) : Exit → Act → World → Prop
  | .goto l, a, w => l = L ∧ N a w
  | .normal, a, w => Q .normal a w
  | .exit i, a, w => Q (.exit i) a w
  | .ret, a, w => Q .ret a w
  | .panic c, a, w => Q (.panic c) a w
  | .outgrown, a, w => Q .outgrown a w

theorem wpIn_scope {c rest : Code} {L : Nat} (hf : findLabel c L = some rest) (I : Nat → Act → World → Prop) (h0 : c.wpIn F n P (gotoPost L (fun a w => ∃ m, I m a w) Q) a w)
    (round : ∀ m a w, I m a w → rest.wpIn F n P (gotoPost L (fun a w => ∃ m', m' < m ∧ I m' a w) Q) a w) : (Code.scope c).wpIn F n P Q a w := by
  intro b k cs hro hb hr
  have fin : ∀ {M : Machine} {e : Exit} {a1 : Act} {w1 : World} {N : Act → World → Prop}, gotoPost L N Q e a1 w1 → ArrivesIn (Machine.fenced P F) P M b (.inScope c :: k) cs e a1 w1 →
      (Q e a1 w1 ∧ ArrivesIn (Machine.fenced P F) P M b k cs e a1 w1) ∨ (N a1 w1 ∧ StepsIn (Machine.fenced P F) P M (lone (b.atR a1 (.code rest :: .inScope c :: k)) cs w1)) := fun {M e a1 w1 N} hq harr => by
    cases e with
    | normal => exact .inl ⟨hq, StepsIn.trans harr (.one (fenced_calm (n := n) hb hr rfl) stepR_inScope')⟩
    | exit id => exact .inl ⟨hq, fun k' hk => harr.1 k' (by simpa [exitTo] using hk), fun hr' hk => harr.2 hr' (by simpa [exitTo] using hk)⟩
    | goto l =>
      obtain ⟨rfl, hN⟩ := hq
      exact .inr ⟨hN, harr.1 _ (by simp [gotoIn, hf])⟩
    | ret => exact .inl ⟨hq, harr⟩
    | panic ch => exact .inl ⟨hq, harr⟩
    | outgrown => exact .inl ⟨hq, harr⟩
  have key : ∀ m a w, I m a w → ∃ e a' w', Q e a' w' ∧ ArrivesIn (Machine.fenced P F) P (lone (b.atR a (.code rest :: .inScope c :: k)) cs w) b k cs e a' w' := by
    intro m
    induction m using Nat.strongRecOn with
    | _ m ih =>
      intro a w hI
      obtain ⟨e, a1, w1, hq, harr⟩ := round m a w hI b (.inScope c :: k) cs hro hb hr
      rcases fin hq harr with ⟨h1, h2⟩ | ⟨⟨m', hlt, hI'⟩, hs⟩
      · exact ⟨e, a1, w1, h1, h2⟩
      · obtain ⟨e2, a2, w2, hq2, harr2⟩ := ih m' hlt a1 w1 hI'
        exact ⟨e2, a2, w2, hq2, .of_steps hs harr2⟩
  have hs0 : StepsIn (Machine.fenced P F) P (lone (b.atR a (.code (.scope c) :: k)) cs w) (lone (b.atR a (.code c :: .inScope c :: k)) cs w) := .one (fenced_calm (n := n) hb hr rfl) stepR_scope'
  obtain ⟨e, a1, w1, hq, harr⟩ := h0 b (.inScope c :: k) cs hro hb hr
  rcases fin hq harr with ⟨h1, h2⟩ | ⟨⟨m', hI'⟩, hs⟩
  · exact ⟨e, a1, w1, h1, .of_steps hs0 h2⟩
  · obtain ⟨e2, a2, w2, hq2, harr2⟩ := key m' a1 w1 hI'
    exact ⟨e2, a2, w2, hq2, .of_steps hs0 (.of_steps hs harr2)⟩
end

/-- The end of a stretch within a scope. -/
def scopeQ (L : Nat) (N : AState → Prop) (Q : Exit → AState → Prop) : Exit → AState → Prop
  | .goto l, s => (l == L) = true ∧ N s
  | .normal, s => Q .normal s
  | .exit i, s => Q (.exit i) s
  | .ret, s => Q .ret s
  | .panic c, s => Q (.panic c) s
  | .outgrown, s => Q .outgrown s

structure Begin {ι : Type} (m n nx : Nat) (sl : ι → List (Nat × AVal)) (st : ι → List (Nat × Ob)) (φ : ι → Prop) (s' : AState) : Prop where
  out : ∃ i' l, φ i' ∧ l.length = nx ∧ Wk m s' n (sl i') (st i') l

section
variable {P : Program} {C : Ctx} {s : AState} {T : Told}

/-- A SCOPE WITH ONE LABEL, to which one jumps back. -/
theorem AWp.scope {ι : Type} {c rest : Code} {L : Nat} {Q : Exit → AState → Prop} (hf : findLabel c L = some rest) (sl : ι → List (Nat × AVal)) (st : ι → List (Nat × Ob)) (n0 nx : Nat) (μ : ι → Nat) (φ : ι → Prop)
    (start : awp P C T c s (scopeQ L (Begin C.m n0 nx sl st φ) Q))
    (round : ∀ i, φ i → awp P C T rest ⟨n0, frL (sl i), st i, nx⟩ (scopeQ L (Again C.m n0 nx sl st (μ i) μ φ) Q)) : AWp P C (.scope c) s Q := by
  refine ⟨fun a w h => ?_⟩
  have conv : ∀ {N : AState → Prop} {N' : Act → World → Prop} {e : Exit} {a' : Act} {w' : World} {s' : AState}, (∀ s a w, ARel C s a w → N s → N' a w) → ARel C s' a' w' → scopeQ L N Q e s' →
      gotoPost L N' (fun e a' w' => ∃ s', ARel C s' a' w' ∧ Q e s') e a' w' := fun {N N' e a' w' s'} hN hr hq => by
    cases e <;> simp only [scopeQ] at hq
    case goto l => exact ⟨by simpa using hq.1, hN _ _ _ hr hq.2⟩
    all_goals exact ⟨s', hr, hq⟩
  refine wpIn_scope hf (fun m a w => ∃ i, m = μ i ∧ φ i ∧ ARel C ⟨n0, frL (sl i), st i, nx⟩ a w) (wpIn_mono (awp_sound c h start) fun e a' w' ⟨s', h1, h2⟩ => conv (fun s a w hr ⟨i, l, hφ, hl, hw⟩ => ⟨μ i, i, rfl, hφ, by rw [← hl]; exact hw.rel hr⟩) h1 h2)
    fun m a w ⟨i, hm, hφ, hr⟩ => wpIn_mono (awp_sound rest hr (round i hφ)) fun e a' w' ⟨s', h1, h2⟩ => conv (fun s a w hr ⟨i', l, hlt, hφ', hl, hw⟩ => ⟨μ i', by rw [hm]; exact hlt, i', rfl, hφ', by rw [← hl]; exact hw.rel hr⟩) h1 h2
end

theorem pickT {b : Bool} {A B : Prop} (h : b = true) (ha : A) : (b = true → A) ∧ (b = false → B) := ⟨fun _ => ha, fun e => by rw [h] at e; cases e⟩
theorem pickF {b : Bool} {A B : Prop} (h : b = false) (hb : B) : (b = true → A) ∧ (b = false → B) := ⟨fun e => (by rw [h] at e; cases e), fun _ => hb⟩
theorem pickT2 {b : Bool} {A B : Prop} (h : b = true) (hb : B) : (b = false → A) ∧ (b = true → B) := ⟨fun e => (by rw [h] at e; cases e), fun _ => hb⟩
theorem pickF2 {b : Bool} {A B : Prop} (h : b = false) (ha : A) : (b = false → A) ∧ (b = true → B) := ⟨fun _ => ha, fun e => by rw [h] at e; cases e⟩
theorem splitB {b : Bool} {A B : Prop} (ha : b = true → A) (hb : b = false → B) : (b = true → A) ∧ (b = false → B) := ⟨ha, hb⟩
theorem splitB2 {b : Bool} {A B : Prop} (ha : b = false → A) (hb : b = true → B) : (b = false → A) ∧ (b = true → B) := ⟨ha, hb⟩
theorem dT {p : Prop} [Decidable p] (h : p) : decide p = true := decide_eq_true h
theorem dF {p : Prop} [Decidable p] (h : ¬ p) : decide p = false := decide_eq_false h
theorem nT {p : Prop} [Decidable p] (h : ¬ p) : (!decide p) = true := by rw [decide_eq_false h]; rfl
theorem nF {p : Prop} [Decidable p] (h : p) : (!decide p) = false := by rw [decide_eq_true h]; rfl
theorem nbT {b : Bool} (h : b = false) : (!b) = true := by rw [h]; rfl
theorem nbF {b : Bool} (h : b = true) : (!b) = false := by rw [h]; rfl

/-! ### Steps of the walk: what decides a test is tried where the step is taken -/
section
variable {b : Bool} {p A B : Prop}
theorem gT (ha : A) (h : b = true := by first | assumption | exact dT (by first | assumption | omega) | exact nT (by first | assumption | omega) | exact nbT (by assumption) | rfl) : (b = true → A) ∧ (b = false → B) := pickT h ha
theorem gU (hb : B) (h : b = true := by first | assumption | exact dT (by first | assumption | omega) | exact nT (by first | assumption | omega) | exact nbT (by assumption) | rfl) : (b = false → A) ∧ (b = true → B) := pickT2 h hb
theorem gF (hb : B) (h : b = false := by first | assumption | exact dF (by first | assumption | omega) | exact nF (by first | assumption | omega) | exact nbF (by assumption) | rfl) : (b = true → A) ∧ (b = false → B) := pickF h hb
theorem gV (ha : A) (h : b = false := by first | assumption | exact dF (by first | assumption | omega) | exact nF (by first | assumption | omega) | exact nbF (by assumption) | rfl) : (b = false → A) ∧ (b = true → B) := pickF2 h ha
theorem nTt (ha : A) (h : b = true := by first | assumption | exact dT (by assumption) | exact nT (by assumption) | exact nbT (by assumption) | rfl) : (b = true → A) ∧ (b = false → B) := pickT h ha
theorem nU (hb : B) (h : b = true := by first | assumption | exact dT (by assumption) | exact nT (by assumption) | exact nbT (by assumption) | rfl) : (b = false → A) ∧ (b = true → B) := pickT2 h hb
theorem nFf (hb : B) (h : b = false := by first | assumption | exact dF (by assumption) | exact nF (by assumption) | exact nbF (by assumption) | rfl) : (b = true → A) ∧ (b = false → B) := pickF h hb
theorem nV (ha : A) (h : b = false := by first | assumption | exact dF (by assumption) | exact nF (by assumption) | exact nbF (by assumption) | rfl) : (b = false → A) ∧ (b = true → B) := pickF2 h ha
theorem gD [Decidable p] (ha : p → A) (hb : ¬ p → B) : (decide p = true → A) ∧ (decide p = false → B) := ⟨fun h => ha (of_decide_eq_true h), fun h => hb (of_decide_eq_false h)⟩
theorem gE [Decidable p] (ha : ¬ p → A) (hb : p → B) : ((!decide p) = true → A) ∧ ((!decide p) = false → B) := ⟨fun h => ha (by simpa using h), fun h => hb (by simpa using h)⟩
theorem gI [Decidable p] (ha : ¬ p → A) (hb : p → B) : (decide p = false → A) ∧ (decide p = true → B) := ⟨fun h => ha (of_decide_eq_false h), fun h => hb (of_decide_eq_true h)⟩
theorem gJ [Decidable p] (ha : p → A) (hb : ¬ p → B) : ((!decide p) = false → A) ∧ ((!decide p) = true → B) := ⟨fun h => ha (by simpa using h), fun h => hb (by simpa using h)⟩
theorem gK (ha : b = false → A) (hb : b = true → B) : ((!b) = true → A) ∧ ((!b) = false → B) := ⟨fun h => ha (by simpa using h), fun h => hb (by simpa using h)⟩
theorem gL (ha : b = true → A) (hb : b = false → B) : ((!b) = false → A) ∧ ((!b) = true → B) := ⟨fun h => ha (by simpa using h), fun h => hb (by simpa using h)⟩
theorem gA (hb : B) (ha : A := by first | rfl | decide | assumption | omega | decide +kernel | exact ⟨rfl, rfl⟩ | exact ⟨rfl, rfl, rfl, rfl⟩ | exact fun h => Bool.noConfusion h | exact fun _ => rfl | exact Nat.le_of_ble_eq_true rfl | (simp only [List.length_map, List.length_append, List.length_replicate, List.length_take, List.length_drop, List.length_set, List.length_cons, List.length_nil]; omega)) : A ∧ B := ⟨ha, hb⟩
end

end Go.Proofs.YtniaeiikdgbnfaaDoor.AW
namespace Go.Proofs.YtniaeiikdgbnfaaDoor.AW
open Go Go.RowKit
set_option linter.unusedSectionVars false
variable [Globs]
variable {P : Program} {C : Ctx} {s : AState}

theorem run_append_zeros (w : World) (t t2 ty e : TypeId) (i : TypeInfo) (z : Value) (k2 : IntKind) (ht : P.underlying t = some (.slice e)) (ht2 : P.underlying t2 = some (.int k2)) (hi : P.info? e = some i) (hz : i.zero = some z)
    (n : Nat) (h0 : 0 < n) (h63 : (n : Int) ≤ 9223372036854775807) (h48 : n * i.bytes ≤ 281474976710656) (hs : i.size = 1) :
    (Builtin.append_ #[t, t2] ty #[.slice none 0 0, .int .i64 n]).run P w =
      .ok (.slice (some ⟨w.heap.size, 0, none⟩) n (grownCap w n 0 e)) (w.drew.alloc (.cells (Builtin.zeroCells z.cells n ++ Builtin.zeroCells z.cells (grownCap w n 0 e - n)) e)) := by
  have hn : n ≠ 0 := by omega
  have h63' : ¬ (9223372036854775807 < (n : Int)) := by omega
  have h48' : ¬ (281474976710656 < Builtin.nextslicecap n 0 * i.bytes) := by rw [nextslicecap_zero h0]; omega
  have hw : IntKind.i64.wrap (n : Int) = n := wrap_in.2 ⟨by simp only [loK]; omega, by simp only [hiK]; omega⟩
  have h48i : ¬ ((281474976710656 : Int) < (n : Int) * (i.bytes : Int)) := by
    have : ((n * i.bytes : Nat) : Int) = (n : Int) * (i.bytes : Int) := by push_cast; rfl
    omega
  have hneg : ¬ ((n : Int) < 0) := by omega
  simp [Builtin.append_, run_underlying ht, run_underlying ht2, sizeOf, typeInfo, zeroValue, hi, hz, asInt, asIntOf, hw, hn, hneg, h63', h48', h48i, hs, Question.forced, run_firstCells_none, newRow, grownCap]

/-- The room of nil. -/
theorem ao_cap {x : Bool} {o : Oper} {y : Operand} {t e : TypeId} {d : D} {K : AState → AVal → Prop} (ho : o.op = .call { callee := .builtin .cap, args := #[y], argTypes := #[t] }) (hc : constOk P t y) (ht : P.underlying t = some (.slice e))
    (hv : aev P s t y = .nls d) (hK : K s (.d (.int .i64 0))) : AOther P C x s o K := by
  refine ⟨fun β S a w h => ?_⟩
  have hy := aev_rel h hc
  rw [hv] at hy
  simp only [VRel] at hy
  refine ⟨.int .i64 0, w, s, _, β, S, .inl ?_, fun _ => Ext.refl w, h, vrel_int (by decide), hK⟩
  have e1 : (Builtin.cap_ #[t] o.type #[a.eval y]).run P w = .ok (.int .i64 0) w := by
    rw [hy.1]
    simp [Builtin.cap_, run_underlying ht, goInt]
  simp [execOp, ho, resolve, invoke, builtin, e1]

theorem zero_cells {k : IntKind} {n : Nat} : (Builtin.zeroCells (#[Value.int k 0]) n).toList = List.replicate n (Value.int k 0) := by
  apply List.ext_getElem
  · simp [Builtin.zeroCells]
  · intro i h1 h2
    simp [Builtin.zeroCells, Nat.mod_one]

/-- So many noughts behind nil. -/
theorem ao_appz {x : Bool} {o : Oper} {y z : Operand} {t t2 e : TypeId} {i : TypeInfo} {k k2 : IntKind} {d : D} {n : Nat} {K : AState → AVal → Prop}
    (ho : o.op = .call { callee := .builtin .append, args := #[y, z], argTypes := #[t, t2] }) (hc : constOk P t y) (hc2 : constOk P t2 z) (hy : aev P s t y = .nls d) (hz : aev P s t2 z = .d (.int .i64 n))
    (ht : P.underlying t = some (.slice e)) (ht2 : P.underlying t2 = some (.int k2)) (hi : P.info? e = some i) (hzero : i.zero = some (.int k 0)) (hs : i.size = 1) (hb : i.bytes ≤ 256) (h0 : 0 < n) (hn : n ≤ 1073741824)
    (hK : K (s.newO (.row k e (List.replicate n 0))) (.own s.nx)) : AOther P C x s o K := by
  refine ⟨fun β S a w h => ?_⟩
  have hyv := aev_rel h hc
  have hzv := aev_rel h hc2
  rw [hy] at hyv
  rw [hz] at hzv
  simp only [VRel] at hyv
  obtain ⟨hzv, _⟩ := d_int hzv
  have hbb : n * i.bytes ≤ 281474976710656 := by
    have : n * i.bytes ≤ 1073741824 * 256 := Nat.mul_le_mul hn hb
    omega
  have e1 := run_append_zeros (P := P) w t t2 o.type e i (.int k 0) k2 ht ht2 hi hzero n h0 (by omega) hbb hs
  rw [← hyv.1, ← hzv] at e1
  have hg : w.grownBy (w.drew.alloc (.cells (Builtin.zeroCells (Value.int k 0).cells n ++ Builtin.zeroCells (Value.int k 0).cells (grownCap w n 0 e - n)) e)) none :=
    ⟨rfl, rfl, rfl, by simp, fun b hb _ => by
      show (w.heap.push _)[b]? = _
      rw [Array.getElem?_push, if_neg (by omega)]⟩
  have hge := grownCap_ge w n 0 e
  refine ⟨.slice (some ⟨w.heap.size, 0, none⟩) n (grownCap w n 0 e), _, _, .own s.nx, updO β s.nx (.slice (some ⟨w.heap.size, 0, none⟩) n (grownCap w n 0 e)), S, .inl ?_, fun _ b hb => hg.block b hb (by simp), h.fresh hg (v := .slice (some ⟨w.heap.size, 0, none⟩) n (grownCap w n 0 e)) (fun b hb => ?_) ?_, by simp only [VRel, updO, if_true], hK⟩
  · simp [execOp, ho, resolve, invoke, builtin, e1]
  · have : b = w.heap.size := by
      simp only [blk] at hb
      split at hb
      · cases hb
      · injection hb with hb; exact hb.symm
    subst this
    simp
  · simp only [ORel]
    refine ⟨.inr ⟨w.heap.size, grownCap w n 0 e, Builtin.zeroCells (Value.int k 0).cells n ++ Builtin.zeroCells (Value.int k 0).cells (grownCap w n 0 e - n), by simp, by omega, ?_, by simpa using hge, grownCap_le_maxLen w n 0 e (by unfold maxLen; omega), ?_, by simp, ?_⟩, ?_, by simp; unfold LIM; omega⟩
    · show (w.heap.push _)[w.heap.size]? = _
      rw [Array.getElem?_push, if_pos rfl]
    · simp [Value.cells, size_zeroCells]
      omega
    · simp [Value.cells, zero_cells]
    · intro v hv
      rw [(List.mem_replicate.1 hv).2, wrap_in]; cases k <;> simp [loK, hiK]

/-- An owned row's room alone. -/
theorem ao_cut0 {x : Bool} {o : Oper} {y h0 : Operand} {t e : TypeId} {k : IntKind} {e' : TypeId} {xs : List Int} {j : Nat} {K : AState → AVal → Prop} (ho : o.op = .slice t y none (some h0) none) (hc : constOk P t y) (hc2 : constOk P 0 h0)
    (ht : P.underlying t = some (.slice e)) (hsz : szT P e = some 1) (hy : aev P s t y = .own j) (hh : aev P s 0 h0 = .d (.int .i64 0)) (hj : getO s.st j = some (.row k e' xs)) (hm : C.m ≤ j) (hne : xs ≠ [])
    (hK : K { s with st := setOd j (.row k e' []) s.st, fr := fun t => dropV j (s.fr t) } (.own j)) : AOther P C x s o K := by
  refine ⟨fun β S a w h => ?_⟩
  have hyv := aev_rel h hc
  have hhv := aev_rel h hc2
  rw [hy] at hyv
  rw [hh] at hhv
  obtain ⟨hhv, _⟩ := d_int hhv
  obtain ⟨bv, hβ, hob⟩ := h.st.obj j _ (getO_mem hj)
  simp only [VRel] at hyv
  rw [hβ] at hyv
  injection hyv with hyv
  have hob' := hob
  simp only [ORel] at hob
  rcases hob.1 with ⟨A, e1, e2, _⟩ | ⟨g, cap, cur, e1, hcp, hheap, hle, hmax, hcs, _, _⟩
  · exact absurd (List.eq_nil_of_length_eq_zero e2) hne
  · have hrun := slice_run (P := P) (w := w) (A := some ⟨g, 0, none⟩) (len := xs.length) (cap := cap) (lo := none) (hi := some (.int .i64 0)) (l := 0) (h := 0) ht hsz (by omega) (.inl ⟨rfl, rfl⟩) (.inr ⟨_, rfl⟩) (Int.le_refl _) (Int.le_refl _)
    have hv' : (if cap = (0 : Int).toNat then some ⟨g, 0, none⟩ else (some (⟨g, 0, none⟩ : Addr)).map (·.add ((0 : Int).toNat * 1))) = some ⟨g, 0, none⟩ := by
      rw [if_neg (by simp; omega)]; simp [addr_add]
    rw [hv'] at hrun
    simp only [Int.toNat_zero, Nat.sub_zero] at hrun
    have hgr : w.grownBy w (blk bv) := ⟨rfl, rfl, rfl, Nat.le_refl _, fun _ _ _ => rfl⟩
    refine ⟨.slice (some ⟨g, 0, none⟩) 0 cap, w, _, .own j, updO β j (.slice (some ⟨g, 0, none⟩) 0 cap), S, .inl ?_, fun _ => Ext.refl w, h.move hm (getO_mem hj) hβ hgr (v' := .slice (some ⟨g, 0, none⟩) 0 cap) (fun b hb => .inl ?_) ?_, by simp only [VRel, updO, if_true], hK⟩
    · simp only [execOp, ho, Option.map_none, Option.map_some, hhv, ← hyv, e1]
      exact run_value2 hrun
    · rw [e1]; simpa [blk] using hb
    · simp only [ORel]
      exact ⟨.inr ⟨g, cap, cur, by simp, hcp, hheap, by simp, hmax, hcs, by simp, by simp⟩, by simp, by simp [LIM]⟩

end Go.Proofs.YtniaeiikdgbnfaaDoor.AW
namespace Go.Proofs.YtniaeiikdgbnfaaDoor.AW
open Go Go.RowKit
set_option linter.unusedSectionVars false
variable [Globs]
set_option linter.unusedVariables false

section
variable {P : Program} {C : Ctx} {s : AState} {β : Nat → Option Value} {S : Nat → Prop} {a : Act} {w : World}

theorem VAll.set_at : ∀ {cs : List AVal} {vs : List Value} {i : Nat} {y : AVal} {v : Value}, VAll w β S cs vs → vs[i]? = some v → VRel w β S y v → VAll w β S (cs.set i y) vs
  | [], vs, i, y, v, h, _, _ => by simpa using h
  | c :: cs, vs, i, y, v, h, hi, hy => by
    simp only [VAll] at h
    obtain ⟨u, r, rfl, h1, h2⟩ := h
    cases i with
    | zero =>
      simp only [List.getElem?_cons_zero, Option.some.injEq] at hi
      subst hi
      simp only [List.set_cons_zero, VAll]
      exact ⟨_, _, rfl, hy, h2⟩
    | succ i =>
      simp only [List.getElem?_cons_succ] at hi
      simp only [List.set_cons_succ, VAll]
      exact ⟨_, _, rfl, h1, VAll.set_at h2 hi hy⟩

theorem isEm_slice {x : AVal} {v : Value} (h : isEm x = true) (hv : VRel w β S x v) : ∃ A, v = .slice A 0 0 := by
  unfold isEm at h
  split at h
  · simp only [VRel] at hv; exact hv.1
  · simp only [VRel] at hv; exact ⟨none, hv.1⟩
  · cases h

theorem ARelB.adoptPart (h : ARelB C s β S a w) {j i : Nat} {t : TypeId} {cs : List AVal} {x : AVal} (hj : getO s.st j = some (.cell t cs)) (hi : cs[i]? = some x) (he : isEm x = true) (k : IntKind) (tt : TypeId) :
    ∃ β', ARelB C { s with st := setO j (.cell t (cs.set i (.own s.nx))) ((s.nx, .row k tt []) :: s.st), nx := s.nx + 1 } β' S a w ∧ ∀ j', j' < s.nx → β' j' = β j' := by
  obtain ⟨bv, hβ0, hob⟩ := h.st.obj j _ (getO_mem hj)
  have hob' := hob
  simp only [ORel] at hob
  obtain ⟨g, vs, rfl, hh, hv⟩ := hob
  obtain ⟨v, hvi, hxv⟩ := VAll.get _ _ hv i x hi
  obtain ⟨A, rfl⟩ := isEm_slice he hxv
  have hb : blk (.slice A 0 0) = none := blk_empty A
  have hr : ORel w (updO β s.nx (.slice A 0 0)) S (.slice A 0 0) (.row k tt []) := by
    simp only [ORel]; exact ⟨.inl ⟨A, rfl, rfl, rfl⟩, by simp, by simp⟩
  have h1 := h.fresh (World.grownBy.refl w _) (o' := .row k tt []) (v := .slice A 0 0) (by simp [hb]) hr
  have hβ : ∀ i u, β i = some u → updO β s.nx (.slice A 0 0) i = some u := fun i u e => by
    unfold updO
    rw [if_neg]
    · exact e
    · rintro rfl; rw [h.nx _ (Nat.le_refl _)] at e; cases e
  have hjn : j ≠ s.nx := by rintro rfl; rw [h.nx _ (Nat.le_refl _)] at hβ0; cases hβ0
  refine ⟨_, h1.touch (j := j) (o := .cell t cs) (v := .pointer (some ⟨g, 0, none⟩)) (List.mem_cons_of_mem _ (getO_mem hj)) (hβ _ _ hβ0) (World.grownBy.refl w _) ?_, fun j' hj' => ?_⟩
  · simp only [ORel]
    refine ⟨g, vs, rfl, hh, ?_⟩
    refine VAll.set_at (VAll.keep (fun b hb => ⟨hb, rfl⟩) hβ _ _ hv) hvi ?_
    simp only [VRel]
    simp [updO]
  · unfold updO
    rw [if_neg (by omega)]

/-- The same, of what a function leaves. -/
theorem CSpec.adoptPart {f : FuncId} {args : List AVal} {st : List (Nat × Ob)} {m : Nat} {K K' : List (Nat × Ob) → Nat → AVal → Prop} (h : CSpec P f args st m K)
    (hK : ∀ st' nx' r, K st' nx' r → K' st' nx' r ∨ ∃ j t cs i x k tt, getO st' j = some (.cell t cs) ∧ cs[i]? = some x ∧ isEm x = true ∧ K' (setO j (.cell t (cs.set i (.own nx'))) ((nx', .row k tt []) :: st')) (nx' + 1) r) : CSpec P f args st m K' := by
  refine ⟨h.1, fun w β S vs hs hβ ha => Calls.mono (h.2 w β S vs hs hβ ha) fun e w' ⟨v, st', nx', r, β', S', h1, h2, h3, h4, h5, h6, h7, h8⟩ => ?_⟩
  rcases hK st' nx' r h8 with h9 | ⟨j, t, cs, i, x, k, tt, h9, h10, h11, h12⟩
  · exact ⟨v, st', nx', r, β', S', h1, h2, h3, h4, h5, h6, h7, h9⟩
  · have hA : ARelB ⟨w, S, Owned β st, m, β, none⟩ ⟨0, fun _ => .any, st', nx'⟩ β' S' ⟨#[], []⟩ w' :=
      ⟨fun t => by simp only [VRel], rfl, h3, h2, h4, ⟨fun d hd => by simp at hd, by simp, fun _ => rfl⟩, h6, h5⟩
    obtain ⟨β2, hB, hkeep⟩ := hA.adoptPart h9 h10 h11 k tt
    refine ⟨v, _, nx' + 1, r, β2, S', h1, hB.frame, hB.st, hB.nx, Nat.le_succ_of_le h5, fun j' hj' => ?_, ?_, h12⟩
    · rw [hkeep j' (Nat.lt_of_lt_of_le hj' h5), h6 j' hj']
    · refine VRel.keep (fun b hb => ⟨hb, rfl⟩) (fun j' u hu => ?_) _ _ h7
      rcases Nat.lt_or_ge j' nx' with hl | hl
      · rw [hkeep j' hl]; exact hu
      · rw [h4 j' hl] at hu; cases hu

/-- A result that is an empty slice, as an owned row. -/
theorem CSpec.adoptR {f : FuncId} {args : List AVal} {st : List (Nat × Ob)} {m : Nat} {K K' : List (Nat × Ob) → Nat → AVal → Prop} (h : CSpec P f args st m K)
    (hK : ∀ st' nx' r, K st' nx' r → K' st' nx' r ∨ isEm r = true ∧ ∃ k tt, K' ((nx', .row k tt []) :: st') (nx' + 1) (.own nx')) : CSpec P f args st m K' := by
  refine ⟨h.1, fun w β S vs hs hβ ha => Calls.mono (h.2 w β S vs hs hβ ha) fun e w' ⟨v, st', nx', r, β', S', h1, h2, h3, h4, h5, h6, h7, h8⟩ => ?_⟩
  rcases hK st' nx' r h8 with h9 | ⟨h9, k, tt, h10⟩
  · exact ⟨v, st', nx', r, β', S', h1, h2, h3, h4, h5, h6, h7, h9⟩
  · have hA : ARelB ⟨w, S, Owned β st, m, β, none⟩ ⟨0, fun _ => .any, st', nx'⟩ β' S' ⟨#[], []⟩ w' :=
      ⟨fun t => by simp only [VRel], rfl, h3, h2, h4, ⟨fun d hd => by simp at hd, by simp, fun _ => rfl⟩, h6, h5⟩
    obtain ⟨A, rfl⟩ := isEm_slice h9 h7
    have hb : blk (.slice A 0 0) = none := blk_empty A
    have hr : ORel w' (updO β' nx' (.slice A 0 0)) S' (.slice A 0 0) (.row k tt []) := by
      simp only [ORel]; exact ⟨.inl ⟨A, rfl, rfl, rfl⟩, by simp, by simp⟩
    have hB := hA.fresh (World.grownBy.refl w' _) (o' := .row k tt []) (v := .slice A 0 0) (by simp [hb]) hr
    refine ⟨_, _, nx' + 1, .own nx', _, S', h1, hB.frame, hB.st, hB.nx, Nat.le_succ_of_le h5, fun j' hj' => ?_, ?_, h10⟩
    · show updO β' nx' (.slice A 0 0) j' = β j'
      unfold updO
      rw [if_neg (by omega), h6 j' hj']
    · simp only [VRel]
      show updO β' nx' (.slice A 0 0) nx' = _
      simp [updO]

/-- What holds of a function's leavings may be said in another way. -/
theorem CSpec.mono {f : FuncId} {args : List AVal} {st : List (Nat × Ob)} {m : Nat} {K K' : List (Nat × Ob) → Nat → AVal → Prop} (h : CSpec P f args st m K) (hK : ∀ st' nx' r, K st' nx' r → K' st' nx' r) : CSpec P f args st m K' :=
  h.adoptPart fun st' nx' r hk => .inl (hK st' nx' r hk)

end

def sig (j nx i : Nat) : Nat := if i = j then nx else i
theorem nodup_on {f : Nat → Nat} : ∀ {l : List Nat}, l.Nodup → (∀ x ∈ l, ∀ y ∈ l, f x = f y → x = y) → (l.map f).Nodup
  | [], _, _ => by simp
  | x :: l, h, hf => by
    simp only [List.nodup_cons, List.map_cons] at h ⊢
    refine ⟨fun hm => ?_, nodup_on h.2 fun a ha b hb e => hf a (by simp [ha]) b (by simp [hb]) e⟩
    obtain ⟨y, hy, e⟩ := List.mem_map.1 hm
    have := hf y (by simp [hy]) x (by simp) e
    exact h.1 (this ▸ hy)
def AState.renew : AState → Nat → AState
  | ⟨n, fr, st, nx⟩, j => ⟨n, fun t => renV (sig j nx) (fr t), renSt (sig j nx) st, nx + 1⟩

section
variable {P : Program} {C : Ctx} {s : AState} {β : Nat → Option Value} {S : Nat → Prop} {a : Act} {w : World}

theorem ARelB.renew (h : ARelB C s β S a w) {j : Nat} {o : Ob} (hj : (j, o) ∈ s.st) : ∃ β', ARelB C (s.renew j) β' S a w := by
  obtain ⟨v, hv, _⟩ := h.st.obj j o hj
  have hjn : j < s.nx := by
    rcases Nat.lt_or_ge j s.nx with h1 | h1
    · exact h1
    · rw [h.nx j h1] at hv; cases hv
  let β' : Nat → Option Value := updO β s.nx v
  have hσ : ∀ i u, β i = some u → β' (sig j s.nx i) = some u := fun i u e => by
    show updO β s.nx v (sig j s.nx i) = some u
    unfold sig updO
    by_cases h1 : i = j
    · subst h1
      rw [if_pos rfl, if_pos rfl, ← hv, e]
    · rw [if_neg h1, if_neg]
      · exact e
      · rintro rfl; rw [h.nx _ (Nat.le_refl _)] at e; cases e
  have hlt : ∀ {i p}, (i, p) ∈ s.st → i < s.nx := fun {i p} hi => by
    obtain ⟨u, hu, _⟩ := h.st.obj i p hi
    rcases Nat.lt_or_ge i s.nx with h1 | h1
    · exact h1
    · rw [h.nx i h1] at hu; cases hu
  have hinj : ∀ {i k}, i < s.nx → k < s.nx → sig j s.nx i = sig j s.nx k → i = k := fun {i k} hi hk e => by
    unfold sig at e
    split at e <;> split at e <;> omega
  have hβσ : ∀ {i p}, (i, p) ∈ s.st → β' (sig j s.nx i) = β i := fun {i p} hi => by
    obtain ⟨u, hu, _⟩ := h.st.obj i p hi
    rw [hσ i u hu, hu]
  have hown : ∀ b, Owned β' (renSt (sig j s.nx) s.st) b ↔ Owned β s.st b := fun b => by
    constructor
    · rintro ⟨k, q, hk, hb⟩
      obtain ⟨i, p, hi, rfl, rfl⟩ := mem_renSt.1 hk
      exact ⟨i, p, hi, by rw [hβσ hi] at hb; exact hb⟩
    · rintro ⟨i, p, hi, hb⟩
      exact ⟨_, _, mem_renSt.2 ⟨i, p, hi, rfl, rfl⟩, by rw [hβσ hi]; exact hb⟩
  obtain ⟨n, fr, st, nx⟩ := s
  refine ⟨β', fun t => ?_, h.size, ⟨fun k q hk => ?_, ?_, fun k q k' q' hk hk' hne b hb => ?_, fun b hb => h.st.own b ((hown b).1 hb), h.st.inS, h.st.gl⟩, ?_, fun i hi => ?_, h.defers, fun i hi => ?_, Nat.le_succ_of_le h.nxm⟩
  · exact (renV_iff _ _).1 (VRel.keep (fun b hb => ⟨hb, rfl⟩) hσ _ _ (h.fr t))
  · obtain ⟨i, p, hi, rfl, rfl⟩ := mem_renSt.1 hk
    obtain ⟨u, hu, hr⟩ := h.st.obj i p hi
    exact ⟨u, hσ i u hu, (renOb_iff _).1 (hr.keep (fun b hb => ⟨hb, rfl⟩) hσ fun b hb => rfl)⟩
  · show ((renSt (sig j nx) st).map (·.1)).Nodup
    rw [renSt_ids]
    have hnd := h.st.nodup
    have : (st.map fun p => sig j nx p.1) = (st.map (·.1)).map (sig j nx) := by simp
    rw [this]
    refine nodup_on hnd fun x hx y hy e => ?_
    obtain ⟨⟨x', p⟩, hx', rfl⟩ := List.mem_map.1 hx
    obtain ⟨⟨y', q⟩, hy', rfl⟩ := List.mem_map.1 hy
    exact hinj (hlt hx') (hlt hy') e
  · obtain ⟨i, p, hi, rfl, rfl⟩ := mem_renSt.1 hk
    obtain ⟨i', p', hi', rfl, rfl⟩ := mem_renSt.1 hk'
    rw [hβσ hi] at hb
    rw [hβσ hi']
    exact h.st.apart i p i' p' hi hi' (fun e => hne (by rw [e])) b hb
  · have := h.frame
    exact ⟨this.size, this.os, this.tape, this.output, this.old, this.inS, fun b hb => this.own b ((hown b).1 hb)⟩
  · show updO β nx v i = none
    unfold updO
    have hi' : nx + 1 ≤ i := hi
    rw [if_neg (by omega)]
    exact h.nx i (by show nx ≤ i; omega)
  · show updO β nx v i = _
    unfold updO
    have := h.nxm
    rw [if_neg (by show ¬ i = nx; simp only at this; omega)]
    exact h.pin i hi

theorem AWp.renew {c : Code} {Q : Exit → AState → Prop} (j : Nat) (hj : (getO s.st j).isSome = true) (h : AWp P C c (s.renew j) Q) : AWp P C c s Q :=
  ⟨fun a w ⟨β, S, hr⟩ => by
    obtain ⟨o, ho⟩ := Option.isSome_iff_exists.1 hj
    obtain ⟨β', hr'⟩ := hr.renew (getO_mem ho)
    exact h.run a w ⟨β', S, hr'⟩⟩
end

section
variable {P : Program} {C : Ctx} {s : AState} {T : Told}

/-- One stretch ahead of another; whatever way the first one goes, the second one begins alike. -/
theorem AWp.cut {ι : Type} {x y : Code} {Q : Exit → AState → Prop} (T : Told) (sl : ι → List (Nat × AVal)) (st : ι → List (Nat × Ob)) (n0 nx : Nat) (φ : ι → Prop)
    (hx : awp P C T x s (thenQ (Begin C.m n0 nx sl st φ) Q)) (hy : ∀ i, φ i → AWp P C y ⟨n0, frL (sl i), st i, nx⟩ Q) : AWp P C (.seq x y) s Q :=
  AWp.join (Begin C.m n0 nx sl st φ) (AWp.of_awp T hx) fun s' ⟨i, l, hφ, hl, hw⟩ => ⟨fun a w h => (hy i hφ).run a w (by rw [← hl]; exact hw.rel h)⟩
theorem AWp.seq {x y : Code} {Q : Exit → AState → Prop} (T : Told) (hx : awp P C T x s (thenQ (fun s => AWp P C y s Q) Q)) : AWp P C (.seq x y) s Q :=
  AWp.join (fun s => AWp P C y s Q) (AWp.of_awp T hx) fun s' h => h

/-- The entry, of a walk that is laid out already. -/
theorem CSpec.of_AWp {f : FuncId} {fn : Func} {c : Code} {args : List AVal} {st : List (Nat × Ob)} {m : Nat} {K : List (Nat × Ob) → Nat → AVal → Prop} (fz : List Tmp)
    (hf : P.funcs[f]? = some fn) (hb : fn.body = some c) (hn : (fn.name == "runtime.NumGoroutine") = false) (hl : args.length ≤ fn.ntmps)
    (h : ∀ w0 S0 E0 B0, AWp P ⟨w0, S0, E0, m, B0, none⟩ c ⟨fn.ntmps, fun t => (args[t]?).getD .un, st, m⟩ (endQ P fn.results.toList fz K)) : CSpec P f args st m K := by
  refine ⟨⟨fn, hf, by rw [hb]; rfl, hn⟩, fun w β S vs hs hβ ha => ?_⟩
  have hvl := VAll.length _ _ ha
  have hrel : ARel ⟨w, S, Owned β st, m, β, none⟩ ⟨fn.ntmps, fun t => (args[t]?).getD .un, st, m⟩ { tmps := vs.toArray ++ Array.replicate (fn.ntmps - vs.toArray.size) undef, defers := [] } w := by
    refine ⟨β, S, fun t => ?_, by simp; omega, hs, ⟨Nat.le_refl _, rfl, rfl, rfl, fun _ _ _ => rfl, fun b hb => .inl hb, fun b hb => .inl hb⟩, hβ, ⟨fun d hd => by simp at hd, by simp, fun _ => rfl⟩, fun _ _ => rfl, Nat.le_refl _⟩
    simp only
    cases ht : args[t]? with
    | some x =>
      obtain ⟨v, hv, hr⟩ := VAll.get _ _ ha t x ht
      have htl : t < vs.length := (List.getElem?_eq_some_iff.1 hv).1
      rw [Array.getD_eq_getD_getElem?, Array.getElem?_append_left (by simpa using htl)]
      simpa [hv] using hr
    | none =>
      have htl : vs.length ≤ t := by rw [hvl]; exact List.getElem?_eq_none_iff.1 ht
      simp only [Option.getD_none, VRel]
      rw [Array.getD_eq_getD_getElem?, Array.getElem?_append_right (by simpa using htl)]
      rw [Array.getElem?_replicate]
      split <;> rfl
  refine callsIn_fence.1 (callsIn_of_wp_marks (F := fence none) (n := 0) hf hb trivial (wpIn_mono ((h _ _ _ _).run _ _ hrel) fun e a' w' hl => ?_) rfl)
  obtain ⟨s', ⟨β', S', h'⟩, hq⟩ := hl
  have fin : qFreezes P fz s' (fun s => resV P s fn.results.toList fun vs => s.ends fun st nx => oneR (K st nx) vs) → LeavesInM (fence none) 0 P fn a'.tmps (fun e w' => ∃ v st' nx' r β' S', e = .returned v ∧ Fr ⟨w, S, Owned β st, m, β, none⟩ w' S' (Owned β' st') ∧ SRel w' β' S' st' ∧
      (∀ j, nx' ≤ j → β' j = none) ∧ m ≤ nx' ∧ (∀ j, j < m → β' j = β j) ∧ VRel w' β' S' r v ∧ K st' nx' r) a'.defers .returning w' := fun hq => by
    obtain ⟨S2, s2, h2, hq⟩ := qFreezes_sound h' hq
    have hq : resV P s2 fn.results.toList (oneR (K s2.st s2.nx)) := resV_mono (fun vs hv => forceSt_of _ hv) hq
    refine marks_leave _ _ (fun d hd => ?_) h2.defers.2.1 fun w2 hs => ?_
    · obtain ⟨D, e1, e2, _⟩ := h2.defers.1 d hd
      exact ⟨D, e1, e2⟩
    · have h3 := h2.shut hs
      obtain ⟨v, r, h4, h5, h6⟩ := results_sound h3 hq
      exact ⟨v, h4, v, s2.st, s2.nx, r, β', S2, rfl, h3.frame, h3.st, h3.nx, h3.nxm, h3.pin, h5, h6⟩
  cases e <;> first | exact fin hq | exact hq.elim


end
end Go.Proofs.YtniaeiikdgbnfaaDoor.AW
namespace Go.Proofs.YtniaeiikdgbnfaaDoor.AW
open Go Go.RowKit
set_option linter.unusedSectionVars false
variable [Globs]
variable {P : Program} {C : Ctx} {s : AState}

theorem append_none_run {w : World} {t t2 ty e : TypeId} {i : TypeInfo} {k2 : IntKind} (ht : P.underlying t = some (.slice e)) (ht2 : P.underlying t2 = some (.int k2)) (hi : P.info? e = some i) {A : Option Addr} {n c : Nat} (hn : n ≤ c) :
    (Builtin.append_ #[t, t2] ty #[.slice A n c, .int .i64 0]).run P w = .ok (.slice A n c) w := by
  have hw : IntKind.i64.wrap 0 = 0 := by decide
  cases A <;> simp [Builtin.append_, run_underlying ht, run_underlying ht2, sizeOf, typeInfo, hi, asInt, asIntOf, hw, hn, storeCells]

/-- An append of no noughts to an owned row. -/
theorem ao_app0 {x : Bool} {o : Oper} {y z : Operand} {t t2 e : TypeId} {i : TypeInfo} {k k2 : IntKind} {e' : TypeId} {xs : List Int} {j : Nat} {K : AState → AVal → Prop}
    (ho : o.op = .call { callee := .builtin .append, args := #[y, z], argTypes := #[t, t2] }) (hc : constOk P t y) (hc2 : constOk P t2 z) (hy : aev P s t y = .own j) (hz : aev P s t2 z = .d (.int .i64 0))
    (ht : P.underlying t = some (.slice e)) (ht2 : P.underlying t2 = some (.int k2)) (hi : P.info? e = some i) (hj : getO s.st j = some (.row k e' xs)) (hK : K s (.own j)) : AOther P C x s o K := by
  refine ⟨fun β S a w h => ?_⟩
  have hyv := aev_rel h hc
  have hzv := aev_rel h hc2
  rw [hy] at hyv
  rw [hz] at hzv
  obtain ⟨hzv, _⟩ := d_int hzv
  obtain ⟨bv, hβ, hob⟩ := h.st.obj j _ (getO_mem hj)
  have hyv0 := hyv
  simp only [VRel] at hyv
  rw [hβ] at hyv
  injection hyv with hyv
  simp only [ORel] at hob
  obtain ⟨A, c, e1⟩ := ownsV_slice hob.1
  have hle : xs.length ≤ c := by
    rcases hob.1 with ⟨A2, e2, e3, _⟩ | ⟨g, cap, cur, e2, _, _, hle, _⟩
    · omega
    · rw [e1] at e2; injection e2 with _ _ e4; omega
  have hrun := append_none_run (P := P) (w := w) (ty := o.type) ht ht2 hi (A := A) hle
  rw [← e1, hyv] at hrun
  rw [← hzv] at hrun
  refine ⟨a.eval y, w, s, .own j, β, S, .inl ?_, fun _ => Ext.refl w, h, hyv0, hK⟩
  simp [execOp, ho, resolve, invoke, builtin, hrun]
end Go.Proofs.YtniaeiikdgbnfaaDoor.AW
namespace Go.Proofs.YtniaeiikdgbnfaaDoor.R
open Go Go.RowKit Go.Proofs Go.Proofs.YtniaeiikdgbnfaaDoor.AW
set_option linter.unusedSectionVars false
variable [Globs]
set_option maxRecDepth 100000
set_option linter.unusedSimpArgs false
set_option linter.unusedVariables false
set_option maxHeartbeats 4000000


abbrev nat (xs : List Int) : D := .ints .u32 xs
abbrev i64 (n : Int) : AVal := .d (.int .i64 n)
abbrev u32 (n : Int) : AVal := .d (.int .u32 n)
abbrev bool (b : Bool) : AVal := .d (.bool b)

/-- A number that no limbs may have. -/
def bad (xs : List Int) : Bool := decide (xs.length < 1) || decide (256 < xs.length)

theorem f47 (xs : List Int) : Imm Tryd.prog 95 [.d (nat xs)] (fun r => r = bool (bad xs)) := by
  (refine Imm.of_awp told0 [] Tryd.func95 rfl (by decide) (Nat.le_of_ble_eq_true rfl) ?_; intro _w0 _S0 _E0 _B0; ((conv => whnf); repeat' (first | (refine And.intro ?_ ?_; (focus (first | rfl | decide | assumption | omega | decide +kernel | exact ⟨rfl, rfl⟩ | exact ⟨rfl, rfl, rfl, rfl⟩ | exact fun h => Bool.noConfusion h | exact fun _ => rfl | exact Nat.le_of_ble_eq_true rfl | (simp only [List.length_map, List.length_append, List.length_replicate, List.length_take, List.length_drop, List.length_set, List.length_cons, List.length_nil]; omega))); (conv => whnf)) | ((refine And.intro ?_ ?_ <;> intro _h); all_goals ((first | replace _h := of_decide_eq_true _h | replace _h := of_decide_eq_false _h | skip); (try simp only [Bool.not_eq_true', Bool.not_eq_false', Bool.not_true, Bool.not_false, decide_eq_true_eq, decide_eq_false_iff_not] at _h); (try (guard_hyp _h : True; clear _h)); first | done | contradiction | exact absurd ((Eq.symm _h).trans (show _ = true by assumption)) (by decide) | exact absurd ((Eq.symm _h).trans (show _ = false by assumption)) (by decide) | (conv => whnf))) | (intro _h; ((first | replace _h := of_decide_eq_true _h | replace _h := of_decide_eq_false _h | skip); (try simp only [Bool.not_eq_true', Bool.not_eq_false', Bool.not_true, Bool.not_false, decide_eq_true_eq, decide_eq_false_iff_not] at _h); (try (guard_hyp _h : True; clear _h)); first | done | contradiction | exact absurd ((Eq.symm _h).trans (show _ = true by assumption)) (by decide) | exact absurd ((Eq.symm _h).trans (show _ = false by assumption)) (by decide) | (conv => whnf))))))
  all_goals (refine Ends.imm rfl ?_; unfold bad bool; congr 2; rw [← Bool.decide_or])
  · rw [decide_eq_decide]; omega
  · exact (decide_eq_true (by omega)).symm

theorem getD_map {α β : Type} (f : α → β) (xs : List α) (i : Nat) (d : α) (d' : β) (h : i < xs.length) : (xs.map f).getD i d' = f (xs.getD i d) := by
  simp [List.getD_eq_getElem?_getD, h]

theorem wrap_i64 {n : Int} (h1 : -9223372036854775808 ≤ n) (h2 : n ≤ 9223372036854775807) : IntKind.i64.wrap n = n := wrap_in.2 ⟨h1, h2⟩

theorem renL_d (ρ : Nat → Nat) : ∀ ds : List D, renL ρ (ds.map .d) = ds.map .d
  | [] => rfl
  | d :: ds => by simp only [List.map_cons, renL, renV, renL_d ρ ds]

/-- IndexFunc, of whatever is asked. -/
theorem f51 (g : FuncId) (caps : List D) (p : List Int → Bool) (xss : List (List Int)) (hcaps : noAgg caps = true) (hg : ∀ xs ∈ xss, Imm Tryd.prog g (.d (nat xs) :: caps.map .d) (fun r => r = bool (p xs))) :
    Imm Tryd.prog 112 [.d (.sl 1 (xss.map nat)), .d (.fn g caps)] (fun r => ∃ n, r = i64 n ∧ (0 ≤ n ↔ ∃ xs ∈ xss, p xs = true)) := by
  refine Imm.learn ⟨_, Tryd.func112, rfl, by decide⟩ fun hk => ?_
  have hl : xss.length ≤ LIM := by simpa using hk.1.1
  unfold LIM at hl
  (refine Imm.of_awp told0 [] Tryd.func112 rfl (by decide) (Nat.le_of_ble_eq_true rfl) ?_; intro _w0 _S0 _E0 _B0; ((conv => whnf); repeat' (first | (refine And.intro ?_ ?_; (focus (first | rfl | decide | assumption | omega | decide +kernel | exact ⟨rfl, rfl⟩ | exact ⟨rfl, rfl, rfl, rfl⟩ | exact fun h => Bool.noConfusion h | exact fun _ => rfl | exact Nat.le_of_ble_eq_true rfl | (simp only [List.length_map, List.length_append, List.length_replicate, List.length_take, List.length_drop, List.length_set, List.length_cons, List.length_nil]; omega))); (conv => whnf)) | ((refine And.intro ?_ ?_ <;> intro _h); all_goals ((first | replace _h := of_decide_eq_true _h | replace _h := of_decide_eq_false _h | skip); (try simp only [Bool.not_eq_true', Bool.not_eq_false', Bool.not_true, Bool.not_false, decide_eq_true_eq, decide_eq_false_iff_not] at _h); (try (guard_hyp _h : True; clear _h)); first | done | contradiction | exact absurd ((Eq.symm _h).trans (show _ = true by assumption)) (by decide) | exact absurd ((Eq.symm _h).trans (show _ = false by assumption)) (by decide) | (conv => whnf))) | (intro _h; ((first | replace _h := of_decide_eq_true _h | replace _h := of_decide_eq_false _h | skip); (try simp only [Bool.not_eq_true', Bool.not_eq_false', Bool.not_true, Bool.not_false, decide_eq_true_eq, decide_eq_false_iff_not] at _h); (try (guard_hyp _h : True; clear _h)); first | done | contradiction | exact absurd ((Eq.symm _h).trans (show _ = true by assumption)) (by decide) | exact absurd ((Eq.symm _h).trans (show _ = false by assumption)) (by decide) | (conv => whnf))))))
  refine aloop (T := told0) (fun i : Nat => [(0, .d (.sl 1 (xss.map nat))), (1, .d (.fn g caps)), (7, i64 xss.length), (8, i64 i)]) (fun _ => []) 19 0 (fun i => xss.length - i)
    (fun i => i ≤ xss.length ∧ ∀ j, j < i → p (xss.getD j []) = false) ⟨0, [], rfl, ⟨by omega, by simp⟩, Wk.nil rfl ⟨rfl, rfl, by simp [AW.upd, renV], rfl, trivial⟩⟩ ?_
  intro i ⟨hi, hb⟩
  ((conv => whnf); repeat' (first | (refine And.intro ?_ ?_; (focus (first | rfl | decide | assumption | omega | decide +kernel | exact ⟨rfl, rfl⟩ | exact ⟨rfl, rfl, rfl, rfl⟩ | exact fun h => Bool.noConfusion h | exact fun _ => rfl | exact Nat.le_of_ble_eq_true rfl | (simp only [List.length_map, List.length_append, List.length_replicate, List.length_take, List.length_drop, List.length_set, List.length_cons, List.length_nil]; omega))); (conv => whnf)) | ((refine And.intro ?_ ?_ <;> intro _h); all_goals ((first | replace _h := of_decide_eq_true _h | replace _h := of_decide_eq_false _h | skip); (try simp only [Bool.not_eq_true', Bool.not_eq_false', Bool.not_true, Bool.not_false, decide_eq_true_eq, decide_eq_false_iff_not] at _h); (try (guard_hyp _h : True; clear _h)); first | done | contradiction | exact absurd ((Eq.symm _h).trans (show _ = true by assumption)) (by decide) | exact absurd ((Eq.symm _h).trans (show _ = false by assumption)) (by decide) | (conv => whnf))) | (intro _h; ((first | replace _h := of_decide_eq_true _h | replace _h := of_decide_eq_false _h | skip); (try simp only [Bool.not_eq_true', Bool.not_eq_false', Bool.not_true, Bool.not_false, decide_eq_true_eq, decide_eq_false_iff_not] at _h); (try (guard_hyp _h : True; clear _h)); first | done | contradiction | exact absurd ((Eq.symm _h).trans (show _ = true by assumption)) (by decide) | exact absurd ((Eq.symm _h).trans (show _ = false by assumption)) (by decide) | (conv => whnf)))))
  · rw [Int.toNat_natCast, getD_map nat xss i [] default (by omega)]
    have hm : xss.getD i [] ∈ xss := by
      rw [List.getD_eq_getElem?_getD, List.getElem?_eq_getElem (by omega)]
      exact List.getElem_mem _
    ((conv => whnf); repeat' (first | (refine And.intro ?_ ?_; (focus (first | rfl | decide | assumption | omega | decide +kernel | exact ⟨rfl, rfl⟩ | exact ⟨rfl, rfl, rfl, rfl⟩ | exact fun h => Bool.noConfusion h | exact fun _ => rfl | exact Nat.le_of_ble_eq_true rfl | (simp only [List.length_map, List.length_append, List.length_replicate, List.length_take, List.length_drop, List.length_set, List.length_cons, List.length_nil]; omega))); (conv => whnf)) | ((refine And.intro ?_ ?_ <;> intro _h); all_goals ((first | replace _h := of_decide_eq_true _h | replace _h := of_decide_eq_false _h | skip); (try simp only [Bool.not_eq_true', Bool.not_eq_false', Bool.not_true, Bool.not_false, decide_eq_true_eq, decide_eq_false_iff_not] at _h); (try (guard_hyp _h : True; clear _h)); first | done | contradiction | exact absurd ((Eq.symm _h).trans (show _ = true by assumption)) (by decide) | exact absurd ((Eq.symm _h).trans (show _ = false by assumption)) (by decide) | (conv => whnf))) | (intro _h; ((first | replace _h := of_decide_eq_true _h | replace _h := of_decide_eq_false _h | skip); (try simp only [Bool.not_eq_true', Bool.not_eq_false', Bool.not_true, Bool.not_false, decide_eq_true_eq, decide_eq_false_iff_not] at _h); (try (guard_hyp _h : True; clear _h)); first | done | contradiction | exact absurd ((Eq.symm _h).trans (show _ = true by assumption)) (by decide) | exact absurd ((Eq.symm _h).trans (show _ = false by assumption)) (by decide) | (conv => whnf)))))
    refine acallI (hg _ hm) (by simp only [renL, renV, renL_d]; rfl) fun r hr => ?_
    subst hr
    ((conv => whnf); repeat' (first | (refine And.intro ?_ ?_; (focus (first | rfl | decide | assumption | omega | decide +kernel | exact ⟨rfl, rfl⟩ | exact ⟨rfl, rfl, rfl, rfl⟩ | exact fun h => Bool.noConfusion h | exact fun _ => rfl | exact Nat.le_of_ble_eq_true rfl | (simp only [List.length_map, List.length_append, List.length_replicate, List.length_take, List.length_drop, List.length_set, List.length_cons, List.length_nil]; omega))); (conv => whnf)) | ((refine And.intro ?_ ?_ <;> intro _h); all_goals ((first | replace _h := of_decide_eq_true _h | replace _h := of_decide_eq_false _h | skip); (try simp only [Bool.not_eq_true', Bool.not_eq_false', Bool.not_true, Bool.not_false, decide_eq_true_eq, decide_eq_false_iff_not] at _h); (try (guard_hyp _h : True; clear _h)); first | done | contradiction | exact absurd ((Eq.symm _h).trans (show _ = true by assumption)) (by decide) | exact absurd ((Eq.symm _h).trans (show _ = false by assumption)) (by decide) | (conv => whnf))) | (intro _h; ((first | replace _h := of_decide_eq_true _h | replace _h := of_decide_eq_false _h | skip); (try simp only [Bool.not_eq_true', Bool.not_eq_false', Bool.not_true, Bool.not_false, decide_eq_true_eq, decide_eq_false_iff_not] at _h); (try (guard_hyp _h : True; clear _h)); first | done | contradiction | exact absurd ((Eq.symm _h).trans (show _ = true by assumption)) (by decide) | exact absurd ((Eq.symm _h).trans (show _ = false by assumption)) (by decide) | (conv => whnf)))))
    · exact Ends.imm rfl ⟨i, rfl, fun _ => ⟨_, hm, _h⟩, fun _ => by omega⟩
    · refine ⟨i + 1, [], by omega, ⟨by omega, fun j hj => ?_⟩, rfl, Wk.nil rfl ⟨rfl, rfl, rfl, ?_, trivial⟩⟩
      · rcases Nat.lt_or_ge j i with h | h
        · exact hb j h
        · have : j = i := by omega
          subst this; exact _h
      · show i64 (IntKind.i64.wrap (i + 1)) = i64 ((i + 1 : Nat) : Int)
        rw [wrap_i64 (by omega) (by omega)]; rfl
  · refine Ends.imm rfl ⟨-1, rfl, fun h => by omega, fun ⟨xs, hm, hx⟩ => ?_⟩
    obtain ⟨j, hj, rfl⟩ := List.getElem_of_mem hm
    have := hb j (by omega)
    rw [List.getD_eq_getElem?_getD, List.getElem?_eq_getElem hj] at this
    simp [hx] at this

/-- ContainsFunc. -/
theorem f42 (g : FuncId) (caps : List D) (p : List Int → Bool) (xss : List (List Int)) (hcaps : noAgg caps = true) (hg : ∀ xs ∈ xss, Imm Tryd.prog g (.d (nat xs) :: caps.map .d) (fun r => r = bool (p xs))) :
    Imm Tryd.prog 89 [.d (.sl 1 (xss.map nat)), .d (.fn g caps)] (fun r => r = bool (xss.any p)) := by
  (refine Imm.of_awp told0 [] Tryd.func89 rfl (by decide) (Nat.le_of_ble_eq_true rfl) ?_; intro _w0 _S0 _E0 _B0; ((conv => whnf); repeat' (first | (refine And.intro ?_ ?_; (focus (first | rfl | decide | assumption | omega | decide +kernel | exact ⟨rfl, rfl⟩ | exact ⟨rfl, rfl, rfl, rfl⟩ | exact fun h => Bool.noConfusion h | exact fun _ => rfl | exact Nat.le_of_ble_eq_true rfl | (simp only [List.length_map, List.length_append, List.length_replicate, List.length_take, List.length_drop, List.length_set, List.length_cons, List.length_nil]; omega))); (conv => whnf)) | ((refine And.intro ?_ ?_ <;> intro _h); all_goals ((first | replace _h := of_decide_eq_true _h | replace _h := of_decide_eq_false _h | skip); (try simp only [Bool.not_eq_true', Bool.not_eq_false', Bool.not_true, Bool.not_false, decide_eq_true_eq, decide_eq_false_iff_not] at _h); (try (guard_hyp _h : True; clear _h)); first | done | contradiction | exact absurd ((Eq.symm _h).trans (show _ = true by assumption)) (by decide) | exact absurd ((Eq.symm _h).trans (show _ = false by assumption)) (by decide) | (conv => whnf))) | (intro _h; ((first | replace _h := of_decide_eq_true _h | replace _h := of_decide_eq_false _h | skip); (try simp only [Bool.not_eq_true', Bool.not_eq_false', Bool.not_true, Bool.not_false, decide_eq_true_eq, decide_eq_false_iff_not] at _h); (try (guard_hyp _h : True; clear _h)); first | done | contradiction | exact absurd ((Eq.symm _h).trans (show _ = true by assumption)) (by decide) | exact absurd ((Eq.symm _h).trans (show _ = false by assumption)) (by decide) | (conv => whnf))))))
  refine acallI (f51 g caps p _ hcaps hg) rfl fun r hr => ?_
  obtain ⟨n, rfl, hn⟩ := hr
  ((conv => whnf); repeat' (first | (refine And.intro ?_ ?_; (focus (first | rfl | decide | assumption | omega | decide +kernel | exact ⟨rfl, rfl⟩ | exact ⟨rfl, rfl, rfl, rfl⟩ | exact fun h => Bool.noConfusion h | exact fun _ => rfl | exact Nat.le_of_ble_eq_true rfl | (simp only [List.length_map, List.length_append, List.length_replicate, List.length_take, List.length_drop, List.length_set, List.length_cons, List.length_nil]; omega))); (conv => whnf)) | ((refine And.intro ?_ ?_ <;> intro _h); all_goals ((first | replace _h := of_decide_eq_true _h | replace _h := of_decide_eq_false _h | skip); (try simp only [Bool.not_eq_true', Bool.not_eq_false', Bool.not_true, Bool.not_false, decide_eq_true_eq, decide_eq_false_iff_not] at _h); (try (guard_hyp _h : True; clear _h)); first | done | contradiction | exact absurd ((Eq.symm _h).trans (show _ = true by assumption)) (by decide) | exact absurd ((Eq.symm _h).trans (show _ = false by assumption)) (by decide) | (conv => whnf))) | (intro _h; ((first | replace _h := of_decide_eq_true _h | replace _h := of_decide_eq_false _h | skip); (try simp only [Bool.not_eq_true', Bool.not_eq_false', Bool.not_true, Bool.not_false, decide_eq_true_eq, decide_eq_false_iff_not] at _h); (try (guard_hyp _h : True; clear _h)); first | done | contradiction | exact absurd ((Eq.symm _h).trans (show _ = true by assumption)) (by decide) | exact absurd ((Eq.symm _h).trans (show _ = false by assumption)) (by decide) | (conv => whnf)))))
  refine Ends.imm rfl ?_
  unfold bool
  congr 2
  rw [Bool.eq_iff_iff, decide_eq_true_eq, List.any_eq_true]
  exact hn

theorem f35 (xss : List (List Int)) : Imm Tryd.prog 61 [.d (.sl 1 (xss.map nat))] (fun r => r = bool (!xss.any bad)) := by
  (refine Imm.of_awp told0 [] Tryd.func61 rfl (by decide) (Nat.le_of_ble_eq_true rfl) ?_; intro _w0 _S0 _E0 _B0; ((conv => whnf); repeat' (first | (refine And.intro ?_ ?_; (focus (first | rfl | decide | assumption | omega | decide +kernel | exact ⟨rfl, rfl⟩ | exact ⟨rfl, rfl, rfl, rfl⟩ | exact fun h => Bool.noConfusion h | exact fun _ => rfl | exact Nat.le_of_ble_eq_true rfl | (simp only [List.length_map, List.length_append, List.length_replicate, List.length_take, List.length_drop, List.length_set, List.length_cons, List.length_nil]; omega))); (conv => whnf)) | ((refine And.intro ?_ ?_ <;> intro _h); all_goals ((first | replace _h := of_decide_eq_true _h | replace _h := of_decide_eq_false _h | skip); (try simp only [Bool.not_eq_true', Bool.not_eq_false', Bool.not_true, Bool.not_false, decide_eq_true_eq, decide_eq_false_iff_not] at _h); (try (guard_hyp _h : True; clear _h)); first | done | contradiction | exact absurd ((Eq.symm _h).trans (show _ = true by assumption)) (by decide) | exact absurd ((Eq.symm _h).trans (show _ = false by assumption)) (by decide) | (conv => whnf))) | (intro _h; ((first | replace _h := of_decide_eq_true _h | replace _h := of_decide_eq_false _h | skip); (try simp only [Bool.not_eq_true', Bool.not_eq_false', Bool.not_true, Bool.not_false, decide_eq_true_eq, decide_eq_false_iff_not] at _h); (try (guard_hyp _h : True; clear _h)); first | done | contradiction | exact absurd ((Eq.symm _h).trans (show _ = true by assumption)) (by decide) | exact absurd ((Eq.symm _h).trans (show _ = false by assumption)) (by decide) | (conv => whnf))))))
  refine acallI (f42 95 [] bad _ rfl fun xs _ => f47 xs) rfl fun r hr => ?_
  subst hr
  ((conv => whnf); repeat' (first | (refine And.intro ?_ ?_; (focus (first | rfl | decide | assumption | omega | decide +kernel | exact ⟨rfl, rfl⟩ | exact ⟨rfl, rfl, rfl, rfl⟩ | exact fun h => Bool.noConfusion h | exact fun _ => rfl | exact Nat.le_of_ble_eq_true rfl | (simp only [List.length_map, List.length_append, List.length_replicate, List.length_take, List.length_drop, List.length_set, List.length_cons, List.length_nil]; omega))); (conv => whnf)) | ((refine And.intro ?_ ?_ <;> intro _h); all_goals ((first | replace _h := of_decide_eq_true _h | replace _h := of_decide_eq_false _h | skip); (try simp only [Bool.not_eq_true', Bool.not_eq_false', Bool.not_true, Bool.not_false, decide_eq_true_eq, decide_eq_false_iff_not] at _h); (try (guard_hyp _h : True; clear _h)); first | done | contradiction | exact absurd ((Eq.symm _h).trans (show _ = true by assumption)) (by decide) | exact absurd ((Eq.symm _h).trans (show _ = false by assumption)) (by decide) | (conv => whnf))) | (intro _h; ((first | replace _h := of_decide_eq_true _h | replace _h := of_decide_eq_false _h | skip); (try simp only [Bool.not_eq_true', Bool.not_eq_false', Bool.not_true, Bool.not_false, decide_eq_true_eq, decide_eq_false_iff_not] at _h); (try (guard_hyp _h : True; clear _h)); first | done | contradiction | exact absurd ((Eq.symm _h).trans (show _ = true by assumption)) (by decide) | exact absurd ((Eq.symm _h).trans (show _ = false by assumption)) (by decide) | (conv => whnf)))))
  exact Ends.imm rfl rfl



theorem di {k : IntKind} {a b : Int} (h : a = b) : AVal.d (.int k a) = .d (.int k b) := by rw [h]
theorem tup2 {a b c d : AVal} (h1 : a = c) (h2 : b = d) : AVal.tup [a, b] = .tup [c, d] := by rw [h1, h2]
theorem tup3 {a b c d e f : AVal} (h1 : a = d) (h2 : b = e) (h3 : c = f) : AVal.tup [a, b, c] = .tup [d, e, f] := by rw [h1, h2, h3]

theorem f45 (x y c : Int) (hx : 0 ≤ x ∧ x < 4294967296) (hy : 0 ≤ y ∧ y < 4294967296) (hc : 0 ≤ c ∧ c < 4294967296) :
    Imm Tryd.prog 93 [u32 x, u32 y, u32 c] (fun r => r = .tup [u32 ((x + y + c) % 4294967296), u32 ((x + y + c) / 4294967296)]) := by
  (refine Imm.of_awp told0 [] Tryd.func93 rfl (by decide) (Nat.le_of_ble_eq_true rfl) ?_; intro _w0 _S0 _E0 _B0; ((conv => whnf); repeat' (first | (refine And.intro ?_ ?_; (focus (first | rfl | decide | assumption | omega | decide +kernel | exact ⟨rfl, rfl⟩ | exact ⟨rfl, rfl, rfl, rfl⟩ | exact fun h => Bool.noConfusion h | exact fun _ => rfl | exact Nat.le_of_ble_eq_true rfl | (simp only [List.length_map, List.length_append, List.length_replicate, List.length_take, List.length_drop, List.length_set, List.length_cons, List.length_nil]; omega))); (conv => whnf)) | ((refine And.intro ?_ ?_ <;> intro _h); all_goals ((first | replace _h := of_decide_eq_true _h | replace _h := of_decide_eq_false _h | skip); (try simp only [Bool.not_eq_true', Bool.not_eq_false', Bool.not_true, Bool.not_false, decide_eq_true_eq, decide_eq_false_iff_not] at _h); (try (guard_hyp _h : True; clear _h)); first | done | contradiction | exact absurd ((Eq.symm _h).trans (show _ = true by assumption)) (by decide) | exact absurd ((Eq.symm _h).trans (show _ = false by assumption)) (by decide) | (conv => whnf))) | (intro _h; ((first | replace _h := of_decide_eq_true _h | replace _h := of_decide_eq_false _h | skip); (try simp only [Bool.not_eq_true', Bool.not_eq_false', Bool.not_true, Bool.not_false, decide_eq_true_eq, decide_eq_false_iff_not] at _h); (try (guard_hyp _h : True; clear _h)); first | done | contradiction | exact absurd ((Eq.symm _h).trans (show _ = true by assumption)) (by decide) | exact absurd ((Eq.symm _h).trans (show _ = false by assumption)) (by decide) | (conv => whnf))))))
  refine Ends.imm rfl (tup2 (di ?_) (di ?_))
  · simp [IntKind.wrap, IntKind.bits, IntKind.signed] <;> omega
  · simp [IntKind.wrap, IntKind.bits, IntKind.signed] <;> omega

theorem f52 (x y : Int) (hx : 0 ≤ x ∧ x < 4294967296) (hy : 0 ≤ y ∧ y < 4294967296) :
    Imm Tryd.prog 115 [u32 x, u32 y] (fun r => r = .tup [u32 (x * y / 4294967296), u32 (x * y % 4294967296)]) := by
  have h0 : 0 ≤ x * y := Int.mul_nonneg hx.1 hy.1
  have h1 : x * y ≤ 4294967295 * 4294967295 := Int.mul_le_mul (by omega) (by omega) hy.1 (by omega)
  have e1 : x % 18446744073709551616 = x := Int.emod_eq_of_lt hx.1 (by omega)
  have e2 : y % 18446744073709551616 = y := Int.emod_eq_of_lt hy.1 (by omega)
  (refine Imm.of_awp told0 [] Tryd.func115 rfl (by decide) (Nat.le_of_ble_eq_true rfl) ?_; intro _w0 _S0 _E0 _B0; ((conv => whnf); repeat' (first | (refine And.intro ?_ ?_; (focus (first | rfl | decide | assumption | omega | decide +kernel | exact ⟨rfl, rfl⟩ | exact ⟨rfl, rfl, rfl, rfl⟩ | exact fun h => Bool.noConfusion h | exact fun _ => rfl | exact Nat.le_of_ble_eq_true rfl | (simp only [List.length_map, List.length_append, List.length_replicate, List.length_take, List.length_drop, List.length_set, List.length_cons, List.length_nil]; omega))); (conv => whnf)) | ((refine And.intro ?_ ?_ <;> intro _h); all_goals ((first | replace _h := of_decide_eq_true _h | replace _h := of_decide_eq_false _h | skip); (try simp only [Bool.not_eq_true', Bool.not_eq_false', Bool.not_true, Bool.not_false, decide_eq_true_eq, decide_eq_false_iff_not] at _h); (try (guard_hyp _h : True; clear _h)); first | done | contradiction | exact absurd ((Eq.symm _h).trans (show _ = true by assumption)) (by decide) | exact absurd ((Eq.symm _h).trans (show _ = false by assumption)) (by decide) | (conv => whnf))) | (intro _h; ((first | replace _h := of_decide_eq_true _h | replace _h := of_decide_eq_false _h | skip); (try simp only [Bool.not_eq_true', Bool.not_eq_false', Bool.not_true, Bool.not_false, decide_eq_true_eq, decide_eq_false_iff_not] at _h); (try (guard_hyp _h : True; clear _h)); first | done | contradiction | exact absurd ((Eq.symm _h).trans (show _ = true by assumption)) (by decide) | exact absurd ((Eq.symm _h).trans (show _ = false by assumption)) (by decide) | (conv => whnf))))))
  refine Ends.imm rfl (tup2 (di ?_) (di ?_))
  · simp [IntKind.wrap, IntKind.bits, IntKind.signed, e1, e2] <;> omega
  · simp [IntKind.wrap, IntKind.bits, IntKind.signed, e1, e2] <;> omega

theorem f37 (xs : List Int) (i : Int) (h0 : 0 ≤ i) : Imm Tryd.prog 114 [.d (nat xs), i64 i] (fun r => r = u32 (xs.getD i.toNat 0)) := by
  (refine Imm.of_awp told0 [] Tryd.func114 rfl (by decide) (Nat.le_of_ble_eq_true rfl) ?_; intro _w0 _S0 _E0 _B0; ((conv => whnf); repeat' (first | (refine And.intro ?_ ?_; (focus (first | rfl | decide | assumption | omega | decide +kernel | exact ⟨rfl, rfl⟩ | exact ⟨rfl, rfl, rfl, rfl⟩ | exact fun h => Bool.noConfusion h | exact fun _ => rfl | exact Nat.le_of_ble_eq_true rfl | (simp only [List.length_map, List.length_append, List.length_replicate, List.length_take, List.length_drop, List.length_set, List.length_cons, List.length_nil]; omega))); (conv => whnf)) | ((refine And.intro ?_ ?_ <;> intro _h); all_goals ((first | replace _h := of_decide_eq_true _h | replace _h := of_decide_eq_false _h | skip); (try simp only [Bool.not_eq_true', Bool.not_eq_false', Bool.not_true, Bool.not_false, decide_eq_true_eq, decide_eq_false_iff_not] at _h); (try (guard_hyp _h : True; clear _h)); first | done | contradiction | exact absurd ((Eq.symm _h).trans (show _ = true by assumption)) (by decide) | exact absurd ((Eq.symm _h).trans (show _ = false by assumption)) (by decide) | (conv => whnf))) | (intro _h; ((first | replace _h := of_decide_eq_true _h | replace _h := of_decide_eq_false _h | skip); (try simp only [Bool.not_eq_true', Bool.not_eq_false', Bool.not_true, Bool.not_false, decide_eq_true_eq, decide_eq_false_iff_not] at _h); (try (guard_hyp _h : True; clear _h)); first | done | contradiction | exact absurd ((Eq.symm _h).trans (show _ = true by assumption)) (by decide) | exact absurd ((Eq.symm _h).trans (show _ = false by assumption)) (by decide) | (conv => whnf))))))
  · exact Ends.imm rfl rfl
  · refine Ends.imm rfl (di ?_)
    rw [List.getD_eq_getElem?_getD, List.getElem?_eq_none (by omega)]
    rfl

theorem wrap_nat (v : BitVec 32) : IntKind.u32.wrap (v.toNat : Int) = (v.toNat : Int) := by
  have := v.isLt
  exact wrap_in.2 ⟨by simp [loK], by simp [hiK]; omega⟩
theorem ofInt_nat (v : BitVec 32) : BitVec.ofInt 32 (v.toNat : Int) = v := by simp
theorem toNat_ofInt {x : Int} (h : 0 ≤ x ∧ x < 4294967296) : ((BitVec.ofInt 32 x).toNat : Int) = x := by
  rw [BitVec.toNat_ofInt]
  have : x % ((2 ^ 32 : Nat) : Int) = x := Int.emod_eq_of_lt h.1 (by simpa using h.2)
  rw [this]; exact Int.toNat_of_nonneg h.1
theorem msb_ofInt {x : Int} (h : 0 ≤ x ∧ x < 4294967296) : (BitVec.ofInt 32 x).msb = decide (2147483648 ≤ x) := by
  rw [BitVec.msb_eq_decide]
  have := toNat_ofInt h
  rw [decide_eq_decide]
  omega
theorem top_bit (v : BitVec 32) : (v.toNat : Int) / 2147483648 = if v.msb = true then 1 else 0 := by
  have := v.isLt
  rw [BitVec.msb_eq_decide]
  simp only [decide_eq_true_eq]
  split <;> omega
theorem all_ones : BitVec.ofInt 32 4294967295 = BitVec.allOnes 32 := by decide

theorem sub_bits (x y d : Int) (hx : 0 ≤ x ∧ x < 4294967296) (hy : 0 ≤ y ∧ y < 4294967296) (hd : 0 ≤ d ∧ d < 4294967296) :
    bitsK .or .u32 (bitsK .and .u32 (bitsK .xor .u32 4294967295 x) y) (bitsK .and .u32 (bitsK .xor .u32 4294967295 (bitsK .xor .u32 x y)) d) / 2147483648 =
      if (x < 2147483648 ∧ 2147483648 ≤ y) ∨ ((2147483648 ≤ x ↔ 2147483648 ≤ y) ∧ 2147483648 ≤ d) then 1 else 0 := by
  have e : ∀ (a b : Int), bitsK .xor .u32 a b = ((BitVec.ofInt 32 a ^^^ BitVec.ofInt 32 b).toNat : Int) := fun a b => wrap_nat _
  have e2 : ∀ (a b : Int), bitsK .and .u32 a b = ((BitVec.ofInt 32 a &&& BitVec.ofInt 32 b).toNat : Int) := fun a b => wrap_nat _
  have e3 : ∀ (a b : Int), bitsK .or .u32 a b = ((BitVec.ofInt 32 a ||| BitVec.ofInt 32 b).toNat : Int) := fun a b => wrap_nat _
  simp only [e, e2, e3, ofInt_nat, top_bit, all_ones, BitVec.msb_or, BitVec.msb_and, BitVec.msb_xor, msb_ofInt hx, msb_ofInt hy, msb_ofInt hd]
  have : (BitVec.allOnes 32).msb = true := by decide
  rw [this]
  by_cases h1 : 2147483648 ≤ x <;> by_cases h2 : 2147483648 ≤ y <;> by_cases h3 : 2147483648 ≤ d <;> simp [h1, h2, h3] <;> omega

theorem f53 (x y c : Int) (hx : 0 ≤ x ∧ x < 4294967296) (hy : 0 ≤ y ∧ y < 4294967296) (hc : c = 0 ∨ c = 1) :
    Imm Tryd.prog 126 [u32 x, u32 y, u32 c] (fun r => r = .tup [u32 ((x - y - c) % 4294967296), u32 (if x < y + c then 1 else 0)]) := by
  (refine Imm.of_awp told0 [] Tryd.func126 rfl (by decide) (Nat.le_of_ble_eq_true rfl) ?_; intro _w0 _S0 _E0 _B0; ((conv => whnf); repeat' (first | (refine And.intro ?_ ?_; (focus (first | rfl | decide | assumption | omega | decide +kernel | exact ⟨rfl, rfl⟩ | exact ⟨rfl, rfl, rfl, rfl⟩ | exact fun h => Bool.noConfusion h | exact fun _ => rfl | exact Nat.le_of_ble_eq_true rfl | (simp only [List.length_map, List.length_append, List.length_replicate, List.length_take, List.length_drop, List.length_set, List.length_cons, List.length_nil]; omega))); (conv => whnf)) | ((refine And.intro ?_ ?_ <;> intro _h); all_goals ((first | replace _h := of_decide_eq_true _h | replace _h := of_decide_eq_false _h | skip); (try simp only [Bool.not_eq_true', Bool.not_eq_false', Bool.not_true, Bool.not_false, decide_eq_true_eq, decide_eq_false_iff_not] at _h); (try (guard_hyp _h : True; clear _h)); first | done | contradiction | exact absurd ((Eq.symm _h).trans (show _ = true by assumption)) (by decide) | exact absurd ((Eq.symm _h).trans (show _ = false by assumption)) (by decide) | (conv => whnf))) | (intro _h; ((first | replace _h := of_decide_eq_true _h | replace _h := of_decide_eq_false _h | skip); (try simp only [Bool.not_eq_true', Bool.not_eq_false', Bool.not_true, Bool.not_false, decide_eq_true_eq, decide_eq_false_iff_not] at _h); (try (guard_hyp _h : True; clear _h)); first | done | contradiction | exact absurd ((Eq.symm _h).trans (show _ = true by assumption)) (by decide) | exact absurd ((Eq.symm _h).trans (show _ = false by assumption)) (by decide) | (conv => whnf))))))
  have e : IntKind.u32.wrap (IntKind.u32.wrap (x - y) - c) = (x - y - c) % 4294967296 := by simp [IntKind.wrap, IntKind.bits, IntKind.signed]
  refine Ends.imm rfl (tup2 (di e) (di ?_))
  rw [e]
  refine (sub_bits x y ((x - y - c) % 4294967296) hx hy (by omega)).trans ?_
  rcases hc with rfl | rfl
  · split <;> split <;> omega
  · split <;> split <;> omega

end Go.Proofs.YtniaeiikdgbnfaaDoor.R
namespace Go.Proofs.YtniaeiikdgbnfaaDoor.R

/-- What limbs are worth: the lowest first. -/
def val : List Int → Int
  | [] => 0
  | x :: xs => x + 4294967296 * val xs

def wfl (xs : List Int) : Prop := ∀ x ∈ xs, 0 ≤ x ∧ x < 4294967296

theorem wfl.cons {x : Int} {xs : List Int} (h : wfl (x :: xs)) : (0 ≤ x ∧ x < 4294967296) ∧ wfl xs := ⟨h x (by simp), fun y hy => h y (by simp [hy])⟩
theorem wfl.append {xs ys : List Int} (h1 : wfl xs) (h2 : wfl ys) : wfl (xs ++ ys) := fun x hx => by
  rcases List.mem_append.1 hx with h | h
  · exact h1 x h
  · exact h2 x h
theorem wfl.take {xs : List Int} (h : wfl xs) (n : Nat) : wfl (xs.take n) := fun x hx => h x (List.mem_of_mem_take hx)
theorem wfl.drop {xs : List Int} (h : wfl xs) (n : Nat) : wfl (xs.drop n) := fun x hx => h x (List.mem_of_mem_drop hx)
theorem wfl.get {xs : List Int} (h : wfl xs) (i : Nat) : 0 ≤ xs.getD i 0 ∧ xs.getD i 0 < 4294967296 := by
  rw [List.getD_eq_getElem?_getD]
  rcases Nat.lt_or_ge i xs.length with hi | hi
  · rw [List.getElem?_eq_getElem hi]; exact h _ (List.getElem_mem hi)
  · rw [List.getElem?_eq_none hi]; simp
theorem wfl.one {x : Int} (h : 0 ≤ x ∧ x < 4294967296) : wfl [x] := fun y hy => by simp at hy; subst hy; exact h
theorem wfl.set {xs : List Int} (h : wfl xs) (i : Nat) {x : Int} (hx : 0 ≤ x ∧ x < 4294967296) : wfl (xs.set i x) := fun y hy => by
  rcases List.mem_or_eq_of_mem_set hy with h' | h'
  · exact h y h'
  · subst h'; exact hx

/-- The weight of limb number n. -/
def pw (n : Nat) : Int := 4294967296 ^ n
theorem pw_zero : pw 0 = 1 := rfl
theorem pw_succ (n : Nat) : pw (n + 1) = pw n * 4294967296 := Int.pow_succ ..
theorem pw_pos (n : Nat) : 0 < pw n := Int.pow_pos (by omega)
theorem pw_add (m n : Nat) : pw (m + n) = pw m * pw n := Int.pow_add ..

theorem val_append : ∀ (xs ys : List Int), val (xs ++ ys) = val xs + pw xs.length * val ys
  | [], ys => by simp [val, pw_zero]
  | x :: xs, ys => by
    simp only [List.cons_append, val, val_append xs ys, List.length_cons, pw_succ, Int.mul_add, Int.add_assoc]
    rw [Int.mul_comm (pw xs.length) 4294967296, Int.mul_assoc]
theorem val_snoc (xs : List Int) (x : Int) : val (xs ++ [x]) = val xs + pw xs.length * x := by
  rw [val_append]; simp [val]

theorem val_nonneg : ∀ {xs : List Int}, wfl xs → 0 ≤ val xs
  | [], _ => by simp [val]
  | x :: xs, h => by
    have := val_nonneg h.cons.2
    have := h.cons.1
    simp only [val]; omega
theorem val_lt : ∀ {xs : List Int}, wfl xs → val xs < pw xs.length
  | [], _ => by simp [val, pw_zero]
  | x :: xs, h => by
    have := val_lt h.cons.2
    have := h.cons.1
    simp only [val, List.length_cons, pw_succ]; omega

theorem val_inj : ∀ {xs ys : List Int}, wfl xs → wfl ys → xs.length = ys.length → val xs = val ys → xs = ys
  | [], [], _, _, _, _ => rfl
  | x :: xs, y :: ys, hx, hy, hl, hv => by
    simp only [val] at hv
    have h1 := hx.cons.1
    have h2 := hy.cons.1
    have e1 : x = y := by omega
    have e2 : val xs = val ys := by omega
    rw [e1, val_inj hx.cons.2 hy.cons.2 (by simpa using hl) e2]

theorem take_snoc {xs : List Int} {i : Nat} (h : i < xs.length) : xs.take (i + 1) = xs.take i ++ [xs.getD i 0] := by
  rw [List.take_add_one, List.getD_eq_getElem?_getD, List.getElem?_eq_getElem h]; rfl

/-- A sum, a limb further. -/
theorem add_limb {a b d : Int} (p : Int) {x y c : Int} (h : a + p * c = b + d) : a + p * ((x + y + c) % 4294967296) + p * 4294967296 * ((x + y + c) / 4294967296) = b + p * x + (d + p * y) := by
  have e : (x + y + c) % 4294967296 + 4294967296 * ((x + y + c) / 4294967296) = x + y + c := by omega
  have : p * ((x + y + c) % 4294967296) + p * 4294967296 * ((x + y + c) / 4294967296) = p * (x + y + c) := by rw [Int.mul_assoc, ← Int.mul_add, e]
  rw [Int.mul_add, Int.mul_add] at this
  omega

/-- A difference, a limb further. -/
theorem sub_limb {a b d : Int} (p : Int) {x y c : Int} (hx : 0 ≤ x ∧ x < 4294967296) (hy : 0 ≤ y ∧ y < 4294967296) (hc : c = 0 ∨ c = 1) (h : a - p * c = b - d) :
    a + p * ((x - y - c) % 4294967296) - p * 4294967296 * (if x < y + c then 1 else 0) = b + p * x - (d + p * y) := by
  have e : (x - y - c) % 4294967296 - 4294967296 * (if x < y + c then 1 else 0) = x - y - c := by
    rcases hc with rfl | rfl <;> split <;> omega
  have : p * ((x - y - c) % 4294967296) - p * 4294967296 * (if x < y + c then 1 else 0) = p * (x - y - c) := by rw [Int.mul_assoc, ← Int.mul_sub, e]
  rw [Int.mul_sub, Int.mul_sub] at this
  omega

end Go.Proofs.YtniaeiikdgbnfaaDoor.R
namespace Go.Proofs.YtniaeiikdgbnfaaDoor.R
open Go Go.RowKit Go.Proofs Go.Proofs.YtniaeiikdgbnfaaDoor.AW
set_option linter.unusedSectionVars false
variable [Globs]
set_option maxRecDepth 100000
set_option linter.unusedSimpArgs false
set_option linter.unusedVariables false
set_option maxHeartbeats 4000000

def told40 : AW.Told := ⟨fun _ => false, fun r i => if r == 1 && i == 3 then [12] else [], fun r => if r == 8 then .take 0 (.take 1 (.take 2 (.take 3 (.take 4 (.take 5 (.take 6 (.take 7 (.take 8 (.one 9 (.take 10 (.take 11 (.take 12 (.take 13 (.take 14 .done)))))))))))))) else .done⟩

theorem f40 (xs ys : List Int) (hx : wfl xs) (hy : wfl ys) : Imm Tryd.prog 87 [.d (nat xs), .d (nat ys)] (fun r =>
    if bad xs || bad ys || decide (xs.length ≠ ys.length) then r = .tup [.nls (nat []), bool false, i64 24]
    else ∃ zs c, r = .tup [.d (nat zs), bool (decide (c = 1)), i64 0] ∧ zs.length = xs.length ∧ wfl zs ∧ (c = 0 ∨ c = 1) ∧ val zs + pw xs.length * c = val xs + val ys) := by
  (refine Imm.of_awp told40 [4] Tryd.func87 rfl (by decide) (Nat.le_of_ble_eq_true rfl) ?_; intro _w0 _S0 _E0 _B0; ((conv => whnf); repeat' (first | (refine And.intro ?_ ?_; (focus (first | rfl | decide | assumption | omega | decide +kernel | exact ⟨rfl, rfl⟩ | exact ⟨rfl, rfl, rfl, rfl⟩ | exact fun h => Bool.noConfusion h | exact fun _ => rfl | exact Nat.le_of_ble_eq_true rfl | (simp only [List.length_map, List.length_append, List.length_replicate, List.length_take, List.length_drop, List.length_set, List.length_cons, List.length_nil]; omega))); (conv => whnf)) | ((refine And.intro ?_ ?_ <;> intro _h); all_goals ((first | replace _h := of_decide_eq_true _h | replace _h := of_decide_eq_false _h | skip); (try simp only [Bool.not_eq_true', Bool.not_eq_false', Bool.not_true, Bool.not_false, decide_eq_true_eq, decide_eq_false_iff_not] at _h); (try (guard_hyp _h : True; clear _h)); first | done | contradiction | exact absurd ((Eq.symm _h).trans (show _ = true by assumption)) (by decide) | exact absurd ((Eq.symm _h).trans (show _ = false by assumption)) (by decide) | (conv => whnf))) | (intro _h; ((first | replace _h := of_decide_eq_true _h | replace _h := of_decide_eq_false _h | skip); (try simp only [Bool.not_eq_true', Bool.not_eq_false', Bool.not_true, Bool.not_false, decide_eq_true_eq, decide_eq_false_iff_not] at _h); (try (guard_hyp _h : True; clear _h)); first | done | contradiction | exact absurd ((Eq.symm _h).trans (show _ = true by assumption)) (by decide) | exact absurd ((Eq.symm _h).trans (show _ = false by assumption)) (by decide) | (conv => whnf))))))
  refine acallI (f35 [xs, ys]) rfl fun r hr => ?_
  subst hr
  ((conv => whnf); repeat' (first | (refine And.intro ?_ ?_; (focus (first | rfl | decide | assumption | omega | decide +kernel | exact ⟨rfl, rfl⟩ | exact ⟨rfl, rfl, rfl, rfl⟩ | exact fun h => Bool.noConfusion h | exact fun _ => rfl | exact Nat.le_of_ble_eq_true rfl | (simp only [List.length_map, List.length_append, List.length_replicate, List.length_take, List.length_drop, List.length_set, List.length_cons, List.length_nil]; omega))); (conv => whnf)) | ((refine And.intro ?_ ?_ <;> intro _h); all_goals ((first | replace _h := of_decide_eq_true _h | replace _h := of_decide_eq_false _h | skip); (try simp only [Bool.not_eq_true', Bool.not_eq_false', Bool.not_true, Bool.not_false, decide_eq_true_eq, decide_eq_false_iff_not] at _h); (try (guard_hyp _h : True; clear _h)); first | done | contradiction | exact absurd ((Eq.symm _h).trans (show _ = true by assumption)) (by decide) | exact absurd ((Eq.symm _h).trans (show _ = false by assumption)) (by decide) | (conv => whnf))) | (intro _h; ((first | replace _h := of_decide_eq_true _h | replace _h := of_decide_eq_false _h | skip); (try simp only [Bool.not_eq_true', Bool.not_eq_false', Bool.not_true, Bool.not_false, decide_eq_true_eq, decide_eq_false_iff_not] at _h); (try (guard_hyp _h : True; clear _h)); first | done | contradiction | exact absurd ((Eq.symm _h).trans (show _ = true by assumption)) (by decide) | exact absurd ((Eq.symm _h).trans (show _ = false by assumption)) (by decide) | (conv => whnf)))))
  · refine Ends.imm rfl ?_
    rw [if_pos]
    simp; omega
  · rename_i h1 _ _ _ _ _
    simp at h1 _h
    have hbx := h1.1
    unfold bad at hbx
    simp at hbx
    refine AWp.adopt 4 (.row .u32 79 []) rfl rfl ?_
    refine aloop (T := told40) (ι := Nat × List Int × Int) (fun p => [(0, .d (nat xs)), (1, .d (nat ys)), (4, .own 0), (7, u32 p.2.2), (23, i64 xs.length), (24, i64 p.1)]) (fun p => [(0, .row .u32 79 p.2.1)]) 48 1
      (fun p => xs.length - p.1) (fun p => p.1 ≤ xs.length ∧ p.2.1.length = p.1 ∧ wfl p.2.1 ∧ (p.2.2 = 0 ∨ p.2.2 = 1) ∧ val p.2.1 + pw p.1 * p.2.2 = val (xs.take p.1) + val (ys.take p.1))
      ⟨(0, [], 0), [1], rfl, ⟨by omega, rfl, by simp [wfl], .inl rfl, by simp [val]⟩, by (refine ⟨rfl, rfl, ?_, ?_⟩ <;> repeat' (first | exact True.intro | rfl | decide | (refine And.intro ?_ ?_)))⟩ ?_
    intro ⟨i, zs, c⟩ ⟨hi, hl, hz, hc, hv⟩
    dsimp only at hi hl hz hc hv ⊢
    ((conv => whnf); repeat' (first | (refine And.intro ?_ ?_; (focus (first | rfl | decide | assumption | omega | decide +kernel | exact ⟨rfl, rfl⟩ | exact ⟨rfl, rfl, rfl, rfl⟩ | exact fun h => Bool.noConfusion h | exact fun _ => rfl | exact Nat.le_of_ble_eq_true rfl | (simp only [List.length_map, List.length_append, List.length_replicate, List.length_take, List.length_drop, List.length_set, List.length_cons, List.length_nil]; omega))); (conv => whnf)) | ((refine And.intro ?_ ?_ <;> intro _h); all_goals ((first | replace _h := of_decide_eq_true _h | replace _h := of_decide_eq_false _h | skip); (try simp only [Bool.not_eq_true', Bool.not_eq_false', Bool.not_true, Bool.not_false, decide_eq_true_eq, decide_eq_false_iff_not] at _h); (try (guard_hyp _h : True; clear _h)); first | done | contradiction | exact absurd ((Eq.symm _h).trans (show _ = true by assumption)) (by decide) | exact absurd ((Eq.symm _h).trans (show _ = false by assumption)) (by decide) | (conv => whnf))) | (intro _h; ((first | replace _h := of_decide_eq_true _h | replace _h := of_decide_eq_false _h | skip); (try simp only [Bool.not_eq_true', Bool.not_eq_false', Bool.not_true, Bool.not_false, decide_eq_true_eq, decide_eq_false_iff_not] at _h); (try (guard_hyp _h : True; clear _h)); first | done | contradiction | exact absurd ((Eq.symm _h).trans (show _ = true by assumption)) (by decide) | exact absurd ((Eq.symm _h).trans (show _ = false by assumption)) (by decide) | (conv => whnf)))))
    · have hxi := hx.get i
      have hyi := hy.get i
      refine acallI (f45 (xs.getD i 0) (ys.getD i 0) c hxi hyi (by omega)) rfl fun r hr => ?_
      subst hr
      ((conv => whnf); repeat' (first | (refine And.intro ?_ ?_; (focus (first | rfl | decide | assumption | omega | decide +kernel | exact ⟨rfl, rfl⟩ | exact ⟨rfl, rfl, rfl, rfl⟩ | exact fun h => Bool.noConfusion h | exact fun _ => rfl | exact Nat.le_of_ble_eq_true rfl | (simp only [List.length_map, List.length_append, List.length_replicate, List.length_take, List.length_drop, List.length_set, List.length_cons, List.length_nil]; omega))); (conv => whnf)) | ((refine And.intro ?_ ?_ <;> intro _h); all_goals ((first | replace _h := of_decide_eq_true _h | replace _h := of_decide_eq_false _h | skip); (try simp only [Bool.not_eq_true', Bool.not_eq_false', Bool.not_true, Bool.not_false, decide_eq_true_eq, decide_eq_false_iff_not] at _h); (try (guard_hyp _h : True; clear _h)); first | done | contradiction | exact absurd ((Eq.symm _h).trans (show _ = true by assumption)) (by decide) | exact absurd ((Eq.symm _h).trans (show _ = false by assumption)) (by decide) | (conv => whnf))) | (intro _h; ((first | replace _h := of_decide_eq_true _h | replace _h := of_decide_eq_false _h | skip); (try simp only [Bool.not_eq_true', Bool.not_eq_false', Bool.not_true, Bool.not_false, decide_eq_true_eq, decide_eq_false_iff_not] at _h); (try (guard_hyp _h : True; clear _h)); first | done | contradiction | exact absurd ((Eq.symm _h).trans (show _ = true by assumption)) (by decide) | exact absurd ((Eq.symm _h).trans (show _ = false by assumption)) (by decide) | (conv => whnf)))))
      refine ⟨by show (zs.length + 1) * 4 ≤ 140737488355328; omega, ?_⟩
      ((conv => whnf); repeat' (first | (refine And.intro ?_ ?_; (focus (first | rfl | decide | assumption | omega | decide +kernel | exact ⟨rfl, rfl⟩ | exact ⟨rfl, rfl, rfl, rfl⟩ | exact fun h => Bool.noConfusion h | exact fun _ => rfl | exact Nat.le_of_ble_eq_true rfl | (simp only [List.length_map, List.length_append, List.length_replicate, List.length_take, List.length_drop, List.length_set, List.length_cons, List.length_nil]; omega))); (conv => whnf)) | ((refine And.intro ?_ ?_ <;> intro _h); all_goals ((first | replace _h := of_decide_eq_true _h | replace _h := of_decide_eq_false _h | skip); (try simp only [Bool.not_eq_true', Bool.not_eq_false', Bool.not_true, Bool.not_false, decide_eq_true_eq, decide_eq_false_iff_not] at _h); (try (guard_hyp _h : True; clear _h)); first | done | contradiction | exact absurd ((Eq.symm _h).trans (show _ = true by assumption)) (by decide) | exact absurd ((Eq.symm _h).trans (show _ = false by assumption)) (by decide) | (conv => whnf))) | (intro _h; ((first | replace _h := of_decide_eq_true _h | replace _h := of_decide_eq_false _h | skip); (try simp only [Bool.not_eq_true', Bool.not_eq_false', Bool.not_true, Bool.not_false, decide_eq_true_eq, decide_eq_false_iff_not] at _h); (try (guard_hyp _h : True; clear _h)); first | done | contradiction | exact absurd ((Eq.symm _h).trans (show _ = true by assumption)) (by decide) | exact absurd ((Eq.symm _h).trans (show _ = false by assumption)) (by decide) | (conv => whnf)))))
      refine ⟨(i + 1, zs ++ [(xs.getD i 0 + ys.getD i 0 + c) % 4294967296], (xs.getD i 0 + ys.getD i 0 + c) / 4294967296), [0], by dsimp only; omega, ⟨by dsimp only; omega, by simp [hl], ?_, by dsimp only; omega, ?_⟩, rfl, ?_⟩
      · exact hz.append (wfl.one (by omega))
      · dsimp only
        rw [val_snoc, hl, take_snoc (by omega), take_snoc (by omega), val_snoc, val_snoc, List.length_take, List.length_take, Nat.min_eq_left (by omega), Nat.min_eq_left (by omega), pw_succ]
        exact add_limb (pw i) hv
      · (refine ⟨rfl, rfl, ?_, ?_⟩ <;> repeat' (first | exact True.intro | rfl | decide | (refine And.intro ?_ ?_)))
        show i64 (IntKind.i64.wrap (i + 1)) = i64 ((i + 1 : Nat) : Int)
        rw [wrap_i64 (by omega) (by omega)]; rfl
    · have hie : i = xs.length := by omega
      subst hie
      refine Ends.imm rfl ?_
      rw [if_neg (by simp [h1]; omega)]
      refine ⟨zs, c, rfl, hl, hz, hc, ?_⟩
      rw [hv, List.take_of_length_le (by omega), List.take_of_length_le (by omega)]
  · refine Ends.imm rfl ?_
    rw [if_pos]
    have h1 := _h
    simp at h1
    simp [h1]

theorem f50 (xs ys : List Int) (hx : wfl xs) (hy : wfl ys) : Imm Tryd.prog 111 [.d (nat xs), .d (nat ys)] (fun r =>
    if bad xs || bad ys || decide (xs.length ≠ ys.length) then r = .tup [.nls (nat []), bool false, i64 24]
    else ∃ zs c, r = .tup [.d (nat zs), bool (decide (c = 1)), i64 0] ∧ zs.length = xs.length ∧ wfl zs ∧ (c = 0 ∨ c = 1) ∧ val zs - pw xs.length * c = val xs - val ys) := by
  (refine Imm.of_awp told40 [4] Tryd.func111 rfl (by decide) (Nat.le_of_ble_eq_true rfl) ?_; intro _w0 _S0 _E0 _B0; ((conv => whnf); repeat' (first | (refine And.intro ?_ ?_; (focus (first | rfl | decide | assumption | omega | decide +kernel | exact ⟨rfl, rfl⟩ | exact ⟨rfl, rfl, rfl, rfl⟩ | exact fun h => Bool.noConfusion h | exact fun _ => rfl | exact Nat.le_of_ble_eq_true rfl | (simp only [List.length_map, List.length_append, List.length_replicate, List.length_take, List.length_drop, List.length_set, List.length_cons, List.length_nil]; omega))); (conv => whnf)) | ((refine And.intro ?_ ?_ <;> intro _h); all_goals ((first | replace _h := of_decide_eq_true _h | replace _h := of_decide_eq_false _h | skip); (try simp only [Bool.not_eq_true', Bool.not_eq_false', Bool.not_true, Bool.not_false, decide_eq_true_eq, decide_eq_false_iff_not] at _h); (try (guard_hyp _h : True; clear _h)); first | done | contradiction | exact absurd ((Eq.symm _h).trans (show _ = true by assumption)) (by decide) | exact absurd ((Eq.symm _h).trans (show _ = false by assumption)) (by decide) | (conv => whnf))) | (intro _h; ((first | replace _h := of_decide_eq_true _h | replace _h := of_decide_eq_false _h | skip); (try simp only [Bool.not_eq_true', Bool.not_eq_false', Bool.not_true, Bool.not_false, decide_eq_true_eq, decide_eq_false_iff_not] at _h); (try (guard_hyp _h : True; clear _h)); first | done | contradiction | exact absurd ((Eq.symm _h).trans (show _ = true by assumption)) (by decide) | exact absurd ((Eq.symm _h).trans (show _ = false by assumption)) (by decide) | (conv => whnf))))))
  refine acallI (f35 [xs, ys]) rfl fun r hr => ?_
  subst hr
  ((conv => whnf); repeat' (first | (refine And.intro ?_ ?_; (focus (first | rfl | decide | assumption | omega | decide +kernel | exact ⟨rfl, rfl⟩ | exact ⟨rfl, rfl, rfl, rfl⟩ | exact fun h => Bool.noConfusion h | exact fun _ => rfl | exact Nat.le_of_ble_eq_true rfl | (simp only [List.length_map, List.length_append, List.length_replicate, List.length_take, List.length_drop, List.length_set, List.length_cons, List.length_nil]; omega))); (conv => whnf)) | ((refine And.intro ?_ ?_ <;> intro _h); all_goals ((first | replace _h := of_decide_eq_true _h | replace _h := of_decide_eq_false _h | skip); (try simp only [Bool.not_eq_true', Bool.not_eq_false', Bool.not_true, Bool.not_false, decide_eq_true_eq, decide_eq_false_iff_not] at _h); (try (guard_hyp _h : True; clear _h)); first | done | contradiction | exact absurd ((Eq.symm _h).trans (show _ = true by assumption)) (by decide) | exact absurd ((Eq.symm _h).trans (show _ = false by assumption)) (by decide) | (conv => whnf))) | (intro _h; ((first | replace _h := of_decide_eq_true _h | replace _h := of_decide_eq_false _h | skip); (try simp only [Bool.not_eq_true', Bool.not_eq_false', Bool.not_true, Bool.not_false, decide_eq_true_eq, decide_eq_false_iff_not] at _h); (try (guard_hyp _h : True; clear _h)); first | done | contradiction | exact absurd ((Eq.symm _h).trans (show _ = true by assumption)) (by decide) | exact absurd ((Eq.symm _h).trans (show _ = false by assumption)) (by decide) | (conv => whnf)))))
  · refine Ends.imm rfl ?_
    rw [if_pos]
    simp; omega
  · rename_i h1 _ _ _ _ _
    simp at h1 _h
    have hbx := h1.1
    unfold bad at hbx
    simp at hbx
    refine AWp.adopt 4 (.row .u32 79 []) rfl rfl ?_
    refine aloop (T := told40) (ι := Nat × List Int × Int) (fun p => [(0, .d (nat xs)), (1, .d (nat ys)), (4, .own 0), (7, u32 p.2.2), (23, i64 xs.length), (24, i64 p.1)]) (fun p => [(0, .row .u32 79 p.2.1)]) 48 1
      (fun p => xs.length - p.1) (fun p => p.1 ≤ xs.length ∧ p.2.1.length = p.1 ∧ wfl p.2.1 ∧ (p.2.2 = 0 ∨ p.2.2 = 1) ∧ val p.2.1 - pw p.1 * p.2.2 = val (xs.take p.1) - val (ys.take p.1))
      ⟨(0, [], 0), [1], rfl, ⟨by omega, rfl, by simp [wfl], .inl rfl, by simp [val]⟩, by (refine ⟨rfl, rfl, ?_, ?_⟩ <;> repeat' (first | exact True.intro | rfl | decide | (refine And.intro ?_ ?_)))⟩ ?_
    intro ⟨i, zs, c⟩ ⟨hi, hl, hz, hc, hv⟩
    dsimp only at hi hl hz hc hv ⊢
    ((conv => whnf); repeat' (first | (refine And.intro ?_ ?_; (focus (first | rfl | decide | assumption | omega | decide +kernel | exact ⟨rfl, rfl⟩ | exact ⟨rfl, rfl, rfl, rfl⟩ | exact fun h => Bool.noConfusion h | exact fun _ => rfl | exact Nat.le_of_ble_eq_true rfl | (simp only [List.length_map, List.length_append, List.length_replicate, List.length_take, List.length_drop, List.length_set, List.length_cons, List.length_nil]; omega))); (conv => whnf)) | ((refine And.intro ?_ ?_ <;> intro _h); all_goals ((first | replace _h := of_decide_eq_true _h | replace _h := of_decide_eq_false _h | skip); (try simp only [Bool.not_eq_true', Bool.not_eq_false', Bool.not_true, Bool.not_false, decide_eq_true_eq, decide_eq_false_iff_not] at _h); (try (guard_hyp _h : True; clear _h)); first | done | contradiction | exact absurd ((Eq.symm _h).trans (show _ = true by assumption)) (by decide) | exact absurd ((Eq.symm _h).trans (show _ = false by assumption)) (by decide) | (conv => whnf))) | (intro _h; ((first | replace _h := of_decide_eq_true _h | replace _h := of_decide_eq_false _h | skip); (try simp only [Bool.not_eq_true', Bool.not_eq_false', Bool.not_true, Bool.not_false, decide_eq_true_eq, decide_eq_false_iff_not] at _h); (try (guard_hyp _h : True; clear _h)); first | done | contradiction | exact absurd ((Eq.symm _h).trans (show _ = true by assumption)) (by decide) | exact absurd ((Eq.symm _h).trans (show _ = false by assumption)) (by decide) | (conv => whnf)))))
    · have hxi := hx.get i
      have hyi := hy.get i
      refine acallI (f53 (xs.getD i 0) (ys.getD i 0) c hxi hyi hc) rfl fun r hr => ?_
      subst hr
      ((conv => whnf); repeat' (first | (refine And.intro ?_ ?_; (focus (first | rfl | decide | assumption | omega | decide +kernel | exact ⟨rfl, rfl⟩ | exact ⟨rfl, rfl, rfl, rfl⟩ | exact fun h => Bool.noConfusion h | exact fun _ => rfl | exact Nat.le_of_ble_eq_true rfl | (simp only [List.length_map, List.length_append, List.length_replicate, List.length_take, List.length_drop, List.length_set, List.length_cons, List.length_nil]; omega))); (conv => whnf)) | ((refine And.intro ?_ ?_ <;> intro _h); all_goals ((first | replace _h := of_decide_eq_true _h | replace _h := of_decide_eq_false _h | skip); (try simp only [Bool.not_eq_true', Bool.not_eq_false', Bool.not_true, Bool.not_false, decide_eq_true_eq, decide_eq_false_iff_not] at _h); (try (guard_hyp _h : True; clear _h)); first | done | contradiction | exact absurd ((Eq.symm _h).trans (show _ = true by assumption)) (by decide) | exact absurd ((Eq.symm _h).trans (show _ = false by assumption)) (by decide) | (conv => whnf))) | (intro _h; ((first | replace _h := of_decide_eq_true _h | replace _h := of_decide_eq_false _h | skip); (try simp only [Bool.not_eq_true', Bool.not_eq_false', Bool.not_true, Bool.not_false, decide_eq_true_eq, decide_eq_false_iff_not] at _h); (try (guard_hyp _h : True; clear _h)); first | done | contradiction | exact absurd ((Eq.symm _h).trans (show _ = true by assumption)) (by decide) | exact absurd ((Eq.symm _h).trans (show _ = false by assumption)) (by decide) | (conv => whnf)))))
      refine ⟨by show (zs.length + 1) * 4 ≤ 140737488355328; omega, ?_⟩
      ((conv => whnf); repeat' (first | (refine And.intro ?_ ?_; (focus (first | rfl | decide | assumption | omega | decide +kernel | exact ⟨rfl, rfl⟩ | exact ⟨rfl, rfl, rfl, rfl⟩ | exact fun h => Bool.noConfusion h | exact fun _ => rfl | exact Nat.le_of_ble_eq_true rfl | (simp only [List.length_map, List.length_append, List.length_replicate, List.length_take, List.length_drop, List.length_set, List.length_cons, List.length_nil]; omega))); (conv => whnf)) | ((refine And.intro ?_ ?_ <;> intro _h); all_goals ((first | replace _h := of_decide_eq_true _h | replace _h := of_decide_eq_false _h | skip); (try simp only [Bool.not_eq_true', Bool.not_eq_false', Bool.not_true, Bool.not_false, decide_eq_true_eq, decide_eq_false_iff_not] at _h); (try (guard_hyp _h : True; clear _h)); first | done | contradiction | exact absurd ((Eq.symm _h).trans (show _ = true by assumption)) (by decide) | exact absurd ((Eq.symm _h).trans (show _ = false by assumption)) (by decide) | (conv => whnf))) | (intro _h; ((first | replace _h := of_decide_eq_true _h | replace _h := of_decide_eq_false _h | skip); (try simp only [Bool.not_eq_true', Bool.not_eq_false', Bool.not_true, Bool.not_false, decide_eq_true_eq, decide_eq_false_iff_not] at _h); (try (guard_hyp _h : True; clear _h)); first | done | contradiction | exact absurd ((Eq.symm _h).trans (show _ = true by assumption)) (by decide) | exact absurd ((Eq.symm _h).trans (show _ = false by assumption)) (by decide) | (conv => whnf)))))
      refine ⟨(i + 1, zs ++ [(xs.getD i 0 - ys.getD i 0 - c) % 4294967296], (if xs.getD i 0 < ys.getD i 0 + c then 1 else 0)), [0], by dsimp only; omega, ⟨by dsimp only; omega, by simp [hl], ?_, by dsimp only; split <;> simp, ?_⟩, rfl, ?_⟩
      · exact hz.append (wfl.one (by omega))
      · dsimp only
        rw [val_snoc, hl, take_snoc (by omega), take_snoc (by omega), val_snoc, val_snoc, List.length_take, List.length_take, Nat.min_eq_left (by omega), Nat.min_eq_left (by omega), pw_succ]
        exact sub_limb (pw i) hxi hyi hc hv
      · (refine ⟨rfl, rfl, ?_, ?_⟩ <;> repeat' (first | exact True.intro | rfl | decide | (refine And.intro ?_ ?_)))
        show i64 (IntKind.i64.wrap (i + 1)) = i64 ((i + 1 : Nat) : Int)
        rw [wrap_i64 (by omega) (by omega)]; rfl
    · have hie : i = xs.length := by omega
      subst hie
      refine Ends.imm rfl ?_
      rw [if_neg (by simp [h1]; omega)]
      refine ⟨zs, c, rfl, hl, hz, hc, ?_⟩
      rw [hv, List.take_of_length_le (by omega), List.take_of_length_le (by omega)]
  · refine Ends.imm rfl ?_
    rw [if_pos]
    have h1 := _h
    simp at h1
    simp [h1]

end Go.Proofs.YtniaeiikdgbnfaaDoor.R
