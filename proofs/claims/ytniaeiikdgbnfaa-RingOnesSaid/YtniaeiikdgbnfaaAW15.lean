/- The abstract walker, part 15: an owned object that is never written again becomes a deep value. -/
import Derived.Test.YtniaeiikdgbnfaaAW14
namespace Go.Proofs.Ytniaeiikdgbnfaa.AW
open Go Go.RowKit

mutual
def frzV (j : Nat) (x : D) : AVal → AVal
  | .own i => if i = j then (match x with
      | .ptr _ => .any
      | y => .d y) else .own i
  | .view i off len => if i = j then (match x with
      | .ints k xs => if off + len ≤ xs.length then .d (.ints k ((xs.drop off).take len)) else .any
      | _ => .any) else .view i off len
  | .optr i off => if i = j then (match x with
      | .ptr y => if off = 0 then .d (.ptr y) else .any
      | .ints k xs => if off < xs.length then .d (.ptr (.int k (xs.getD off 0))) else .any
      | _ => .any) else .optr i off
  | .ag t cs => .ag t (frzL j x cs)
  | .tup cs => .tup (frzL j x cs)
  | .ofn f cs => .ofn f (frzL j x cs)
  | .any => .any
  | .un => .un
  | .d y => .d y
  | .em y => .em y
  | .nls y => .nls y
def frzL (j : Nat) (x : D) : List AVal → List AVal
  | [] => []
  | v :: r => frzV j x v :: frzL j x r
end

def frzOb (j : Nat) (x : D) : Ob → Ob
  | .cell t cs => .cell t (frzL j x cs)
  | o => o

def frzSt (j : Nat) (x : D) : List (Nat × Ob) → List (Nat × Ob)
  | [] => []
  | (i, p) :: r => if i = j then frzSt j x r else (i, frzOb j x p) :: frzSt j x r

def AState.frz : AState → Nat → D → AState
  | ⟨n, fr, st, nx⟩, j, x => ⟨n, fun t => frzV j x (fr t), frzSt j x st, nx⟩

/-- Object j is never written again. -/
def qFreeze (P : Program) (s : AState) (j : Nat) (K : AState → Prop) : Prop :=
  match getO s.st j with
  | some (.row k _ xs) => K (s.frz j (.ints k xs))
  | some (.rowD _ sz es) => K (s.frz j (.sl sz es))
  | some (.cell e cs) =>
    (match allDv cs with
    | some ds => flatD (asm P 6 e ds) = ds ∧ K (s.frz j (.ptr (asm P 6 e ds)))
    | none => False)
  | none => K s

/-- The object that a slot holds. -/
def idOf : AVal → Option Nat
  | .own j => some j
  | .optr j _ => some j
  | .view j _ _ => some j
  | _ => none

def qFreezes (P : Program) : List Tmp → AState → (AState → Prop) → Prop
  | [], s, K => K s
  | t :: r, s, K =>
    match idOf (s.fr t) with
    | some j => qFreeze P s j fun s' => qFreezes P r s' K
    | none => qFreezes P r s K

theorem mem_frzSt {j : Nat} {x : D} : ∀ {st : List (Nat × Ob)} {i : Nat} {p : Ob}, (i, p) ∈ frzSt j x st → i ≠ j ∧ ∃ q, (i, q) ∈ st ∧ p = frzOb j x q
  | [], _, _, h => by simp [frzSt] at h
  | (k, q) :: r, i, p, h => by
    simp only [frzSt] at h
    split at h
    · obtain ⟨h1, q', h2, h3⟩ := mem_frzSt h
      exact ⟨h1, q', List.mem_cons_of_mem _ h2, h3⟩
    · rename_i hne
      simp only [List.mem_cons] at h
      rcases h with h | h
      · injection h with h1 h2; subst h1; subst h2; exact ⟨hne, q, by simp⟩
      · obtain ⟨h1, q', h2, h3⟩ := mem_frzSt h
        exact ⟨h1, q', List.mem_cons_of_mem _ h2, h3⟩

theorem frzSt_ids {j : Nat} {x : D} : ∀ {st : List (Nat × Ob)}, (st.map (·.1)).Nodup → ((frzSt j x st).map (·.1)).Nodup
  | [], h => by simp [frzSt]
  | (i, p) :: r, h => by
    simp only [List.map_cons, List.nodup_cons] at h
    simp only [frzSt]
    split
    · exact frzSt_ids h.2
    · simp only [List.map_cons, List.nodup_cons]
      refine ⟨fun hm => ?_, frzSt_ids h.2⟩
      obtain ⟨⟨k, q⟩, hk, rfl⟩ := List.mem_map.1 hm
      obtain ⟨_, q', h2, _⟩ := mem_frzSt hk
      exact h.1 (List.mem_map.2 ⟨_, h2, rfl⟩)

/-- What a deep value says of an object's value: as a whole, of its parts. -/
structure FrzOk (w : World) (β : Nat → Option Value) (S' : Nat → Prop) (j : Nat) (x : D) : Prop where
  own : ∀ v, β j = some v → (∀ y, x ≠ .ptr y) → VRel w β S' (.d x) v
  view : ∀ k xs, x = .ints k xs → ∀ off len A c, off + len ≤ xs.length → len ≤ c → (0 < len → ∃ b, (β j).bind blk = some b ∧ A = some ⟨b, off, none⟩) → VRel w β S' (.d (.ints k ((xs.drop off).take len))) (.slice A len c)
  ptr : ∀ y, x = .ptr y → ∀ b, (β j).bind blk = some b → VRel w β S' (.d (.ptr y)) (.pointer (some ⟨b, 0, none⟩))
  elem : ∀ k xs, x = .ints k xs → ∀ off b, off < xs.length → (β j).bind blk = some b → VRel w β S' (.d (.ptr (.int k (xs.getD off 0)))) (.pointer (some ⟨b, off, none⟩))

section
variable {P : Program} {C : Ctx} {s : AState} {β : Nat → Option Value} {S S' : Nat → Prop} {a : Act} {w : World} {j : Nat} {x : D}

mutual
theorem frzV_rel (hS : ∀ b, S b → S' b) (hf : FrzOk w β S' j x) : ∀ (v : AVal) (u : Value), VRel w β S v u → VRel w β S' (frzV j x v) u
  | .any, u, h => by simp only [frzV, VRel]
  | .un, u, h => by simpa only [frzV, VRel] using h
  | .d y, u, h => by
    simp only [VRel, frzV] at h ⊢
    obtain ⟨cs, h1, h2⟩ := h
    exact ⟨cs, h1.keep fun b hb => ⟨hS b hb, rfl⟩, h2⟩
  | .em y, u, h => by simpa only [frzV, VRel] using h
  | .nls y, u, h => by simpa only [frzV, VRel] using h
  | .own i, u, h => by
    simp only [frzV]
    split
    · rename_i e; subst e
      simp only [VRel] at h
      split
      · simp only [VRel]
      · rename_i hne; exact hf.own u h hne
    · simpa only [VRel] using h
  | .view i off len, u, h => by
    simp only [frzV]
    split
    · rename_i e; subst e
      split
      · rename_i k xs hf'
        split
        · rename_i hle
          simp only [VRel] at h
          obtain ⟨A, c, rfl, h1, h2⟩ := h
          exact hf.view _ _ rfl off len A c hle h1 h2
        · simp only [VRel]
      · simp only [VRel]
    · simpa only [VRel] using h
  | .optr i off, u, h => by
    simp only [frzV]
    split
    · rename_i e; subst e
      simp only [VRel] at h
      obtain ⟨b, hb, rfl⟩ := h
      split
      · split
        · rename_i e0; subst e0; exact hf.ptr _ rfl b hb
        · simp only [VRel]
      · split
        · rename_i hlt; exact hf.elem _ _ rfl off b hlt hb
        · simp only [VRel]
      · simp only [VRel]
    · simpa only [VRel] using h
  | .ag t cs, u, h => by
    simp only [VRel, frzV] at h ⊢
    obtain ⟨vs, h1, h2⟩ := h
    exact ⟨vs, h1, frzL_rel hS hf cs _ h2⟩
  | .tup cs, u, h => by
    simp only [VRel, frzV] at h ⊢
    obtain ⟨vs, h1, h2⟩ := h
    exact ⟨vs, h1, frzL_rel hS hf cs _ h2⟩
  | .ofn f cs, u, h => by
    simp only [VRel, frzV] at h ⊢
    obtain ⟨vs, h1, h2⟩ := h
    exact ⟨vs, h1, frzL_rel hS hf cs _ h2⟩
theorem frzL_rel (hS : ∀ b, S b → S' b) (hf : FrzOk w β S' j x) : ∀ (xs : List AVal) (vs : List Value), VAll w β S xs vs → VAll w β S' (frzL j x xs) vs
  | [], vs, h => by simpa only [frzL, VAll] using h
  | v :: xs, vs, h => by
    simp only [frzL, VAll] at h ⊢
    obtain ⟨u, r, e, h1, h2⟩ := h
    exact ⟨u, r, e, frzV_rel hS hf v u h1, frzL_rel hS hf xs r h2⟩
end

theorem ARelB.frz (h : ARelB C s β S a w) {o : Ob} (hj : (j, o) ∈ s.st) (hf : FrzOk w β (fun b => S b ∨ (β j).bind blk = some b) j x) :
    ARelB C (s.frz j x) β (fun b => S b ∨ (β j).bind blk = some b) a w := by
  have hS : ∀ b, S b → S b ∨ (β j).bind blk = some b := fun b hb => .inl hb
  have hown : ∀ b, Owned β (frzSt j x s.st) b → Owned β s.st b := fun b => by
    rintro ⟨i, p, hi, hb⟩
    obtain ⟨_, q, hq, _⟩ := mem_frzSt hi
    exact ⟨i, q, hq, hb⟩
  refine ⟨fun t => frzV_rel hS hf _ _ (h.fr t), h.size, ⟨fun i p hi => ?_, frzSt_ids h.st.nodup, fun i p k q hi hk hne => ?_, fun b hb => ?_, fun b hb => ?_⟩, ?_, h.nx, h.defers.keep fun D hD hS => ⟨hD, fun h' => h'.elim hS fun hb => by obtain ⟨cs, t, hc⟩ := h.st.cells ⟨j, o, hj, hb⟩; rw [hD] at hc; cases hc⟩, h.pin, h.nxm⟩
  · obtain ⟨_, q, hq, rfl⟩ := mem_frzSt hi
    obtain ⟨v, hv, hr⟩ := h.st.obj i q hq
    refine ⟨v, hv, ?_⟩
    cases q with
    | row k t xs => simpa only [frzOb, ORel] using hr
    | rowD t sz es =>
      simp only [frzOb, ORel] at hr ⊢
      obtain ⟨vs, h1, h2, h3⟩ := hr
      exact ⟨vs, h1, h2.keep fun b hb => ⟨.inl hb, rfl⟩, h3⟩
    | cell t cs =>
      simp only [frzOb, ORel] at hr ⊢
      obtain ⟨b, vs, h1, h2, h3⟩ := hr
      exact ⟨b, vs, h1, h2, frzL_rel hS hf cs _ h3⟩
  · obtain ⟨_, p', hp, _⟩ := mem_frzSt hi
    obtain ⟨_, q', hq, _⟩ := mem_frzSt hk
    exact h.st.apart i p' k q' hp hq hne
  · refine ⟨fun hs => ?_, (h.st.own b (hown b hb)).2⟩
    rcases hs with hs | hs
    · exact (h.st.own b (hown b hb)).1 hs
    · obtain ⟨i, p, hi, hb'⟩ := hb
      obtain ⟨hne, q, hq, _⟩ := mem_frzSt hi
      exact h.st.apart i q j o hq hj hne b hb' hs
  · rcases hb with hb | hb
    · exact h.st.inS b hb
    · exact (h.st.own b ⟨j, o, hj, hb⟩).2
  · have hf := h.frame
    refine ⟨hf.size, hf.os, hf.tape, hf.output, hf.old, fun b hb => ?_, fun b hb => hf.own b (hown b hb)⟩
    rcases hb with hb | hb
    · exact hf.inS b hb
    · exact .inr (hf.own b ⟨j, o, hj, hb⟩)

theorem ownsV_cells {w : World} {t : TypeId} {sz : Nat} {v : Value} {n : Nat} {vs : List Value} (h : OwnsV w t sz v n vs) : ∃ A c, v = .slice A n c ∧ n ≤ c ∧ (0 < n → ∃ b, A = some ⟨b, 0, none⟩ ∧ blk v = some b ∧ Cells w b 0 vs) := by
  rcases h with ⟨A, e, h0, hv⟩ | ⟨g, cap, cur, e, hc, hh, hle, hm, hz, hl, ht⟩
  · exact ⟨A, 0, by rw [e, h0], by omega, by omega⟩
  · refine ⟨_, _, e, hle, fun _ => ⟨g, rfl, by rw [e]; simp [blk]; omega, fun i u hu => ?_⟩⟩
    subst ht
    have hi : i < n * sz := by
      have := (List.getElem?_eq_some_iff.1 hu).1
      simp at this; omega
    rw [List.getElem?_take_of_lt hi] at hu
    simp [World.cell?, hh]
    simpa using hu

theorem repRow_of {S : Nat → Prop} {sz : Nat} : ∀ {es : List D} {vs : List Value} {b o : Nat}, Cells w b o vs → RepAll w S es vs → (∀ e ∈ es, e.size = sz) → RepRow w S sz es b o
  | [], vs, b, o, _, _, _ => by simp only [RepRow]
  | e :: es, vs, b, o, hc, h, hs => by
    simp only [RepAll] at h
    obtain ⟨c1, c2, rfl, h1, h2⟩ := h
    have hl : c1.length = sz := by rw [Rep.size _ _ h1, hs e (by simp)]
    simp only [RepRow]
    refine ⟨⟨c1, hl, fun i v hi => hc i v ?_, h1⟩, repRow_of (fun i v hi => ?_) h2 fun e he => hs e (by simp [he])⟩
    · rw [List.getElem?_append_left]
      · exact hi
      · exact (List.getElem?_eq_some_iff.1 hi).1
    · have := hc (sz + i) v (by rw [List.getElem?_append_right (by omega), hl]; simpa using hi)
      rwa [← Nat.add_assoc] at this

theorem qFreeze_sound (h : ARelB C s β S a w) {K : AState → Prop} (hq : qFreeze P s j K) : ∃ S' s', ARelB C s' β S' a w ∧ K s' := by
  unfold qFreeze at hq
  split at hq
  · rename_i k e xs ho
    obtain ⟨v, hv, hr⟩ := h.st.obj j _ (getO_mem ho)
    simp only [ORel] at hr
    obtain ⟨hr1, hr2, hr3⟩ := hr
    obtain ⟨A, c, rfl, hle, hA⟩ := ownsV_cells hr1
    have base : ∀ {b : Nat}, (β j).bind blk = some b → ∀ off len, off + len ≤ xs.length → 0 < len → Cells w b off (((xs.drop off).take len).map (Value.int k)) := fun {b} hb off len hl hp => by
      obtain ⟨b', e1, e2, hc⟩ := hA (by omega)
      rw [hv, Option.bind_some, e2] at hb
      injection hb with hb; subst hb
      have := hc.sub off len
      simpa [List.map_take, List.map_drop] using this
    refine ⟨_, _, h.frz (getO_mem ho) ⟨fun u hu _ => ?_, fun k' xs' e off len A' c' hl hc hA' => ?_, (fun y e => by cases e), fun k' xs' e off b hlt hb => ?_⟩, hq⟩
    · rw [hv] at hu; injection hu with hu; subst hu
      simp only [VRel, Rep]
      refine ⟨_, ⟨A, c, rfl, hle, hr3, hr2, fun hne => ?_⟩, rfl⟩
      obtain ⟨b, e1, e2, hc⟩ := hA (List.length_pos_iff.2 hne)
      exact ⟨b, 0, e1, .inr (by rw [hv]; exact e2), hc⟩
    · injection e with e1 e2; subst e1; subst e2
      have hln : ((xs.drop off).take len).length = len := by simp; omega
      simp only [VRel, Rep]
      refine ⟨[.slice A' len c'], ⟨A', c', by rw [hln], by omega, by omega, fun x hx => hr2 x (List.mem_of_mem_drop (List.mem_of_mem_take hx)), fun hne => ?_⟩, rfl⟩
      have hp : 0 < len := by have := List.length_pos_iff.2 hne; omega
      obtain ⟨b, hb, rfl⟩ := hA' hp
      exact ⟨b, off, rfl, .inr hb, base hb off len hl hp⟩
    · injection e with e1 e2; subst e1; subst e2
      simp only [VRel, Rep]
      refine ⟨_, ⟨b, off, rfl, .inr hb, [.int k (xs.getD off 0)], ?_, rfl, ?_⟩, rfl⟩
      · have := base hb off 1 (by omega) (by omega)
        rw [take_one_drop hlt] at this
        simpa [List.getD_eq_getElem?_getD, hlt] using this
      · rw [List.getD_eq_getElem?_getD, List.getElem?_eq_getElem hlt]; exact hr2 _ (List.getElem_mem hlt)
  · rename_i e sz es ho
    obtain ⟨v, hv, hr⟩ := h.st.obj j _ (getO_mem ho)
    simp only [ORel] at hr
    obtain ⟨vs, hr1, hr2, hr3, hr4, hr5⟩ := hr
    obtain ⟨A, c, rfl, hle, hA⟩ := ownsV_cells hr1
    refine ⟨_, _, h.frz (getO_mem ho) ⟨fun u hu _ => ?_, (fun _ _ e => by cases e), (fun _ e => by cases e), (fun _ _ e => by cases e)⟩, hq⟩
    rw [hv] at hu; injection hu with hu; subst hu
    simp only [VRel, Rep]
    refine ⟨_, ⟨A, c, rfl, hle, hr4, fun hne => ?_⟩, rfl⟩
    obtain ⟨b, e1, e2, hc⟩ := hA (List.length_pos_iff.2 hne)
    exact ⟨b, 0, e1, .inr (by rw [hv]; exact e2), repRow_of hc (hr2.keep fun b hb => ⟨.inl hb, rfl⟩) hr3⟩
  · rename_i e cs ho
    obtain ⟨v, hv, hr⟩ := h.st.obj j _ (getO_mem ho)
    simp only [ORel] at hr
    obtain ⟨b, vs, rfl, hh, hr⟩ := hr
    split at hq
    · rename_i ds hds
      obtain ⟨h1, hK⟩ := hq
      have hall := allDv_rel hds hr
      rw [← h1] at hall
      have hrep := rep_of_flat _ _ hall
      refine ⟨_, _, h.frz (getO_mem ho) ⟨fun u hu hne => (hne _ rfl).elim, (fun _ _ e => by cases e), fun y e b' hb => ?_, (fun _ _ e => by cases e)⟩, hK⟩
      injection e with e; subst e
      have hbb := hb
      rw [hv] at hb
      simp only [Option.bind_some, blk, Option.some.injEq] at hb
      subst hb
      simp only [VRel, Rep]
      refine ⟨_, ⟨b, 0, rfl, .inr hbb, vs.toList, fun i u hu => ?_, hrep.keep fun b hb => ⟨.inl hb, rfl⟩⟩, rfl⟩
      simp [World.cell?, hh]
      simpa using hu
    · exact hq.elim
  · exact ⟨S, s, h, hq⟩

theorem qFreezes_sound : ∀ {ts : List Tmp} {s : AState} {S : Nat → Prop} {K : AState → Prop}, ARelB C s β S a w → qFreezes P ts s K → ∃ S' s', ARelB C s' β S' a w ∧ K s'
  | [], s, S, K, h, hq => ⟨S, s, h, hq⟩
  | t :: ts, s, S, K, h, hq => by
    simp only [qFreezes] at hq
    split at hq
    · obtain ⟨S', s', h', hq'⟩ := qFreeze_sound h hq
      exact qFreezes_sound h' hq'
    · exact qFreezes_sound h hq

end
end Go.Proofs.Ytniaeiikdgbnfaa.AW
