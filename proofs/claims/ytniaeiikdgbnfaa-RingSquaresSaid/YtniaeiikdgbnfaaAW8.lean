/- The abstract walker, part 8: what a step does to owned objects. -/
import Derived.Test.YtniaeiikdgbnfaaAW7
namespace Go.Proofs.Ytniaeiikdgbnfaa.AW
open Go Go.RowKit

mutual
/-- Does a value name object j? -/
def refs (j : Nat) : AVal → Bool
  | .own i => i == j
  | .view i _ _ => i == j
  | .optr i _ => i == j
  | .ag _ cs => refsL j cs
  | .tup cs => refsL j cs
  | .ofn _ cs => refsL j cs
  | _ => false
def refsL (j : Nat) : List AVal → Bool
  | [] => false
  | x :: xs => refs j x || refsL j xs
end

def dropV (j : Nat) (x : AVal) : AVal := if refs j x = true then .any else x
def dropOb (j : Nat) : Ob → Ob
  | .cell t cs => .cell t (cs.map (dropV j))
  | o => o

mutual
theorem VRel.keepR {w w' : World} {β β' : Nat → Option Value} {S S' : Nat → Prop} {j : Nat} (hS : ∀ b, S b → S' b ∧ w'.heap[b]? = w.heap[b]?) (hβ : ∀ i, i ≠ j → β' i = β i) :
    ∀ (x : AVal) (v : Value), refs j x = false → VRel w β S x v → VRel w' β' S' x v
  | .any, v, _, h => by simp only [VRel]
  | .un, v, _, h => by simpa only [VRel] using h
  | .d x, v, _, h => by
    simp only [VRel] at h ⊢
    obtain ⟨cs, h1, h2⟩ := h
    exact ⟨cs, h1.keep hS, h2⟩
  | .em x, v, _, h => by simpa only [VRel] using h
  | .nls x, v, _, h => by simpa only [VRel] using h
  | .own i, v, hr, h => by simp only [VRel] at h ⊢; rw [hβ i (by simpa [refs] using hr)]; exact h
  | .view i off len, v, hr, h => by simp only [VRel] at h ⊢; rw [hβ i (by simpa [refs] using hr)]; exact h
  | .optr i off, v, hr, h => by simp only [VRel] at h ⊢; rw [hβ i (by simpa [refs] using hr)]; exact h
  | .ag _ cs, v, hr, h => by
    simp only [VRel] at h ⊢
    obtain ⟨vs, h1, h2⟩ := h
    exact ⟨vs, h1, VAll.keepR hS hβ cs _ (by simpa [refs] using hr) h2⟩
  | .tup cs, v, hr, h => by
    simp only [VRel] at h ⊢
    obtain ⟨vs, h1, h2⟩ := h
    exact ⟨vs, h1, VAll.keepR hS hβ cs _ (by simpa [refs] using hr) h2⟩
  | .ofn f cs, v, hr, h => by
    simp only [VRel] at h ⊢
    obtain ⟨vs, h1, h2⟩ := h
    exact ⟨vs, h1, VAll.keepR hS hβ cs _ (by simpa [refs] using hr) h2⟩
theorem VAll.keepR {w w' : World} {β β' : Nat → Option Value} {S S' : Nat → Prop} {j : Nat} (hS : ∀ b, S b → S' b ∧ w'.heap[b]? = w.heap[b]?) (hβ : ∀ i, i ≠ j → β' i = β i) :
    ∀ (xs : List AVal) (vs : List Value), refsL j xs = false → VAll w β S xs vs → VAll w' β' S' xs vs
  | [], vs, _, h => by simpa only [VAll] using h
  | x :: xs, vs, hr, h => by
    simp only [refsL, Bool.or_eq_false_iff] at hr
    simp only [VAll] at h ⊢
    obtain ⟨v, r, e, h1, h2⟩ := h
    exact ⟨v, r, e, VRel.keepR hS hβ x v hr.1 h1, VAll.keepR hS hβ xs r hr.2 h2⟩
end

theorem VRel.drop {w w' : World} {β β' : Nat → Option Value} {S S' : Nat → Prop} {j : Nat} (hS : ∀ b, S b → S' b ∧ w'.heap[b]? = w.heap[b]?) (hβ : ∀ i, i ≠ j → β' i = β i)
    {x : AVal} {v : Value} (h : VRel w β S x v) : VRel w' β' S' (dropV j x) v := by
  unfold dropV
  split
  · simp only [VRel]
  · rename_i hr; exact VRel.keepR hS hβ x v (by simpa using hr) h

theorem VAll.drop {w w' : World} {β β' : Nat → Option Value} {S S' : Nat → Prop} {j : Nat} (hS : ∀ b, S b → S' b ∧ w'.heap[b]? = w.heap[b]?) (hβ : ∀ i, i ≠ j → β' i = β i) :
    ∀ (xs : List AVal) (vs : List Value), VAll w β S xs vs → VAll w' β' S' (xs.map (dropV j)) vs
  | [], vs, h => by simpa only [List.map_nil, VAll] using h
  | x :: xs, vs, h => by
    simp only [List.map_cons, VAll] at h ⊢
    obtain ⟨v, r, e, h1, h2⟩ := h
    exact ⟨v, r, e, VRel.drop hS hβ h1, VAll.drop hS hβ xs r h2⟩

theorem ORel.drop {w w' : World} {β β' : Nat → Option Value} {S S' : Nat → Prop} {j : Nat} (hS : ∀ b, S b → S' b ∧ w'.heap[b]? = w.heap[b]?) (hβ : ∀ i, i ≠ j → β' i = β i) {v : Value}
    (hj : ∀ b, blk v = some b → w'.heap[b]? = w.heap[b]?) : ∀ {o : Ob}, ORel w β S v o → ORel w' β' S' v (dropOb j o)
  | .row k t xs, h => by
    simp only [ORel, dropOb] at h ⊢
    obtain ⟨h1, h2, h3⟩ := h
    exact ⟨h1.keep hj, h2, h3⟩
  | .rowD t sz es, h => by
    simp only [ORel, dropOb] at h ⊢
    obtain ⟨vs, h1, h2, h3, h4⟩ := h
    exact ⟨vs, h1.keep hj, RepAll.keep hS es vs h2, h3, h4⟩
  | .cell t cs, h => by
    simp only [ORel, dropOb] at h ⊢
    obtain ⟨b, vs, h1, h2, h3⟩ := h
    exact ⟨b, vs, h1, by rw [hj b (by rw [h1]; rfl)]; exact h2, VAll.drop hS hβ cs _ h3⟩

/-- Object j becomes another one; what names it elsewhere is forgotten. -/
def setO (j : Nat) (o : Ob) : List (Nat × Ob) → List (Nat × Ob)
  | [] => []
  | (i, p) :: r => (if i = j then (j, o) else (i, p)) :: setO j o r
def setOd (j : Nat) (o : Ob) : List (Nat × Ob) → List (Nat × Ob)
  | [] => []
  | (i, p) :: r => (if i = j then (j, o) else (i, dropOb j p)) :: setOd j o r
def delO (j : Nat) : List (Nat × Ob) → List (Nat × Ob)
  | [] => []
  | (i, p) :: r => if i = j then delO j r else (i, dropOb j p) :: delO j r

theorem setO_ids (j : Nat) (o : Ob) : ∀ st, (setO j o st).map (·.1) = st.map (·.1)
  | [] => rfl
  | (i, p) :: r => by simp only [setO, List.map_cons, setO_ids j o r]; split <;> simp_all
theorem setOd_ids (j : Nat) (o : Ob) : ∀ st, (setOd j o st).map (·.1) = st.map (·.1)
  | [] => rfl
  | (i, p) :: r => by simp only [setOd, List.map_cons, setOd_ids j o r]; split <;> simp_all
theorem mem_setO {j : Nat} {o : Ob} : ∀ {st : List (Nat × Ob)} {i : Nat} {p : Ob}, (i, p) ∈ setO j o st → (i = j ∧ p = o) ∨ (i ≠ j ∧ (i, p) ∈ st)
  | [], _, _, h => by simp [setO] at h
  | (k, q) :: r, i, p, h => by
    simp only [setO, List.mem_cons] at h
    rcases h with h | h
    · split at h
      · injection h with h1 h2; exact .inl ⟨h1, h2⟩
      · rename_i hne; injection h with h1 h2; subst h1; subst h2; exact .inr ⟨hne, by simp⟩
    · rcases mem_setO h with h | h
      · exact .inl h
      · exact .inr ⟨h.1, List.mem_cons_of_mem _ h.2⟩
theorem mem_setOd {j : Nat} {o : Ob} : ∀ {st : List (Nat × Ob)} {i : Nat} {p : Ob}, (i, p) ∈ setOd j o st → (i = j ∧ p = o) ∨ (i ≠ j ∧ ∃ q, (i, q) ∈ st ∧ p = dropOb j q)
  | [], _, _, h => by simp [setOd] at h
  | (k, q) :: r, i, p, h => by
    simp only [setOd, List.mem_cons] at h
    rcases h with h | h
    · split at h
      · injection h with h1 h2; exact .inl ⟨h1, h2⟩
      · rename_i hne; injection h with h1 h2; subst h1; subst h2; exact .inr ⟨hne, q, by simp⟩
    · rcases mem_setOd h with h | ⟨h, q', h2, h3⟩
      · exact .inl h
      · exact .inr ⟨h, q', List.mem_cons_of_mem _ h2, h3⟩
theorem mem_delO {j : Nat} : ∀ {st : List (Nat × Ob)} {i : Nat} {p : Ob}, (i, p) ∈ delO j st → i ≠ j ∧ ∃ q, (i, q) ∈ st ∧ p = dropOb j q
  | [], _, _, h => by simp [delO] at h
  | (k, q) :: r, i, p, h => by
    simp only [delO] at h
    split at h
    · obtain ⟨h1, q', h2, h3⟩ := mem_delO h
      exact ⟨h1, q', List.mem_cons_of_mem _ h2, h3⟩
    · rename_i hne
      simp only [List.mem_cons] at h
      rcases h with h | h
      · injection h with h1 h2; subst h1; subst h2; exact ⟨hne, q, by simp⟩
      · obtain ⟨h1, q', h2, h3⟩ := mem_delO h
        exact ⟨h1, q', List.mem_cons_of_mem _ h2, h3⟩
theorem delO_ids {j : Nat} : ∀ {st : List (Nat × Ob)}, (st.map (·.1)).Nodup → ((delO j st).map (·.1)).Nodup
  | [], h => by simp [delO]
  | (i, p) :: r, h => by
    simp only [List.map_cons, List.nodup_cons] at h
    simp only [delO]
    split
    · exact delO_ids h.2
    · simp only [List.map_cons, List.nodup_cons]
      refine ⟨fun hm => ?_, delO_ids h.2⟩
      obtain ⟨⟨k, q⟩, hk, rfl⟩ := List.mem_map.1 hm
      obtain ⟨_, q', h2, _⟩ := mem_delO hk
      exact h.1 (List.mem_map.2 ⟨_, h2, rfl⟩)

section
variable {P : Program} {C : Ctx} {s : AState} {β : Nat → Option Value} {S : Nat → Prop} {a : Act} {w w' : World}

theorem mem_id {st : List (Nat × Ob)} {j : Nat} {o : Ob} (h : (j, o) ∈ st) : j ∈ st.map (·.1) := List.mem_map.2 ⟨_, h, rfl⟩

theorem ARelB.id_lt (h : ARelB C s β S a w) {j : Nat} {o : Ob} (hj : (j, o) ∈ s.st) : j < s.nx := by
  obtain ⟨v, hv, _⟩ := h.st.obj j o hj
  rcases Nat.lt_or_ge j s.nx with h' | h'
  · exact h'
  · rw [h.nx j h'] at hv; cases hv

/-- What is imm stays as it is while the world grows beside one owned block. -/
theorem ARelB.imm (h : ARelB C s β S a w) {row : Option Nat} (hg : w.grownBy w' row) (hr : ∀ g, row = some g → Owned β s.st g) : ∀ b, S b → S b ∧ w'.heap[b]? = w.heap[b]? :=
  fun b hb => ⟨hb, hg.block b (h.st.inS b hb) fun e => (h.st.own b (hr b e.symm)).1 hb⟩

theorem fr_grown {S' own' : Nat → Prop} (h : ARelB C s β S a w) {row : Option Nat} (hg : w.grownBy w' row) (hr : ∀ g, row = some g → Owned β s.st g)
    (hS : ∀ b, S' b → S b ∨ Owned β s.st b ∨ w.heap.size ≤ b) (ho : ∀ b, own' b → Owned β s.st b ∨ w.heap.size ≤ b) : Fr C w' S' own' := by
  have hf := h.frame
  refine ⟨Nat.le_trans hf.size hg.size, hg.os.trans hf.os, hg.tape.trans hf.tape, hg.output.trans hf.output, fun b hb hE => ?_, fun b hb => ?_, fun b hb => ?_⟩
  · rw [hg.block b (Nat.lt_of_lt_of_le hb hf.size) fun e => ?_]
    · exact hf.old b hb hE
    · rcases hf.own b (hr b e.symm) with h' | h'
      · exact hE h'
      · omega
  · rcases hS b hb with h' | h' | h'
    · exact hf.inS b h'
    · exact .inr (hf.own b h')
    · exact .inr (.inr (Nat.le_trans hf.size h'))
  · rcases ho b hb with h' | h'
    · exact hf.own b h'
    · exact .inr (Nat.le_trans hf.size h')

theorem orel_cells {w : World} {β : Nat → Option Value} {S : Nat → Prop} {v : Value} {o : Ob} (h : ORel w β S v o) {b : Nat} (hb : blk v = some b) : ∃ cs t, w.heap[b]? = some (.cells cs t (0, 0)) := by
  have own : ∀ {t : TypeId} {sz n : Nat} {vs : List Value}, OwnsV w t sz v n vs → ∃ cs t, w.heap[b]? = some (.cells cs t (0, 0)) := fun {t sz n vs} h => by
    rcases h with ⟨A, rfl, _⟩ | ⟨g, cap, cur, rfl, hc, hh, _⟩
    · cases A <;> simp [blk] at hb
    · simp only [blk] at hb
      split at hb
      · cases hb
      · injection hb with hb; subst hb; exact ⟨_, _, hh⟩
  cases o with
  | row k t xs => simp only [ORel] at h; exact own h.1
  | rowD t sz es => simp only [ORel] at h; obtain ⟨vs, h1, _⟩ := h; exact own h1
  | cell t cs =>
    simp only [ORel] at h
    obtain ⟨g, vs, rfl, hh, _⟩ := h
    simp only [blk] at hb
    injection hb with hb; subst hb
    exact ⟨_, _, hh⟩

theorem SRel.cells {w : World} {β : Nat → Option Value} {S : Nat → Prop} {st : List (Nat × Ob)} (h : SRel w β S st) {b : Nat} (hb : Owned β st b) : ∃ cs t, w.heap[b]? = some (.cells cs t (0, 0)) := by
  obtain ⟨j, o, hj, hb⟩ := hb
  obtain ⟨v, hv, hr⟩ := h.obj j o hj
  rw [hv] at hb
  exact orel_cells hr hb

theorem Marks.keep {a : Act} {w w' : World} {S S' : Nat → Prop} (h : Marks C S a w)
    (hk : ∀ D : Nat, w.heap[D]? = some (Obj.deferred (some [])) → ¬ S D → w'.heap[D]? = some (Obj.deferred (some [])) ∧ ¬ S' D) : Marks C S' a w' :=
  ⟨fun d hd => by
    obtain ⟨D, e, hD, hS, hC⟩ := h.1 d hd
    exact ⟨D, e, (hk D hD hS).1, (hk D hD hS).2, hC⟩, h.2⟩

theorem ARelB.marks (h : ARelB C s β S a w) {row : Option Nat} (hg : w.grownBy w' row) (hr : ∀ g, row = some g → Owned β s.st g) : Marks C S a w' :=
  Marks.keep h.defers fun D hD hS => by
    have hlt : D < w.heap.size := (Array.getElem?_eq_some_iff.1 hD).1
    refine ⟨?_, hS⟩
    rw [hg.block D hlt fun e => ?_]
    · exact hD
    · obtain ⟨cs, t, hc⟩ := h.st.cells (hr D e.symm)
      rw [hD] at hc; cases hc

/-- L1: an owned object is written in place. -/
theorem ARelB.touch (h : ARelB C s β S a w) {j : Nat} {o o' : Ob} {v : Value} (hj : (j, o) ∈ s.st) (hv : β j = some v) (hg : w.grownBy w' (blk v)) (ho : ORel w' β S v o') :
    ARelB C { s with st := setO j o' s.st } β S a w' := by
  have hown : ∀ g, blk v = some g → Owned β s.st g := fun g e => ⟨j, o, hj, by rw [hv]; exact e⟩
  have himm := h.imm hg hown
  have hnd := setO_ids j o' s.st
  have hsame : ∀ b, Owned β (setO j o' s.st) b ↔ Owned β s.st b := fun b => by
    constructor
    · rintro ⟨i, p, hi, hb⟩
      rcases mem_setO hi with ⟨rfl, _⟩ | ⟨_, hi⟩
      · exact ⟨_, o, hj, hb⟩
      · exact ⟨i, p, hi, hb⟩
    · rintro ⟨i, p, hi, hb⟩
      have : i ∈ (setO j o' s.st).map (·.1) := by rw [hnd]; exact mem_id hi
      obtain ⟨⟨i', p'⟩, hm, rfl⟩ := List.mem_map.1 this
      exact ⟨_, p', hm, hb⟩
  refine ⟨fun t => VRel.keep himm (fun _ _ e => e) _ _ (h.fr t), h.size, ⟨fun i p hi => ?_, by rw [hnd]; exact h.st.nodup, fun i p k q hi hk hne b hb => ?_, fun b hb => ?_, fun b hb => ?_⟩, ?_, h.nx, h.marks hg hown, h.pin, h.nxm⟩
  · rcases mem_setO hi with ⟨rfl, rfl⟩ | ⟨hne, hi⟩
    · exact ⟨v, hv, ho⟩
    · obtain ⟨u, hu, hr⟩ := h.st.obj i p hi
      refine ⟨u, hu, hr.keep himm (fun _ _ e => e) fun b hb => hg.block b (h.st.own b ⟨i, p, hi, by rw [hu]; exact hb⟩).2 fun e => ?_⟩
      exact h.st.apart i p j o hi hj hne b (by rw [hu]; exact hb) (by rw [hv]; exact e.symm)
  · have h1 : ∃ p', (i, p') ∈ s.st := by
      rcases mem_setO hi with ⟨rfl, _⟩ | ⟨_, hi⟩
      · exact ⟨o, hj⟩
      · exact ⟨p, hi⟩
    have h2 : ∃ q', (k, q') ∈ s.st := by
      rcases mem_setO hk with ⟨rfl, _⟩ | ⟨_, hk⟩
      · exact ⟨o, hj⟩
      · exact ⟨q, hk⟩
    obtain ⟨p', h1⟩ := h1
    obtain ⟨q', h2⟩ := h2
    exact h.st.apart i p' k q' h1 h2 hne b hb
  · have := h.st.own b ((hsame b).1 hb)
    exact ⟨this.1, Nat.lt_of_lt_of_le this.2 hg.size⟩
  · exact Nat.lt_of_lt_of_le (h.st.inS b hb) hg.size
  · exact fr_grown h hg hown (fun b hb => .inl hb) fun b hb => .inl ((hsame b).1 hb)

def updO (β : Nat → Option Value) (j : Nat) (v : Value) : Nat → Option Value := fun i => if i = j then some v else β i

/-- L2: a new object. -/
theorem ARelB.fresh (h : ARelB C s β S a w) {o' : Ob} {v : Value} (hg : w.grownBy w' none) (hb : ∀ b, blk v = some b → w.heap.size ≤ b ∧ b < w'.heap.size) (ho : ORel w' (updO β s.nx v) S v o') :
    ARelB C { s with st := (s.nx, o') :: s.st, nx := s.nx + 1 } (updO β s.nx v) S a w' := by
  have himm := h.imm hg (by simp)
  have hβ : ∀ i u, β i = some u → updO β s.nx v i = some u := fun i u e => by
    unfold updO
    rw [if_neg]
    · exact e
    · rintro rfl; rw [h.nx _ (Nat.le_refl _)] at e; cases e
  have hnew : updO β s.nx v s.nx = some v := by simp [updO]
  have hold : ∀ {i p}, (i, p) ∈ s.st → updO β s.nx v i = β i := fun {i p} hi => by
    obtain ⟨u, hu, _⟩ := h.st.obj i p hi
    rw [hβ i u hu, hu]
  have hown : ∀ b, Owned (updO β s.nx v) ((s.nx, o') :: s.st) b → Owned β s.st b ∨ (w.heap.size ≤ b ∧ b < w'.heap.size) := fun b => by
    rintro ⟨i, p, hi, hbb⟩
    rcases List.mem_cons.1 hi with hi | hi
    · injection hi with h1 h2
      subst h1
      rw [hnew] at hbb
      exact .inr (hb b hbb)
    · exact .inl ⟨i, p, hi, by rw [hold hi] at hbb; exact hbb⟩
  refine ⟨fun t => VRel.keep himm hβ _ _ (h.fr t), h.size, ⟨fun i p hi => ?_, ?_, fun i p k q hi hk hne b hbb hbk => ?_, fun b hbb => ?_, fun b hbb => ?_⟩, ?_, fun j hj => ?_, h.marks hg (by simp), fun j hj => ?_, Nat.le_succ_of_le h.nxm⟩
  · rcases List.mem_cons.1 hi with hi | hi
    · injection hi with h1 h2
      subst h1; subst h2
      exact ⟨v, hnew, ho⟩
    · obtain ⟨u, hu, hr⟩ := h.st.obj i p hi
      exact ⟨u, hβ i u hu, hr.keep himm hβ fun b hbb => hg.block b (h.st.own b ⟨i, p, hi, by rw [hu]; exact hbb⟩).2 (by simp)⟩
  · simp only [List.map_cons, List.nodup_cons]
    refine ⟨fun hm => ?_, h.st.nodup⟩
    obtain ⟨⟨i, p⟩, hi, e⟩ := List.mem_map.1 hm
    have := h.id_lt hi
    simp at e
    omega
  · rcases List.mem_cons.1 hi with hi | hi <;> rcases List.mem_cons.1 hk with hk | hk
    · injection hi with h1 _; injection hk with h2 _
      exact hne (h1.trans h2.symm)
    · injection hi with h1 _
      subst h1
      rw [hnew] at hbb
      rw [hold hk] at hbk
      have := hb b hbb
      have := (h.st.own b ⟨k, q, hk, hbk⟩).2
      omega
    · injection hk with h1 _
      subst h1
      rw [hnew] at hbk
      rw [hold hi] at hbb
      have := hb b hbk
      have := (h.st.own b ⟨i, p, hi, hbb⟩).2
      omega
    · rw [hold hi] at hbb
      rw [hold hk] at hbk
      exact h.st.apart i p k q hi hk hne b hbb hbk
  · rcases hown b hbb with h' | h'
    · have := h.st.own b h'
      exact ⟨this.1, Nat.lt_of_lt_of_le this.2 hg.size⟩
    · exact ⟨fun hs => by have := h.st.inS b hs; omega, h'.2⟩
  · exact Nat.lt_of_lt_of_le (h.st.inS b hbb) hg.size
  · exact fr_grown h hg (by simp) (fun b hb => .inl hb) fun b hb => (hown b hb).imp id (·.1)
  · simp only at hj
    unfold updO
    rw [if_neg (by omega)]
    exact h.nx j (by omega)
  · have := h.nxm
    unfold updO
    rw [if_neg (by omega)]
    exact h.pin j hj

/-- L3: an owned object may move; what named it is forgotten. -/
theorem ARelB.move (h : ARelB C s β S a w) {j : Nat} (hjm : C.m ≤ j) {o o' : Ob} {v v' : Value} (hj : (j, o) ∈ s.st) (hv : β j = some v) (hg : w.grownBy w' (blk v))
    (hb : ∀ b, blk v' = some b → (blk v = some b ∨ (w.heap.size ≤ b ∧ b < w'.heap.size))) (ho : ORel w' (updO β j v') S v' o') :
    ARelB C { s with st := setOd j o' s.st, fr := fun t => dropV j (s.fr t) } (updO β j v') S a w' := by
  have hown : ∀ g, blk v = some g → Owned β s.st g := fun g e => ⟨j, o, hj, by rw [hv]; exact e⟩
  have himm := h.imm hg hown
  have hnd := setOd_ids j o' s.st
  have hβ : ∀ i, i ≠ j → updO β j v' i = β i := fun i hi => by simp [updO, hi]
  have hnew : updO β j v' j = some v' := by simp [updO]
  have hOwn : ∀ b, Owned (updO β j v') (setOd j o' s.st) b → Owned β s.st b ∨ (w.heap.size ≤ b ∧ b < w'.heap.size) := fun b => by
    rintro ⟨i, p, hi, hbb⟩
    rcases mem_setOd hi with ⟨rfl, _⟩ | ⟨hne, q, hi, _⟩
    · rw [hnew] at hbb
      rcases hb b hbb with h' | h'
      · exact .inl (hown b h')
      · exact .inr h'
    · rw [hβ i hne] at hbb
      exact .inl ⟨i, q, hi, hbb⟩
  refine ⟨fun t => VRel.drop himm hβ (h.fr t), h.size, ⟨fun i p hi => ?_, by rw [hnd]; exact h.st.nodup, fun i p k q hi hk hne b hbb hbk => ?_, fun b hbb => ?_, fun b hbb => ?_⟩, ?_, fun i hi => ?_, h.marks hg hown, fun i hi => ?_, h.nxm⟩
  · rcases mem_setOd hi with ⟨rfl, rfl⟩ | ⟨hne, q, hiq, rfl⟩
    · exact ⟨v', hnew, ho⟩
    · obtain ⟨u, hu, hr⟩ := h.st.obj i q hiq
      refine ⟨u, by rw [hβ i hne]; exact hu, hr.drop himm hβ fun b hbb => hg.block b (h.st.own b ⟨i, q, hiq, by rw [hu]; exact hbb⟩).2 fun e => ?_⟩
      exact h.st.apart i q j o hiq hj hne b (by rw [hu]; exact hbb) (by rw [hv]; exact e.symm)
  · have key : ∀ {i p}, (i, p) ∈ setOd j o' s.st → i ≠ j → ∃ q, (i, q) ∈ s.st := fun hi hne => by
      rcases mem_setOd hi with ⟨e, _⟩ | ⟨_, q, hi, _⟩
      · exact (hne e).elim
      · exact ⟨q, hi⟩
    by_cases e1 : i = j
    · subst e1
      have e2 : k ≠ i := fun e => hne e.symm
      obtain ⟨q', hq'⟩ := key hk e2
      rw [hnew] at hbb
      rw [hβ k e2] at hbk
      rcases hb b hbb with h' | h'
      · exact h.st.apart k q' i o hq' hj e2 b hbk (by rw [hv]; exact h')
      · have := (h.st.own b ⟨k, q', hq', hbk⟩).2
        omega
    · obtain ⟨p', hp'⟩ := key hi e1
      rw [hβ i e1] at hbb
      by_cases e2 : k = j
      · subst e2
        rw [hnew] at hbk
        rcases hb b hbk with h' | h'
        · exact h.st.apart i p' k o hp' hj e1 b hbb (by rw [hv]; exact h')
        · have := (h.st.own b ⟨i, p', hp', hbb⟩).2
          omega
      · obtain ⟨q', hq'⟩ := key hk e2
        rw [hβ k e2] at hbk
        exact h.st.apart i p' k q' hp' hq' hne b hbb hbk
  · rcases hOwn b hbb with h' | h'
    · have := h.st.own b h'
      exact ⟨this.1, Nat.lt_of_lt_of_le this.2 hg.size⟩
    · exact ⟨fun hs => by have := h.st.inS b hs; omega, h'.2⟩
  · exact Nat.lt_of_lt_of_le (h.st.inS b hbb) hg.size
  · exact fr_grown h hg hown (fun b hb => .inl hb) fun b hb => (hOwn b hb).imp id (·.1)
  · have : i ≠ j := by
      have := h.id_lt hj
      simp only at hi
      omega
    simp only [hβ i this]
    exact h.nx i hi
  · rw [hβ i (by omega)]
    exact h.pin i hi

/-- A slot is written. -/
theorem ARelB.put (h : ARelB C s β S a w) {dst : Option Tmp} {x : AVal} {v : Value} (hx : VRel w β S x v) (hd : ∀ t, dst = some t → t < s.n) : ARelB C (s.put dst x) β S (a.put dst v) w := by
  cases dst with
  | none => exact h
  | some t =>
    have ht := hd t rfl
    refine ⟨fun u => ?_, ?_, h.st, h.frame, h.nx, h.defers, h.pin, h.nxm⟩
    · simp only [AState.put, upd, Act.put]
      split
      · rename_i e
        subst e
        simpa [Array.getElem?_setIfInBounds, h.size, ht] using hx
      · rename_i hne
        have := h.fr u
        rw [Array.getD_eq_getD_getElem?] at this ⊢
        rwa [Array.getElem?_setIfInBounds_ne (fun e => hne e.symm)]
    · simp [AState.put, Act.put, h.size]

end
end Go.Proofs.Ytniaeiikdgbnfaa.AW
