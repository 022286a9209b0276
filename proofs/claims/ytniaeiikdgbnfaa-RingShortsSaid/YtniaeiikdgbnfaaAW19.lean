/- The abstract walker, part 19: contracts of functions; names of objects; the end of a call. -/
import Derived.Test.YtniaeiikdgbnfaaAW18
namespace Go.Proofs.Ytniaeiikdgbnfaa.AW
open Go Go.RowKit

mutual
def renV (ρ : Nat → Nat) : AVal → AVal
  | .own i => .own (ρ i)
  | .view i off len => .view (ρ i) off len
  | .optr i off => .optr (ρ i) off
  | .ag t cs => .ag t (renL ρ cs)
  | .tup cs => .tup (renL ρ cs)
  | .ofn f cs => .ofn f (renL ρ cs)
  | .any => .any
  | .un => .un
  | .d x => .d x
  | .em x => .em x
  | .nls x => .nls x
def renL (ρ : Nat → Nat) : List AVal → List AVal
  | [] => []
  | x :: r => renV ρ x :: renL ρ r
end

def renOb (ρ : Nat → Nat) : Ob → Ob
  | .cell t cs => .cell t (renL ρ cs)
  | .row k t xs => .row k t xs
  | .rowD t sz es => .rowD t sz es

def renSt (ρ : Nat → Nat) : List (Nat × Ob) → List (Nat × Ob)
  | [] => []
  | (i, o) :: r => (ρ i, renOb ρ o) :: renSt ρ r

section
variable {w : World} {β : Nat → Option Value} {S : Nat → Prop} {ρ : Nat → Nat}

mutual
theorem renV_iff : ∀ (x : AVal) (v : Value), VRel w (fun i => β (ρ i)) S x v ↔ VRel w β S (renV ρ x) v
  | .any, v => by simp only [VRel, renV]
  | .un, v => by simp only [VRel, renV]
  | .d x, v => by simp only [VRel, renV]
  | .em x, v => by simp only [VRel, renV]
  | .nls x, v => by simp only [VRel, renV]
  | .own i, v => by simp only [VRel, renV]
  | .view i off len, v => by simp only [VRel, renV]
  | .optr i off, v => by simp only [VRel, renV]
  | .ag t cs, v => by
    simp only [VRel, renV]
    exact exists_congr fun vs => and_congr Iff.rfl (renL_iff cs _)
  | .tup cs, v => by
    simp only [VRel, renV]
    exact exists_congr fun vs => and_congr Iff.rfl (renL_iff cs _)
  | .ofn f cs, v => by
    simp only [VRel, renV]
    exact exists_congr fun vs => and_congr Iff.rfl (renL_iff cs _)
theorem renL_iff : ∀ (xs : List AVal) (vs : List Value), VAll w (fun i => β (ρ i)) S xs vs ↔ VAll w β S (renL ρ xs) vs
  | [], vs => by simp only [VAll, renL]
  | x :: xs, vs => by
    simp only [VAll, renL]
    exact exists_congr fun v => exists_congr fun r => and_congr Iff.rfl (and_congr (renV_iff x v) (renL_iff xs r))
end

theorem renOb_iff {v : Value} (o : Ob) : ORel w (fun i => β (ρ i)) S v o ↔ ORel w β S v (renOb ρ o) := by
  cases o with
  | row k t xs => simp only [ORel, renOb]
  | rowD t sz es => simp only [ORel, renOb]
  | cell t cs =>
    simp only [ORel, renOb]
    exact exists_congr fun b => exists_congr fun vs => and_congr Iff.rfl (and_congr Iff.rfl (renL_iff cs _))

theorem mem_renSt : ∀ {st : List (Nat × Ob)} {j : Nat} {p : Ob}, (j, p) ∈ renSt ρ st ↔ ∃ i o, (i, o) ∈ st ∧ j = ρ i ∧ p = renOb ρ o
  | [], j, p => by simp [renSt]
  | (k, q) :: r, j, p => by
    simp only [renSt, List.mem_cons, mem_renSt (st := r)]
    constructor
    · rintro (h | ⟨i, o, h1, h2, h3⟩)
      · injection h with h1 h2; exact ⟨k, q, .inl rfl, h1, h2⟩
      · exact ⟨i, o, .inr h1, h2, h3⟩
    · rintro ⟨i, o, h | h, h2, h3⟩
      · injection h with h4 h5; subst h4; subst h5; exact .inl (by rw [h2, h3])
      · exact .inr ⟨i, o, h, h2, h3⟩
theorem renSt_ids : ∀ (st : List (Nat × Ob)), (renSt ρ st).map (·.1) = st.map fun p => ρ p.1
  | [] => rfl
  | (k, q) :: r => by simp only [renSt, List.map_cons, renSt_ids r]
end

/-- The callee's number i, in the caller's numbers: 'l' names what is handed in. -/
def rho (l : List Nat) (nx : Nat) (i : Nat) : Nat := match l[i]? with
  | some j => j
  | none => nx + (i - l.length)

def dropIds (l : List Nat) : List (Nat × Ob) → List (Nat × Ob)
  | [] => []
  | (i, o) :: r => if l.contains i = true then dropIds l r else (i, o) :: dropIds l r

def stIn (l : List Nat) (nx : Nat) (sst : List (Nat × Ob)) : List (Nat × Ob) → Prop
  | [] => True
  | (i, o) :: r => (i < l.length ∧ getO sst (rho l nx i) = some (renOb (rho l nx) o)) ∧ stIn l nx sst r

theorem stIn_mem {l : List Nat} {nx : Nat} {sst : List (Nat × Ob)} : ∀ {st : List (Nat × Ob)}, stIn l nx sst st → ∀ {i o}, (i, o) ∈ st → i < l.length ∧ (rho l nx i, renOb (rho l nx) o) ∈ sst
  | [], _, i, o, h => by simp at h
  | (k, q) :: r, hs, i, o, h => by
    simp only [stIn] at hs
    rcases List.mem_cons.1 h with h | h
    · injection h with h1 h2; subst h1; subst h2
      exact ⟨hs.1.1, getO_mem hs.1.2⟩
    · exact stIn_mem hs.2 h

theorem rho_lt {l : List Nat} {nx i : Nat} (h : i < l.length) : rho l nx i = l[i] := by simp [rho, h]
theorem rho_ge {l : List Nat} {nx i : Nat} (h : l.length ≤ i) : rho l nx i = nx + (i - l.length) := by simp [rho, h]

theorem nodup_get {l : List Nat} (hn : l.Nodup) {i j : Nat} (hi : i < l.length) (hj : j < l.length) (h : l[i] = l[j]) : i = j := by
  have hp := List.pairwise_iff_getElem.1 hn
  rcases Nat.lt_trichotomy i j with h1 | h1 | h1
  · exact (hp i j hi hj h1 h).elim
  · exact h1
  · exact (hp j i hj hi h1 h.symm).elim

theorem rho_inj {l : List Nat} {nx : Nat} (hn : l.Nodup) (hb : ∀ j ∈ l, j < nx) {i j : Nat} (h : rho l nx i = rho l nx j) : i = j := by
  rcases Nat.lt_or_ge i l.length with hi | hi <;> rcases Nat.lt_or_ge j l.length with hj | hj
  · rw [rho_lt hi, rho_lt hj] at h
    exact nodup_get hn hi hj h
  · rw [rho_lt hi, rho_ge hj] at h
    have := hb _ (List.getElem_mem hi)
    omega
  · rw [rho_ge hi, rho_lt hj] at h
    have := hb _ (List.getElem_mem hj)
    omega
  · rw [rho_ge hi, rho_ge hj] at h
    omega

/-! ### Contracts -/

/-- WHAT A FUNCTION COMES TO: handed 'args', which name the objects of 'st' (numbers below 'm'). -/
def CSpec (P : Program) (f : FuncId) (args : List AVal) (st : List (Nat × Ob)) (m : Nat) (K : List (Nat × Ob) → Nat → AVal → Prop) : Prop :=
  Enters P f ∧ ∀ w β S vs, SRel w β S st → (∀ j, m ≤ j → β j = none) → VAll w β S args vs →
    Calls P f vs.toArray w fun e w' => ∃ v st' nx' r β' S', e = .returned v ∧ Fr ⟨w, S, Owned β st, m, β, none⟩ w' S' (Owned β' st') ∧ SRel w' β' S' st' ∧
      (∀ j, nx' ≤ j → β' j = none) ∧ m ≤ nx' ∧ (∀ j, j < m → β' j = β j) ∧ VRel w' β' S' r v ∧ K st' nx' r

/-- A function's results. -/
def resV (P : Program) (s : AState) : List ResultVar → (List AVal → Prop) → Prop
  | [], K => K []
  | .tmp t :: r, K => forceV (s.fr t) fun v => resV P s r fun vs => K (v :: vs)
  | .cell x t :: r, K => qLoad P s t (s.fr x) fun v => forceV v fun v => resV P s r fun vs => K (v :: vs)

def oneR (K : AVal → Prop) : List AVal → Prop
  | [v] => K v
  | vs => K (.tup vs)

def nodupB : List Nat → Bool
  | [] => true
  | x :: r => !(r.contains x) && nodupB r
theorem nodupB_spec : ∀ {l : List Nat}, nodupB l = true → l.Nodup
  | [], _ => by simp
  | x :: r, h => by
    simp only [nodupB, Bool.and_eq_true, Bool.not_eq_true', List.nodup_cons] at h ⊢
    refine ⟨fun hm => ?_, nodupB_spec h.2⟩
    have := List.contains_iff_mem.2 hm
    rw [h.1] at this
    cases this
def idsOf : List (Nat × Ob) → List Nat
  | [] => []
  | (i, _) :: r => i :: idsOf r
theorem idsOf_eq : ∀ st, idsOf st = st.map (·.1)
  | [] => rfl
  | (i, _) :: r => by simp only [idsOf, List.map_cons, idsOf_eq r]
/-- Are these names of objects told apart, below 'nx', with the first m where they were? -/
def wkB (m nx : Nat) (l : List Nat) (st : List (Nat × Ob)) : Bool :=
  nodupB l && l.all (fun j => decide (j < nx)) && (List.range m).all (fun j => l[j]? == some j) && nodupB (idsOf st)
theorem wkB_spec {m nx : Nat} {l : List Nat} {st : List (Nat × Ob)} (h : wkB m nx l st = true) : l.Nodup ∧ (∀ j ∈ l, j < nx) ∧ (∀ j, j < m → l[j]? = some j) ∧ (st.map (·.1)).Nodup := by
  simp only [wkB, Bool.and_eq_true, List.all_eq_true, decide_eq_true_eq, beq_iff_eq, List.mem_range] at h
  exact ⟨nodupB_spec h.1.1.1, h.1.1.2, h.1.2, by rw [← idsOf_eq]; exact nodupB_spec h.2⟩

/-- The end: objects that nobody names any more are forgotten, the others get new numbers: 'l'. -/
structure Fin (m : Nat) (st : List (Nat × Ob)) (nx : Nat) (r : AVal) (l : List Nat) (st2 : List (Nat × Ob)) (r2 : AVal) : Prop where
  ok : wkB m nx l st2 = true
  st : stIn l nx st st2
  r : r = renV (rho l nx) r2
structure Ends (m : Nat) (K : List (Nat × Ob) → Nat → AVal → Prop) (st : List (Nat × Ob)) (nx : Nat) (r : AVal) : Prop where
  out : ∃ l st2 r2, Fin m st nx r l st2 r2 ∧ K st2 l.length r2

def AState.ends : AState → (List (Nat × Ob) → Nat → Prop) → Prop
  | ⟨_, _, st, nx⟩, K => forceSt st fun st => K st nx

def endQ (P : Program) (rs : List ResultVar) (fz : List Tmp) (K : List (Nat × Ob) → Nat → AVal → Prop) : Exit → AState → Prop
  | .normal, s => qFreezes P fz s fun s => resV P s rs fun vs => s.ends fun st nx => oneR (K st nx) vs
  | .ret, s => qFreezes P fz s fun s => resV P s rs fun vs => s.ends fun st nx => oneR (K st nx) vs
  | _, _ => False

section
variable {P : Program} {C : Ctx} {s : AState} {β : Nat → Option Value} {S : Nat → Prop} {a : Act} {w : World}

theorem qLoad_mono {t : TypeId} {x : AVal} {K K' : AVal → Prop} (hk : ∀ v, K v → K' v) (h : qLoad P s t x K) : qLoad P s t x K' := by
  unfold qLoad at h ⊢
  split at h
  · exact ⟨h.1, h.2.1, hk _ h.2.2⟩
  · split at h
    · split at h
      · exact ⟨h.1, h.2.1, hk _ h.2.2⟩
      · split at h
        · exact hk _ h
        · exact h.elim
      · exact h.elim
    · exact ⟨h.1, h.2.1, hk _ h.2.2⟩
    · exact ⟨h.1, h.2.1, h.2.2.1, h.2.2.2.1, hk _ h.2.2.2.2⟩
    · exact h.elim
  · exact h.elim

def resOne (tmps : Array Value) : ResultVar → Sem Value
  | .tmp t => pure (tmps.getD t undef)
  | .cell x t => do loadVar t (← asAddr (tmps.getD x undef))

theorem resV_sound (h : ARelB C s β S a w) : ∀ {rs : List ResultVar} {K : List AVal → Prop}, resV P s rs K →
    ∃ vs xs, (rs.mapM (resOne a.tmps)).run P w = .ok vs w ∧ VAll w β S xs vs ∧ K xs
  | [], K, hq => ⟨[], [], by simp, by simp [VAll], hq⟩
  | .tmp t :: r, K, hq => by
    simp only [resV] at hq
    have hq := forceV_of _ hq
    obtain ⟨vs, xs, h1, h2, h3⟩ := resV_sound h hq
    refine ⟨a.tmps.getD t undef :: vs, s.fr t :: xs, ?_, ?_, h3⟩
    · simp only [List.mapM_cons, resOne, Sem.run_bind, Sem.run_pure, Result.andThen_ok, h1]
    · simp only [VAll]; exact ⟨_, _, rfl, h.fr t, h2⟩
  | .cell x t :: r, K, hq => by
    simp only [resV] at hq
    have hx := h.fr x
    obtain ⟨u, y, h1, h2, hq⟩ := qLoad_sound h hx hq
    have hq := forceV_of _ hq
    obtain ⟨vs, xs, h3, h4, h5⟩ := resV_sound h hq
    refine ⟨u :: vs, y :: xs, ?_, ?_, h5⟩
    · have e : (resOne a.tmps (.cell x t)).run P w = .ok u w := by
        show (do loadVar t (← asAddr (a.tmps.getD x undef)) : Sem Value).run P w = .ok u w
        have := h1 w (Ext.refl w)
        revert this
        generalize a.tmps.getD x undef = v
        intro this
        simp only [Instr.loadAt, Sem.run_bind] at this ⊢
        cases v <;> try (simp [Instr.sureAddr, stuck] at this; done)
        rename_i ad
        cases ad with
        | none => simp [Instr.sureAddr, stuck] at this
        | some ad => simpa [Instr.sureAddr, asAddr] using this
      simp only [List.mapM_cons]
      rw [Sem.run_bind, e]
      simp only [Result.andThen_ok, Sem.run_bind, h3, Sem.run_pure]
    · simp only [VAll]; exact ⟨_, _, rfl, h2, h4⟩

theorem resV_mono {K K' : List AVal → Prop} (hk : ∀ vs, K vs → K' vs) : ∀ {rs : List ResultVar}, resV P s rs K → resV P s rs K'
  | [], h => hk _ h
  | .tmp t :: r, h => by
    simp only [resV] at h ⊢
    have h := forceV_of _ h
    exact forceV_to _ (resV_mono (fun vs hv => hk _ hv) h)
  | .cell x t :: r, h => by
    simp only [resV] at h ⊢
    exact qLoad_mono (fun v hv => forceV_to _ (resV_mono (fun vs hv => hk _ hv) (forceV_of _ hv))) h

theorem oneR_sound {vs : List Value} {xs : List AVal} {K : AVal → Prop} (h : VAll w β S xs vs) (hq : oneR K xs) : ∃ r, VRel w β S r (if h : vs.toArray.size = 1 then vs.toArray[0] else .tuple vs.toArray) ∧ K r := by
  unfold oneR at hq
  split at hq
  · simp only [VAll] at h
    obtain ⟨v, r, rfl, h1, rfl⟩ := h
    exact ⟨_, by simpa using h1, hq⟩
  · rename_i hne
    refine ⟨_, ?_, hq⟩
    have hl := VAll.length _ _ h
    have : ¬ vs.toArray.size = 1 := fun e => by
      have : xs.length = 1 := by rw [← hl]; simpa using e
      match xs, this with
      | [v], _ => exact hne v rfl
    rw [dif_neg this]
    simp only [VRel]
    exact ⟨_, rfl, by simpa using h⟩

theorem results_sound (h : ARelB C s β S a w) {fn : Func} {K : AVal → Prop} (hq : resV P s fn.results.toList (oneR K)) : ∃ v r, (results fn a.tmps).run P w = .ok v w ∧ VRel w β S r v ∧ K r := by
  obtain ⟨vs, xs, h1, h2, h3⟩ := resV_sound h hq
  obtain ⟨r, h4, h5⟩ := oneR_sound h2 h3
  refine ⟨_, r, ?_, h4, h5⟩
  have e : results fn a.tmps = (do let vs ← fn.results.mapM (resOne a.tmps); pure (if h : vs.size = 1 then vs[0] else .tuple vs) : Sem Value) := by
    unfold results
    congr 1
  rw [e, Array.mapM_eq_mapM_toList]
  simp only [Sem.run_bind, map_eq_pure_bind, h1, Result.andThen_ok, Sem.run_pure]

theorem CSpec.ends {f : FuncId} {args : List AVal} {st : List (Nat × Ob)} {m : Nat} {K : List (Nat × Ob) → Nat → AVal → Prop} (h : CSpec P f args st m (Ends m K)) : CSpec P f args st m K := by
  refine ⟨h.1, fun w β S vs hs hβ ha => Calls.mono (h.2 w β S vs hs hβ ha) fun e w' hh => ?_⟩
  obtain ⟨v, st', nx', r, β', S', he, hf, hs', hn, hm, hp, hr, l, st2, r2, hw, hK⟩ := hh
  obtain ⟨hwnd, hwlt, hwpin, hwids⟩ := wkB_spec hw.ok
  have hb0 : ∀ {i o}, (i, o) ∈ st2 → i < l.length ∧ (rho l nx' i, renOb (rho l nx') o) ∈ st' := fun hi => stIn_mem hw.st hi
  have hown : ∀ b, Owned (fun i => β' (rho l nx' i)) st2 b → Owned β' st' b := fun b ⟨i, o, hi, hb⟩ => ⟨_, _, (hb0 hi).2, hb⟩
  refine ⟨v, st2, l.length, r2, fun i => β' (rho l nx' i), S', he, ⟨hf.size, hf.os, hf.tape, hf.output, hf.old, hf.inS, fun b hb => hf.own b (hown b hb)⟩, ⟨fun i o hi => ?_, hwids, fun i o j o' hi hj hne => ?_, fun b hb => hs'.own b (hown b hb), hs'.inS⟩, fun j hj => ?_, ?_, fun j hj => ?_, ?_, hK⟩
  · obtain ⟨v, h1, h2⟩ := hs'.obj _ _ (hb0 hi).2
    exact ⟨v, h1, (renOb_iff o).2 h2⟩
  · exact hs'.apart _ _ _ _ (hb0 hi).2 (hb0 hj).2 fun e => hne (rho_inj hwnd hwlt e)
  · simp only
    rw [rho_ge hj]
    exact hn _ (by omega)
  · rcases Nat.eq_zero_or_pos m with h0 | h0
    · omega
    · have := hwpin (m - 1) (by omega)
      have := (List.getElem?_eq_some_iff.1 this).1
      omega
  · have e : rho l nx' j = j := by unfold rho; rw [hwpin j hj]
    show β' (rho l nx' j) = β j
    rw [e]
    exact hp j hj
  · rw [renV_iff, ← hw.r]; exact hr

/-- The same world, but for what is laid aside for the activation's end. -/
structure Shut (ds : List Deferred) (w w' : World) : Prop where
  os : w'.os = w.os
  tape : w'.tape = w.tape
  output : w'.output = w.output
  size : w'.heap.size = w.heap.size
  block : ∀ b, (∀ d ∈ ds, d ≠ { target := .collected b, args := #[] }) → w'.heap[b]? = w.heap[b]?

theorem marks_leave {F : Fence} {n : Nat} {fn : Func} {tmps : Array Value} {R : Ending → World → Prop} : ∀ (ds : List Deferred) (w : World),
    (∀ d ∈ ds, ∃ D, d = { target := .collected D, args := #[] } ∧ w.heap[D]? = some (.deferred (some []))) → ds.Nodup →
    (∀ w', Shut ds w w' → LeavesIn F n P fn tmps R [] .returning w') → LeavesInM F n P fn tmps R ds .returning w
  | [], w, _, _, h => by simp only [LeavesInM]; exact h w ⟨rfl, rfl, rfl, rfl, fun _ _ => rfl⟩
  | d :: ds, w, hd, hn, h => by
    obtain ⟨D, rfl, hD⟩ := hd d (by simp)
    simp only [List.nodup_cons] at hn
    simp only [LeavesInM]
    refine ⟨by simp, .inl ⟨D, _, rfl, run_takeDeferred hD, marks_leave ds _ (fun d' hd' => ?_) hn.2 fun w' hs => h w' ?_⟩⟩
    · obtain ⟨D', rfl, hD'⟩ := hd d' (by simp [hd'])
      refine ⟨D', rfl, (World.putObj_heap_other fun e => hn.1 ?_).trans hD'⟩
      rw [← e]; exact hd'
    · refine ⟨hs.os, hs.tape, hs.output, hs.size.trans (by simp), fun b hb => (hs.block b fun d' hd' => hb d' (by simp [hd'])).trans (World.putObj_heap_other fun e => ?_)⟩
      exact hb { target := .collected D, args := #[] } (by simp) (by rw [e])

theorem ARelB.shut (h : ARelB C s β S a w) {w' : World} (hs : Shut a.defers w w') : ARelB C s β S { a with defers := [] } w' := by
  have hno : ∀ b, (¬ ∃ d ∈ a.defers, d = { target := .collected b, args := #[] }) → w'.heap[b]? = w.heap[b]? := fun b hb => hs.block b fun d hd e => hb ⟨d, hd, e⟩
  have hm : ∀ b d, d ∈ a.defers → d = { target := .collected b, args := #[] } → w.heap[b]? = some (.deferred (some [])) ∧ ¬ S b ∧ C.w0.heap.size ≤ b := fun b d hd e => by
    obtain ⟨D, e2, h1, h2, h3⟩ := h.defers.1 d hd
    have : D = b := by rw [e2] at e; simpa using e
    subst this
    exact ⟨h1, h2, h3⟩
  have hS : ∀ b, S b → S b ∧ w'.heap[b]? = w.heap[b]? := fun b hb => ⟨hb, hno b fun ⟨d, hd, e⟩ => (hm b d hd e).2.1 hb⟩
  refine ⟨fun t => VRel.keep hS (fun _ _ e => e) _ _ (h.fr t), h.size, ⟨fun j o hj => ?_, h.st.nodup, h.st.apart, fun b hb => ⟨(h.st.own b hb).1, by rw [hs.size]; exact (h.st.own b hb).2⟩, fun b hb => by rw [hs.size]; exact h.st.inS b hb⟩,
    ⟨by rw [hs.size]; exact h.frame.size, hs.os.trans h.frame.os, hs.tape.trans h.frame.tape, hs.output.trans h.frame.output, fun b hb hE => (hno b fun ⟨d, hd, e⟩ => ?_).trans (h.frame.old b hb hE), h.frame.inS, h.frame.own⟩,
    h.nx, ⟨fun d hd => by simp at hd, by simp, fun _ => rfl⟩, h.pin, h.nxm⟩
  · obtain ⟨v, hv, hr⟩ := h.st.obj j o hj
    refine ⟨v, hv, hr.keep hS (fun _ _ e => e) fun b hb => hno b fun ⟨d, hd, e⟩ => ?_⟩
    obtain ⟨cs, t, hc⟩ := h.st.cells ⟨j, o, hj, by rw [hv]; exact hb⟩
    rw [(hm b d hd e).1] at hc; cases hc
  · have := (hm b d hd e).2.2
    omega

/-- THE ENTRY. -/
theorem CSpec.of_awp {f : FuncId} {fn : Func} {c : Code} {args : List AVal} {st : List (Nat × Ob)} {m : Nat} {K : List (Nat × Ob) → Nat → AVal → Prop} (T : Told) (fz : List Tmp)
    (hf : P.funcs[f]? = some fn) (hb : fn.body = some c) (hn : (fn.name == "runtime.NumGoroutine") = false) (hl : args.length ≤ fn.ntmps)
    (h : ∀ w0 S0 E0 B0, awp P ⟨w0, S0, E0, m, B0, none⟩ T c ⟨fn.ntmps, fun t => (args[t]?).getD .un, st, m⟩ (endQ P fn.results.toList fz K)) : CSpec P f args st m K := by
  refine ⟨⟨fn, hf, by rw [hb]; rfl, hn⟩, fun w β S vs hs hβ ha => ?_⟩
  have hvl := VAll.length _ _ ha
  have hrel : ARel ⟨w, S, Owned β st, m, β, none⟩ ⟨fn.ntmps, fun t => (args[t]?).getD .un, st, m⟩ { tmps := vs.toArray ++ Array.replicate (fn.ntmps - vs.toArray.size) undef, defers := [] } w := by
    refine ⟨β, S, fun t => ?_, by simp; omega, hs, ⟨Nat.le_refl _, rfl, rfl, rfl, fun _ _ _ => rfl, fun b hb => .inl hb, fun b hb => .inl hb⟩, hβ, ⟨fun d hd => by simp at hd, by simp, fun _ => rfl⟩, fun _ _ => rfl, Nat.le_refl _⟩
    simp only
    cases ht : args[t]? with
    | some x =>
      obtain ⟨v, hv, hr⟩ := VAll.get _ _ ha t x ht
      have htl : t < vs.length := (List.getElem?_eq_some_iff.1 hv).1
      rw [Array.getD_eq_getD_getElem?, Array.getElem?_append_left (by simpa using htl)]
      simpa [hv] using hr
    | none =>
      have htl : vs.length ≤ t := by rw [hvl]; exact List.getElem?_eq_none_iff.1 ht
      simp only [Option.getD_none, VRel]
      rw [Array.getD_eq_getD_getElem?, Array.getElem?_append_right (by simpa using htl)]
      rw [Array.getElem?_replicate]
      split <;> rfl
  refine callsIn_fence.1 (callsIn_of_wp_marks (F := fence none) (n := 0) hf hb trivial (wpIn_mono (awp_sound c hrel (h _ _ _ _)) fun e a' w' hl => ?_) rfl)
  obtain ⟨s', ⟨β', S', h'⟩, hq⟩ := hl
  have fin : qFreezes P fz s' (fun s => resV P s fn.results.toList fun vs => s.ends fun st nx => oneR (K st nx) vs) → LeavesInM (fence none) 0 P fn a'.tmps (fun e w' => ∃ v st' nx' r β' S', e = .returned v ∧ Fr ⟨w, S, Owned β st, m, β, none⟩ w' S' (Owned β' st') ∧ SRel w' β' S' st' ∧
      (∀ j, nx' ≤ j → β' j = none) ∧ m ≤ nx' ∧ (∀ j, j < m → β' j = β j) ∧ VRel w' β' S' r v ∧ K st' nx' r) a'.defers .returning w' := fun hq => by
    obtain ⟨S2, s2, h2, hq⟩ := qFreezes_sound h' hq
    have hq : resV P s2 fn.results.toList (oneR (K s2.st s2.nx)) := resV_mono (fun vs hv => forceSt_of _ hv) hq
    refine marks_leave _ _ (fun d hd => ?_) h2.defers.2.1 fun w2 hs => ?_
    · obtain ⟨D, e1, e2, _⟩ := h2.defers.1 d hd
      exact ⟨D, e1, e2⟩
    · have h3 := h2.shut hs
      obtain ⟨v, r, h4, h5, h6⟩ := results_sound h3 hq
      exact ⟨v, h4, v, s2.st, s2.nx, r, β', S2, rfl, h3.frame, h3.st, h3.nx, h3.nxm, h3.pin, h5, h6⟩
  cases e <;> first | exact fin hq | exact hq.elim

end
end Go.Proofs.Ytniaeiikdgbnfaa.AW
