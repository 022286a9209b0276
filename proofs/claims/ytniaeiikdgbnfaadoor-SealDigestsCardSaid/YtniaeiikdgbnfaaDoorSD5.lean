/- Parts AW19, AW20, AW21, AW22, AW23, AW24, AW25. No condition of its own. -/
import Derived.Test.YtniaeiikdgbnfaaDoorSD4
import Derived.LoopNIn

namespace Go.Proofs.YtniaeiikdgbnfaaDoor.AW
open Go Go.RowKit
set_option linter.unusedSectionVars false
variable [Globs]

mutual
def renV (ρ : Nat → Nat) : AVal → AVal
  | .own i => .own (ρ i)
  | .view i off len => .view (ρ i) off len
  | .optr i off => .optr (ρ i) off
  | .ag t cs => .ag t (renL ρ cs)
  | .tup cs => .tup (renL ρ cs)
  | .ofn f cs => .ofn f (renL ρ cs)
  | .any => .any
  | .un => .un
  | .d x => .d x
  | .em x => .em x
  | .nls x => .nls x
def renL (ρ : Nat → Nat) : List AVal → List AVal
  | [] => []
  | x :: r => renV ρ x :: renL ρ r
end

def renOb (ρ : Nat → Nat) : Ob → Ob
  | .cell t cs => .cell t (renL ρ cs)
  | .row k t xs => .row k t xs
  | .rowD t sz es => .rowD t sz es

def renSt (ρ : Nat → Nat) : List (Nat × Ob) → List (Nat × Ob)
  | [] => []
  | (i, o) :: r => (ρ i, renOb ρ o) :: renSt ρ r

section
variable {w : World} {β : Nat → Option Value} {S : Nat → Prop} {ρ : Nat → Nat}

mutual
theorem renV_iff : ∀ (x : AVal) (v : Value), VRel w (fun i => β (ρ i)) S x v ↔ VRel w β S (renV ρ x) v
  | .any, v => by simp only [VRel, renV]
  | .un, v => by simp only [VRel, renV]
  | .d x, v => by simp only [VRel, renV]
  | .em x, v => by simp only [VRel, renV]
  | .nls x, v => by simp only [VRel, renV]
  | .own i, v => by simp only [VRel, renV]
  | .view i off len, v => by simp only [VRel, renV]
  | .optr i off, v => by simp only [VRel, renV]
  | .ag t cs, v => by
    simp only [VRel, renV]
    exact exists_congr fun vs => and_congr Iff.rfl (renL_iff cs _)
  | .tup cs, v => by
    simp only [VRel, renV]
    exact exists_congr fun vs => and_congr Iff.rfl (renL_iff cs _)
  | .ofn f cs, v => by
    simp only [VRel, renV]
    exact exists_congr fun vs => and_congr Iff.rfl (renL_iff cs _)
theorem renL_iff : ∀ (xs : List AVal) (vs : List Value), VAll w (fun i => β (ρ i)) S xs vs ↔ VAll w β S (renL ρ xs) vs
  | [], vs => by simp only [VAll, renL]
  | x :: xs, vs => by
    simp only [VAll, renL]
    exact exists_congr fun v => exists_congr fun r => and_congr Iff.rfl (and_congr (renV_iff x v) (renL_iff xs r))
end

theorem renOb_iff {v : Value} (o : Ob) : ORel w (fun i => β (ρ i)) S v o ↔ ORel w β S v (renOb ρ o) := by
  cases o with
  | row k t xs => simp only [ORel, renOb]
  | rowD t sz es => simp only [ORel, renOb]
  | cell t cs =>
    simp only [ORel, renOb]
    exact exists_congr fun b => exists_congr fun vs => and_congr Iff.rfl (and_congr Iff.rfl (renL_iff cs _))

theorem mem_renSt : ∀ {st : List (Nat × Ob)} {j : Nat} {p : Ob}, (j, p) ∈ renSt ρ st ↔ ∃ i o, (i, o) ∈ st ∧ j = ρ i ∧ p = renOb ρ o
  | [], j, p => by simp [renSt]
  | (k, q) :: r, j, p => by
    simp only [renSt, List.mem_cons, mem_renSt (st := r)]
    constructor
    · rintro (h | ⟨i, o, h1, h2, h3⟩)
      · injection h with h1 h2; exact ⟨k, q, .inl rfl, h1, h2⟩
      · exact ⟨i, o, .inr h1, h2, h3⟩
    · rintro ⟨i, o, h | h, h2, h3⟩
      · injection h with h4 h5; subst h4; subst h5; exact .inl (by rw [h2, h3])
      · exact .inr ⟨i, o, h, h2, h3⟩
theorem renSt_ids : ∀ (st : List (Nat × Ob)), (renSt ρ st).map (·.1) = st.map fun p => ρ p.1
  | [] => rfl
  | (k, q) :: r => by simp only [renSt, List.map_cons, renSt_ids r]
end

/-- The callee's number i, in the caller's numbers: 'l' names what is handed in. -/
def rho (l : List Nat) (nx : Nat) (i : Nat) : Nat := match l[i]? with
  | some j => j
  | none => nx + (i - l.length)

def dropIds (l : List Nat) : List (Nat × Ob) → List (Nat × Ob)
  | [] => []
  | (i, o) :: r => if l.contains i = true then dropIds l r else (i, o) :: dropIds l r

def stIn (l : List Nat) (nx : Nat) (sst : List (Nat × Ob)) : List (Nat × Ob) → Prop
  | [] => True
  | (i, o) :: r => (i < l.length ∧ getO sst (rho l nx i) = some (renOb (rho l nx) o)) ∧ stIn l nx sst r

theorem stIn_mem {l : List Nat} {nx : Nat} {sst : List (Nat × Ob)} : ∀ {st : List (Nat × Ob)}, stIn l nx sst st → ∀ {i o}, (i, o) ∈ st → i < l.length ∧ (rho l nx i, renOb (rho l nx) o) ∈ sst
  | [], _, i, o, h => by simp at h
  | (k, q) :: r, hs, i, o, h => by
    simp only [stIn] at hs
    rcases List.mem_cons.1 h with h | h
    · injection h with h1 h2; subst h1; subst h2
      exact ⟨hs.1.1, getO_mem hs.1.2⟩
    · exact stIn_mem hs.2 h

theorem rho_lt {l : List Nat} {nx i : Nat} (h : i < l.length) : rho l nx i = l[i] := by simp [rho, h]
theorem rho_ge {l : List Nat} {nx i : Nat} (h : l.length ≤ i) : rho l nx i = nx + (i - l.length) := by simp [rho, h]

theorem nodup_get {l : List Nat} (hn : l.Nodup) {i j : Nat} (hi : i < l.length) (hj : j < l.length) (h : l[i] = l[j]) : i = j := by
  have hp := List.pairwise_iff_getElem.1 hn
  rcases Nat.lt_trichotomy i j with h1 | h1 | h1
  · exact (hp i j hi hj h1 h).elim
  · exact h1
  · exact (hp j i hj hi h1 h.symm).elim

theorem rho_inj {l : List Nat} {nx : Nat} (hn : l.Nodup) (hb : ∀ j ∈ l, j < nx) {i j : Nat} (h : rho l nx i = rho l nx j) : i = j := by
  rcases Nat.lt_or_ge i l.length with hi | hi <;> rcases Nat.lt_or_ge j l.length with hj | hj
  · rw [rho_lt hi, rho_lt hj] at h
    exact nodup_get hn hi hj h
  · rw [rho_lt hi, rho_ge hj] at h
    have := hb _ (List.getElem_mem hi)
    omega
  · rw [rho_ge hi, rho_lt hj] at h
    have := hb _ (List.getElem_mem hj)
    omega
  · rw [rho_ge hi, rho_ge hj] at h
    omega

/-! ### Contracts -/

/-- WHAT A FUNCTION COMES TO: handed 'args', which name the objects of 'st' (numbers below 'm'). -/
def CSpec (P : Program) (f : FuncId) (args : List AVal) (st : List (Nat × Ob)) (m : Nat) (K : List (Nat × Ob) → Nat → AVal → Prop) : Prop :=
  Enters P f ∧ ∀ w β S vs, SRel w β S st → (∀ j, m ≤ j → β j = none) → VAll w β S args vs →
    Calls P f vs.toArray w fun e w' => ∃ v st' nx' r β' S', e = .returned v ∧ Fr ⟨w, S, Owned β st, m, β, none⟩ w' S' (Owned β' st') ∧ SRel w' β' S' st' ∧
      (∀ j, nx' ≤ j → β' j = none) ∧ m ≤ nx' ∧ (∀ j, j < m → β' j = β j) ∧ VRel w' β' S' r v ∧ K st' nx' r

/-- A function's results. -/
def resV (P : Program) (s : AState) : List ResultVar → (List AVal → Prop) → Prop
  | [], K => K []
  | .tmp t :: r, K => forceV (s.fr t) fun v => resV P s r fun vs => K (v :: vs)
  | .cell x t :: r, K => qLoad P s t (s.fr x) fun v => forceV v fun v => resV P s r fun vs => K (v :: vs)

def oneR (K : AVal → Prop) : List AVal → Prop
  | [v] => K v
  | vs => K (.tup vs)

def nodupB : List Nat → Bool
  | [] => true
  | x :: r => !(r.contains x) && nodupB r
theorem nodupB_spec : ∀ {l : List Nat}, nodupB l = true → l.Nodup
  | [], _ => by simp
  | x :: r, h => by
    simp only [nodupB, Bool.and_eq_true, Bool.not_eq_true', List.nodup_cons] at h ⊢
    refine ⟨fun hm => ?_, nodupB_spec h.2⟩
    have := List.contains_iff_mem.2 hm
    rw [h.1] at this
    cases this
def idsOf : List (Nat × Ob) → List Nat
  | [] => []
  | (i, _) :: r => i :: idsOf r
theorem idsOf_eq : ∀ st, idsOf st = st.map (·.1)
  | [] => rfl
  | (i, _) :: r => by simp only [idsOf, List.map_cons, idsOf_eq r]
/-- Are these names of objects told apart, below 'nx', with the first m where they were? -/
def wkB (m nx : Nat) (l : List Nat) (st : List (Nat × Ob)) : Bool :=
  nodupB l && l.all (fun j => decide (j < nx)) && (List.range m).all (fun j => l[j]? == some j) && nodupB (idsOf st)
theorem wkB_spec {m nx : Nat} {l : List Nat} {st : List (Nat × Ob)} (h : wkB m nx l st = true) : l.Nodup ∧ (∀ j ∈ l, j < nx) ∧ (∀ j, j < m → l[j]? = some j) ∧ (st.map (·.1)).Nodup := by
  simp only [wkB, Bool.and_eq_true, List.all_eq_true, decide_eq_true_eq, beq_iff_eq, List.mem_range] at h
  exact ⟨nodupB_spec h.1.1.1, h.1.1.2, h.1.2, by rw [← idsOf_eq]; exact nodupB_spec h.2⟩

/-- The end: objects that nobody names any more are forgotten, the others get new numbers: 'l'. -/
structure Fin (m : Nat) (st : List (Nat × Ob)) (nx : Nat) (r : AVal) (l : List Nat) (st2 : List (Nat × Ob)) (r2 : AVal) : Prop where
  ok : wkB m nx l st2 = true
  st : stIn l nx st st2
  r : r = renV (rho l nx) r2
structure Ends (m : Nat) (K : List (Nat × Ob) → Nat → AVal → Prop) (st : List (Nat × Ob)) (nx : Nat) (r : AVal) : Prop where
  out : ∃ l st2 r2, Fin m st nx r l st2 r2 ∧ K st2 l.length r2

def AState.ends : AState → (List (Nat × Ob) → Nat → Prop) → Prop
  | ⟨_, _, st, nx⟩, K => forceSt st fun st => K st nx

def endQ (P : Program) (rs : List ResultVar) (fz : List Tmp) (K : List (Nat × Ob) → Nat → AVal → Prop) : Exit → AState → Prop
  | .normal, s => qFreezes P fz s fun s => resV P s rs fun vs => s.ends fun st nx => oneR (K st nx) vs
  | .ret, s => qFreezes P fz s fun s => resV P s rs fun vs => s.ends fun st nx => oneR (K st nx) vs
  | _, _ => False

section
variable {P : Program} {C : Ctx} {s : AState} {β : Nat → Option Value} {S : Nat → Prop} {a : Act} {w : World}

theorem qLoad_mono {t : TypeId} {x : AVal} {K K' : AVal → Prop} (hk : ∀ v, K v → K' v) (h : qLoad P s t x K) : qLoad P s t x K' := by
  unfold qLoad at h ⊢
  split at h
  · exact ⟨h.1, h.2.1, hk _ h.2.2⟩
  · split at h
    · split at h
      · exact ⟨h.1, h.2.1, hk _ h.2.2⟩
      · split at h
        · exact hk _ h
        · exact h.elim
      · exact h.elim
    · split at h
      · exact ⟨h.1, h.2.1, hk _ h.2.2⟩
      · exact ⟨h.1, hk _ h.2⟩
      · exact h.elim
    · exact ⟨h.1, h.2.1, h.2.2.1, h.2.2.2.1, hk _ h.2.2.2.2⟩
    · exact h.elim
  · exact h.elim

def resOne (tmps : Array Value) : ResultVar → Sem Value
  | .tmp t => pure (tmps.getD t undef)
  | .cell x t => do loadVar t (← asAddr (tmps.getD x undef))

theorem resV_sound (h : ARelB C s β S a w) : ∀ {rs : List ResultVar} {K : List AVal → Prop}, resV P s rs K →
    ∃ vs xs, (rs.mapM (resOne a.tmps)).run P w = .ok vs w ∧ VAll w β S xs vs ∧ K xs
  | [], K, hq => ⟨[], [], by simp, by simp [VAll], hq⟩
  | .tmp t :: r, K, hq => by
    simp only [resV] at hq
    have hq := forceV_of _ hq
    obtain ⟨vs, xs, h1, h2, h3⟩ := resV_sound h hq
    refine ⟨a.tmps.getD t undef :: vs, s.fr t :: xs, ?_, ?_, h3⟩
    · simp only [List.mapM_cons, resOne, Sem.run_bind, Sem.run_pure, Result.andThen_ok, h1]
    · simp only [VAll]; exact ⟨_, _, rfl, h.fr t, h2⟩
  | .cell x t :: r, K, hq => by
    simp only [resV] at hq
    have hx := h.fr x
    obtain ⟨u, y, h1, h2, hq⟩ := qLoad_sound h hx hq
    have hq := forceV_of _ hq
    obtain ⟨vs, xs, h3, h4, h5⟩ := resV_sound h hq
    refine ⟨u :: vs, y :: xs, ?_, ?_, h5⟩
    · have e : (resOne a.tmps (.cell x t)).run P w = .ok u w := by
        show (do loadVar t (← asAddr (a.tmps.getD x undef)) : Sem Value).run P w = .ok u w
        have := h1 w (Ext.refl w)
        revert this
        generalize a.tmps.getD x undef = v
        intro this
        simp only [Instr.loadAt, Sem.run_bind] at this ⊢
        cases v <;> try (simp [Instr.sureAddr, stuck] at this; done)
        rename_i ad
        cases ad with
        | none => simp [Instr.sureAddr, stuck] at this
        | some ad => simpa [Instr.sureAddr, asAddr] using this
      simp only [List.mapM_cons]
      rw [Sem.run_bind, e]
      simp only [Result.andThen_ok, Sem.run_bind, h3, Sem.run_pure]
    · simp only [VAll]; exact ⟨_, _, rfl, h2, h4⟩

theorem resV_mono {K K' : List AVal → Prop} (hk : ∀ vs, K vs → K' vs) : ∀ {rs : List ResultVar}, resV P s rs K → resV P s rs K'
  | [], h => hk _ h
  | .tmp t :: r, h => by
    simp only [resV] at h ⊢
    have h := forceV_of _ h
    exact forceV_to _ (resV_mono (fun vs hv => hk _ hv) h)
  | .cell x t :: r, h => by
    simp only [resV] at h ⊢
    exact qLoad_mono (fun v hv => forceV_to _ (resV_mono (fun vs hv => hk _ hv) (forceV_of _ hv))) h

theorem oneR_sound {vs : List Value} {xs : List AVal} {K : AVal → Prop} (h : VAll w β S xs vs) (hq : oneR K xs) : ∃ r, VRel w β S r (if h : vs.toArray.size = 1 then vs.toArray[0] else .tuple vs.toArray) ∧ K r := by
  unfold oneR at hq
  split at hq
  · simp only [VAll] at h
    obtain ⟨v, r, rfl, h1, rfl⟩ := h
    exact ⟨_, by simpa using h1, hq⟩
  · rename_i hne
    refine ⟨_, ?_, hq⟩
    have hl := VAll.length _ _ h
    have : ¬ vs.toArray.size = 1 := fun e => by
      have : xs.length = 1 := by rw [← hl]; simpa using e
      match xs, this with
      | [v], _ => exact hne v rfl
    rw [dif_neg this]
    simp only [VRel]
    exact ⟨_, rfl, by simpa using h⟩

theorem results_sound (h : ARelB C s β S a w) {fn : Func} {K : AVal → Prop} (hq : resV P s fn.results.toList (oneR K)) : ∃ v r, (results fn a.tmps).run P w = .ok v w ∧ VRel w β S r v ∧ K r := by
  obtain ⟨vs, xs, h1, h2, h3⟩ := resV_sound h hq
  obtain ⟨r, h4, h5⟩ := oneR_sound h2 h3
  refine ⟨_, r, ?_, h4, h5⟩
  have e : results fn a.tmps = (do let vs ← fn.results.mapM (resOne a.tmps); pure (if h : vs.size = 1 then vs[0] else .tuple vs) : Sem Value) := by
    unfold results
    congr 1
  rw [e, Array.mapM_eq_mapM_toList]
  simp only [Sem.run_bind, map_eq_pure_bind, h1, Result.andThen_ok, Sem.run_pure]

theorem CSpec.ends {f : FuncId} {args : List AVal} {st : List (Nat × Ob)} {m : Nat} {K : List (Nat × Ob) → Nat → AVal → Prop} (h : CSpec P f args st m (Ends m K)) : CSpec P f args st m K := by
  refine ⟨h.1, fun w β S vs hs hβ ha => Calls.mono (h.2 w β S vs hs hβ ha) fun e w' hh => ?_⟩
  obtain ⟨v, st', nx', r, β', S', he, hf, hs', hn, hm, hp, hr, l, st2, r2, hw, hK⟩ := hh
  obtain ⟨hwnd, hwlt, hwpin, hwids⟩ := wkB_spec hw.ok
  have hb0 : ∀ {i o}, (i, o) ∈ st2 → i < l.length ∧ (rho l nx' i, renOb (rho l nx') o) ∈ st' := fun hi => stIn_mem hw.st hi
  have hown : ∀ b, Owned (fun i => β' (rho l nx' i)) st2 b → Owned β' st' b := fun b ⟨i, o, hi, hb⟩ => ⟨_, _, (hb0 hi).2, hb⟩
  refine ⟨v, st2, l.length, r2, fun i => β' (rho l nx' i), S', he, ⟨hf.size, hf.os, hf.tape, hf.output, hf.old, hf.inS, fun b hb => hf.own b (hown b hb)⟩, ⟨fun i o hi => ?_, hwids, fun i o j o' hi hj hne => ?_, fun b hb => hs'.own b (hown b hb), hs'.inS, hs'.gl⟩, fun j hj => ?_, ?_, fun j hj => ?_, ?_, hK⟩
  · obtain ⟨v, h1, h2⟩ := hs'.obj _ _ (hb0 hi).2
    exact ⟨v, h1, (renOb_iff o).2 h2⟩
  · exact hs'.apart _ _ _ _ (hb0 hi).2 (hb0 hj).2 fun e => hne (rho_inj hwnd hwlt e)
  · simp only
    rw [rho_ge hj]
    exact hn _ (by omega)
  · rcases Nat.eq_zero_or_pos m with h0 | h0
    · omega
    · have := hwpin (m - 1) (by omega)
      have := (List.getElem?_eq_some_iff.1 this).1
      omega
  · have e : rho l nx' j = j := by unfold rho; rw [hwpin j hj]
    show β' (rho l nx' j) = β j
    rw [e]
    exact hp j hj
  · rw [renV_iff, ← hw.r]; exact hr

/-- The same world, but for what is laid aside for the activation's end. -/
structure Shut (ds : List Deferred) (w w' : World) : Prop where
  os : w'.os = w.os
  tape : w'.tape = w.tape
  output : w'.output = w.output
  size : w'.heap.size = w.heap.size
  block : ∀ b, (∀ d ∈ ds, d ≠ { target := .collected b, args := #[] }) → w'.heap[b]? = w.heap[b]?

theorem marks_leave {F : Fence} {n : Nat} {fn : Func} {tmps : Array Value} {R : Ending → World → Prop} : ∀ (ds : List Deferred) (w : World),
    (∀ d ∈ ds, ∃ D, d = { target := .collected D, args := #[] } ∧ w.heap[D]? = some (.deferred (some []))) → ds.Nodup →
    (∀ w', Shut ds w w' → LeavesIn F n P fn tmps R [] .returning w') → LeavesInM F n P fn tmps R ds .returning w
  | [], w, _, _, h => by simp only [LeavesInM]; exact h w ⟨rfl, rfl, rfl, rfl, fun _ _ => rfl⟩
  | d :: ds, w, hd, hn, h => by
    obtain ⟨D, rfl, hD⟩ := hd d (by simp)
    simp only [List.nodup_cons] at hn
    simp only [LeavesInM]
    refine ⟨by simp, .inl ⟨D, _, rfl, run_takeDeferred hD, marks_leave ds _ (fun d' hd' => ?_) hn.2 fun w' hs => h w' ?_⟩⟩
    · obtain ⟨D', rfl, hD'⟩ := hd d' (by simp [hd'])
      refine ⟨D', rfl, (World.putObj_heap_other fun e => hn.1 ?_).trans hD'⟩
      rw [← e]; exact hd'
    · refine ⟨hs.os, hs.tape, hs.output, hs.size.trans (by simp), fun b hb => (hs.block b fun d' hd' => hb d' (by simp [hd'])).trans (World.putObj_heap_other fun e => ?_)⟩
      exact hb { target := .collected D, args := #[] } (by simp) (by rw [e])

theorem ARelB.shut (h : ARelB C s β S a w) {w' : World} (hs : Shut a.defers w w') : ARelB C s β S { a with defers := [] } w' := by
  have hno : ∀ b, (¬ ∃ d ∈ a.defers, d = { target := .collected b, args := #[] }) → w'.heap[b]? = w.heap[b]? := fun b hb => hs.block b fun d hd e => hb ⟨d, hd, e⟩
  have hm : ∀ b d, d ∈ a.defers → d = { target := .collected b, args := #[] } → w.heap[b]? = some (.deferred (some [])) ∧ ¬ S b ∧ C.w0.heap.size ≤ b := fun b d hd e => by
    obtain ⟨D, e2, h1, h2, h3⟩ := h.defers.1 d hd
    have : D = b := by rw [e2] at e; simpa using e
    subst this
    exact ⟨h1, h2, h3⟩
  have hS : ∀ b, S b → S b ∧ w'.heap[b]? = w.heap[b]? := fun b hb => ⟨hb, hno b fun ⟨d, hd, e⟩ => (hm b d hd e).2.1 hb⟩
  refine ⟨fun t => VRel.keep hS (fun _ _ e => e) _ _ (h.fr t), h.size, ⟨fun j o hj => ?_, h.st.nodup, h.st.apart, fun b hb => ⟨(h.st.own b hb).1, by rw [hs.size]; exact (h.st.own b hb).2⟩, fun b hb => by rw [hs.size]; exact h.st.inS b hb, h.st.gl.keep hS⟩,
    ⟨by rw [hs.size]; exact h.frame.size, hs.os.trans h.frame.os, hs.tape.trans h.frame.tape, hs.output.trans h.frame.output, fun b hb hE => (hno b fun ⟨d, hd, e⟩ => ?_).trans (h.frame.old b hb hE), h.frame.inS, h.frame.own⟩,
    h.nx, ⟨fun d hd => by simp at hd, by simp, fun _ => rfl⟩, h.pin, h.nxm⟩
  · obtain ⟨v, hv, hr⟩ := h.st.obj j o hj
    refine ⟨v, hv, hr.keep hS (fun _ _ e => e) fun b hb => hno b fun ⟨d, hd, e⟩ => ?_⟩
    obtain ⟨cs, t, hc⟩ := h.st.cells ⟨j, o, hj, by rw [hv]; exact hb⟩
    rw [(hm b d hd e).1] at hc; cases hc
  · have := (hm b d hd e).2.2
    omega

/-- THE ENTRY. -/
theorem CSpec.of_awp {f : FuncId} {fn : Func} {c : Code} {args : List AVal} {st : List (Nat × Ob)} {m : Nat} {K : List (Nat × Ob) → Nat → AVal → Prop} (T : Told) (fz : List Tmp)
    (hf : P.funcs[f]? = some fn) (hb : fn.body = some c) (hn : (fn.name == "runtime.NumGoroutine") = false) (hl : args.length ≤ fn.ntmps)
    (h : ∀ w0 S0 E0 B0, awp P ⟨w0, S0, E0, m, B0, none⟩ T c ⟨fn.ntmps, fun t => (args[t]?).getD .un, st, m⟩ (endQ P fn.results.toList fz K)) : CSpec P f args st m K := by
  refine ⟨⟨fn, hf, by rw [hb]; rfl, hn⟩, fun w β S vs hs hβ ha => ?_⟩
  have hvl := VAll.length _ _ ha
  have hrel : ARel ⟨w, S, Owned β st, m, β, none⟩ ⟨fn.ntmps, fun t => (args[t]?).getD .un, st, m⟩ { tmps := vs.toArray ++ Array.replicate (fn.ntmps - vs.toArray.size) undef, defers := [] } w := by
    refine ⟨β, S, fun t => ?_, by simp; omega, hs, ⟨Nat.le_refl _, rfl, rfl, rfl, fun _ _ _ => rfl, fun b hb => .inl hb, fun b hb => .inl hb⟩, hβ, ⟨fun d hd => by simp at hd, by simp, fun _ => rfl⟩, fun _ _ => rfl, Nat.le_refl _⟩
    simp only
    cases ht : args[t]? with
    | some x =>
      obtain ⟨v, hv, hr⟩ := VAll.get _ _ ha t x ht
      have htl : t < vs.length := (List.getElem?_eq_some_iff.1 hv).1
      rw [Array.getD_eq_getD_getElem?, Array.getElem?_append_left (by simpa using htl)]
      simpa [hv] using hr
    | none =>
      have htl : vs.length ≤ t := by rw [hvl]; exact List.getElem?_eq_none_iff.1 ht
      simp only [Option.getD_none, VRel]
      rw [Array.getD_eq_getD_getElem?, Array.getElem?_append_right (by simpa using htl)]
      rw [Array.getElem?_replicate]
      split <;> rfl
  refine callsIn_fence.1 (callsIn_of_wp_marks (F := fence none) (n := 0) hf hb trivial (wpIn_mono (awp_sound c hrel (h _ _ _ _)) fun e a' w' hl => ?_) rfl)
  obtain ⟨s', ⟨β', S', h'⟩, hq⟩ := hl
  have fin : qFreezes P fz s' (fun s => resV P s fn.results.toList fun vs => s.ends fun st nx => oneR (K st nx) vs) → LeavesInM (fence none) 0 P fn a'.tmps (fun e w' => ∃ v st' nx' r β' S', e = .returned v ∧ Fr ⟨w, S, Owned β st, m, β, none⟩ w' S' (Owned β' st') ∧ SRel w' β' S' st' ∧
      (∀ j, nx' ≤ j → β' j = none) ∧ m ≤ nx' ∧ (∀ j, j < m → β' j = β j) ∧ VRel w' β' S' r v ∧ K st' nx' r) a'.defers .returning w' := fun hq => by
    obtain ⟨S2, s2, h2, hq⟩ := qFreezes_sound h' hq
    have hq : resV P s2 fn.results.toList (oneR (K s2.st s2.nx)) := resV_mono (fun vs hv => forceSt_of _ hv) hq
    refine marks_leave _ _ (fun d hd => ?_) h2.defers.2.1 fun w2 hs => ?_
    · obtain ⟨D, e1, e2, _⟩ := h2.defers.1 d hd
      exact ⟨D, e1, e2⟩
    · have h3 := h2.shut hs
      obtain ⟨v, r, h4, h5, h6⟩ := results_sound h3 hq
      exact ⟨v, h4, v, s2.st, s2.nx, r, β', S2, rfl, h3.frame, h3.st, h3.nx, h3.nxm, h3.pin, h5, h6⟩
  cases e <;> first | exact fin hq | exact hq.elim

end

/-- The caller's state behind a call. -/
def AState.called : AState → List Nat → List (Nat × Ob) → Nat → AState
  | ⟨n, fr, st, nx⟩, l, st', nx' => ⟨n, fr, renSt (rho l nx) st' ++ dropIds l st, nx + (nx' - l.length)⟩

theorem mem_dropIds {l : List Nat} : ∀ {st : List (Nat × Ob)} {i : Nat} {o : Ob}, (i, o) ∈ dropIds l st ↔ (i, o) ∈ st ∧ i ∉ l
  | [], i, o => by simp [dropIds]
  | (k, q) :: r, i, o => by
    simp only [dropIds]
    split
    · rename_i h
      rw [mem_dropIds (st := r)]
      simp only [List.mem_cons, Prod.mk.injEq]
      simp only [List.contains_iff_mem] at h
      constructor
      · rintro ⟨h1, h2⟩; exact ⟨.inr h1, h2⟩
      · rintro ⟨⟨rfl, rfl⟩ | h1, h2⟩
        · exact (h2 h).elim
        · exact ⟨h1, h2⟩
    · rename_i h
      simp only [List.contains_iff_mem] at h
      simp only [List.mem_cons, mem_dropIds (st := r), Prod.mk.injEq]
      constructor
      · rintro (⟨rfl, rfl⟩ | ⟨h1, h2⟩)
        · exact ⟨.inl ⟨rfl, rfl⟩, h⟩
        · exact ⟨.inr h1, h2⟩
      · rintro ⟨⟨rfl, rfl⟩ | h1, h2⟩
        · exact .inl ⟨rfl, rfl⟩
        · exact .inr ⟨h1, h2⟩

theorem dropIds_nodup {l : List Nat} : ∀ {st : List (Nat × Ob)}, (st.map (·.1)).Nodup → ((dropIds l st).map (·.1)).Nodup
  | [], h => by simp [dropIds]
  | (i, p) :: r, h => by
    simp only [List.map_cons, List.nodup_cons] at h
    simp only [dropIds]
    split
    · exact dropIds_nodup h.2
    · simp only [List.map_cons, List.nodup_cons]
      refine ⟨fun hm => ?_, dropIds_nodup h.2⟩
      obtain ⟨⟨k, q⟩, hk, rfl⟩ := List.mem_map.1 hm
      exact h.1 (List.mem_map.2 ⟨_, (mem_dropIds.1 hk).1, rfl⟩)

section
variable {P : Program} {C : Ctx} {s : AState} {β : Nat → Option Value} {S : Nat → Prop} {a : Act} {w : World}

theorem nodup_map_inj {α β : Type} {f : α → β} : ∀ {xs : List α}, xs.Nodup → (∀ x ∈ xs, ∀ y ∈ xs, f x = f y → x = y) → (xs.map f).Nodup
  | [], _, _ => by simp
  | x :: xs, h, hf => by
    simp only [List.nodup_cons, List.map_cons] at h ⊢
    refine ⟨fun hm => ?_, nodup_map_inj h.2 fun a ha b hb => hf a (by simp [ha]) b (by simp [hb])⟩
    obtain ⟨y, hy, e⟩ := List.mem_map.1 hm
    have := hf y (by simp [hy]) x (by simp) e
    subst this
    exact h.1 hy

/-- A CALL BY CONTRACT. -/
theorem acall {x : Bool} {f : FuncId} {args avs : List AVal} {st : List (Nat × Ob)} {K : List (Nat × Ob) → Nat → AVal → Prop} {K' : AState → AVal → Prop} (l : List Nat) (hc : CSpec P f args st l.length K)
    (hok : wkB 0 s.nx l st = true) (hst : stIn l s.nx s.st st) (ha : renL (rho l s.nx) args = avs) (hx : x = true → st = [])
    (hK : ∀ st' nx' r, K st' nx' r → K' (s.called l st' nx') (renV (rho l s.nx) r)) : ACall P C x s f avs K' := by
  obtain ⟨hn, hb, _, hsn⟩ := wkB_spec hok
  refine ⟨fun β S a w vs h hv => ?_⟩
  let ρ := rho l s.nx
  let β0 : Nat → Option Value := fun i => β (ρ i)
  have hβ0 : ∀ i, l.length ≤ i → β0 i = none := fun i hi => by
    show β (rho l s.nx i) = none
    rw [rho_ge hi]
    exact h.nx _ (by omega)
  have hargs : VAll w β0 S args vs := (renL_iff args vs).2 (by rw [ha]; exact hv)
  have hown0 : ∀ b, Owned β0 st b → ∃ i o, (i, o) ∈ st ∧ i < l.length ∧ (ρ i, renOb ρ o) ∈ s.st ∧ (β (ρ i)).bind blk = some b := fun b ⟨i, o, hi, hb⟩ =>
    ⟨i, o, hi, (stIn_mem hst hi).1, (stIn_mem hst hi).2, hb⟩
  have hsub : ∀ b, Owned β0 st b → Owned β s.st b := fun b hb => let ⟨i, o, _, _, h3, h4⟩ := hown0 b hb; ⟨_, _, h3, h4⟩
  have hs0 : SRel w β0 S st := by
    refine ⟨fun i o hi => ?_, hsn, fun i o j o' hi hj hne b hbb => ?_, fun b hb => h.st.own b (hsub b hb), h.st.inS, h.st.gl⟩
    · obtain ⟨v, h1, h2⟩ := h.st.obj _ _ (stIn_mem hst hi).2
      exact ⟨v, h1, (renOb_iff o).2 h2⟩
    · exact h.st.apart _ _ _ _ (stIn_mem hst hi).2 (stIn_mem hst hj).2 (fun e => hne (rho_inj hn hb e)) b hbb
  refine ⟨hc.1, Calls.mono (hc.2 w β0 S vs hs0 hβ0 hargs) fun e w' hh => ?_⟩
  obtain ⟨v, st', nx', r, β', S', rfl, hf, hs', hnx', hm, hpin, hr, hKr⟩ := hh
  let β1 : Nat → Option Value := fun j => if j < s.nx then β j else β' (l.length + (j - s.nx))
  let Sn : Nat → Prop := fun b => S b ∨ S' b
  have e1 : (fun i => β1 (ρ i)) = β' := by
    funext i
    show (if rho l s.nx i < s.nx then β (rho l s.nx i) else β' (l.length + (rho l s.nx i - s.nx))) = β' i
    rcases Nat.lt_or_ge i l.length with hi | hi
    · have h1 : rho l s.nx i < s.nx := by rw [rho_lt hi]; exact hb _ (List.getElem_mem hi)
      rw [if_pos h1]
      exact (hpin i hi).symm
    · rw [rho_ge hi, if_neg (by omega)]
      congr 1; omega
  have hext : ∀ b, b < w.heap.size → ¬ Owned β0 st b → w'.heap[b]? = w.heap[b]? := fun b h1 h2 => hf.old b h1 h2
  have hSkeep : ∀ b, S b → Sn b ∧ w'.heap[b]? = w.heap[b]? := fun b hb => ⟨.inl hb, hext b (h.st.inS b hb) fun ho => (h.st.own b (hsub b ho)).1 hb⟩
  have hβkeep : ∀ j u, β j = some u → β1 j = some u := fun j u e => by
    show (if j < s.nx then β j else _) = some u
    rw [if_pos]
    · exact e
    · rcases Nat.lt_or_ge j s.nx with h' | h'
      · exact h'
      · rw [h.nx j h'] at e; cases e
  have hapart : ∀ {j o}, (j, o) ∈ dropIds l s.st → ∀ b, (β j).bind blk = some b → ¬ Owned β0 st b := fun {j o} hj b hb ho => by
    obtain ⟨i, o', _, hil, h3, h4⟩ := hown0 b ho
    have hj' := mem_dropIds.1 hj
    refine h.st.apart j o _ _ hj'.1 h3 (fun e => hj'.2 ?_) b hb h4
    rw [e]
    show rho l s.nx i ∈ l
    rw [rho_lt hil]; exact List.getElem_mem hil
  have hβ1 : ∀ {j o}, (j, o) ∈ s.st → β1 j = β j := fun {j o} hj => by
    obtain ⟨u, hu, _⟩ := h.st.obj j o hj
    rw [hβkeep j u hu, hu]
  have hren : ∀ {j p}, (j, p) ∈ renSt ρ st' → ∃ i o, (i, o) ∈ st' ∧ j = ρ i ∧ p = renOb ρ o ∧ β1 j = β' i := fun {j p} hj => by
    obtain ⟨i, o, h1, h2, h3⟩ := mem_renSt.1 hj
    exact ⟨i, o, h1, h2, h3, by rw [h2]; exact congrFun e1 i⟩
  have hown' : ∀ b, Owned β' st' b → Owned β0 st b ∨ w.heap.size ≤ b := fun b hb => hf.own b hb
  have hownN : ∀ b, Owned β1 (renSt ρ st' ++ dropIds l s.st) b → Owned β' st' b ∨ (∃ j o, (j, o) ∈ dropIds l s.st ∧ (β j).bind blk = some b) := fun b ⟨j, o, hj, hb⟩ => by
    rcases List.mem_append.1 hj with hj | hj
    · obtain ⟨i, o', h1, h2, h3, h4⟩ := hren hj
      exact .inl ⟨i, o', h1, by rw [← h4]; exact hb⟩
    · exact .inr ⟨j, o, hj, by rw [← hβ1 (mem_dropIds.1 hj).1]; exact hb⟩
  have hblt : ∀ {j o}, (j, o) ∈ s.st → ∀ b, (β j).bind blk = some b → b < w.heap.size := fun {j o} hj b hb => (h.st.own b ⟨j, o, hj, hb⟩).2
  have hmarks : Marks C Sn a w' := h.defers.keep fun D hD hS => by
    have hlt : D < w.heap.size := (Array.getElem?_eq_some_iff.1 hD).1
    have hno : ¬ Owned β0 st D := fun ho => by
      obtain ⟨cs, t, hc⟩ := h.st.cells (hsub D ho)
      rw [hD] at hc; cases hc
    refine ⟨(hext D hlt hno).trans hD, fun hs => hs.elim hS fun hs => ?_⟩
    rcases hf.inS D hs with h2 | h2 | h2
    · exact hS h2
    · exact hno h2
    · simp only at h2; omega
  have hrel : ARelB C (s.called l st' nx') β1 Sn a w' := by
    refine ⟨fun t => VRel.keep hSkeep hβkeep _ _ (h.fr t), h.size, ⟨fun j p hj => ?_, ?_, fun i p k q hi hk hne b hbb hbk => ?_, fun b hbb => ?_, fun b hbb => ?_, h.st.gl.keep hSkeep⟩, ?_, fun j hj => ?_, hmarks, fun j hj => ?_, ?_⟩
    · rcases List.mem_append.1 hj with hj | hj
      · obtain ⟨i, o, h1, rfl, rfl, h4⟩ := hren hj
        obtain ⟨u, hu, hr⟩ := hs'.obj i o h1
        refine ⟨u, by rw [h4]; exact hu, ?_⟩
        rw [← e1] at hr
        exact ((renOb_iff o).1 hr).keep (fun b hb => ⟨.inr hb, rfl⟩) (fun _ _ e => e) fun _ _ => rfl
      · have hj' := mem_dropIds.1 hj
        obtain ⟨u, hu, hr⟩ := h.st.obj j p hj'.1
        exact ⟨u, hβkeep j u hu, hr.keep hSkeep hβkeep fun b hbb => hext b (hblt hj'.1 b (by rw [hu]; exact hbb)) (hapart hj b (by rw [hu]; exact hbb))⟩
    · show ((renSt ρ st' ++ dropIds l s.st).map (·.1)).Nodup
      rw [List.map_append, List.nodup_append]
      refine ⟨?_, dropIds_nodup h.st.nodup, fun j hj k hk e => ?_⟩
      · rw [renSt_ids, show (st'.map fun p => ρ p.1) = (st'.map (·.1)).map ρ by simp]
        exact nodup_map_inj hs'.nodup fun x _ y _ e => rho_inj hn hb e
      · subst e
        rw [renSt_ids] at hj
        obtain ⟨⟨i, o⟩, _, e⟩ := List.mem_map.1 hj
        obtain ⟨⟨k, q⟩, hq, e2⟩ := List.mem_map.1 hk
        have hq' := mem_dropIds.1 hq
        simp only at e e2
        subst e2
        rcases Nat.lt_or_ge i l.length with hi | hi
        · exact hq'.2 (by rw [← e]; show rho l s.nx i ∈ l; rw [rho_lt hi]; exact List.getElem_mem hi)
        · have h1 := h.id_lt hq'.1
          have h2 : rho l s.nx i = k := e
          rw [rho_ge hi] at h2
          omega
    · rcases List.mem_append.1 hi with hi | hi <;> rcases List.mem_append.1 hk with hk | hk
      · obtain ⟨i1, o1, h1, rfl, rfl, h4⟩ := hren hi
        obtain ⟨i2, o2, h5, rfl, rfl, h8⟩ := hren hk
        rw [h4] at hbb; rw [h8] at hbk
        exact hs'.apart _ _ _ _ h1 h5 (fun e => hne (by rw [e])) b hbb hbk
      · obtain ⟨i1, o1, h1, rfl, rfl, h4⟩ := hren hi
        rw [h4] at hbb; rw [hβ1 (mem_dropIds.1 hk).1] at hbk
        rcases hown' b ⟨_, _, h1, hbb⟩ with h' | h'
        · exact hapart hk b hbk h'
        · have := hblt (mem_dropIds.1 hk).1 b hbk; omega
      · obtain ⟨i2, o2, h5, rfl, rfl, h8⟩ := hren hk
        rw [h8] at hbk; rw [hβ1 (mem_dropIds.1 hi).1] at hbb
        rcases hown' b ⟨_, _, h5, hbk⟩ with h' | h'
        · exact hapart hi b hbb h'
        · have := hblt (mem_dropIds.1 hi).1 b hbb; omega
      · rw [hβ1 (mem_dropIds.1 hi).1] at hbb; rw [hβ1 (mem_dropIds.1 hk).1] at hbk
        exact h.st.apart _ _ _ _ (mem_dropIds.1 hi).1 (mem_dropIds.1 hk).1 hne b hbb hbk
    · rcases hownN b hbb with h' | ⟨j, o, hj, hbj⟩
      · refine ⟨fun hs => ?_, (hs'.own b h').2⟩
        rcases hs with hs | hs
        · rcases hown' b h' with h2 | h2
          · exact (h.st.own b (hsub b h2)).1 hs
          · have := h.st.inS b hs; omega
        · exact (hs'.own b h').1 hs
      · have hlt := hblt (mem_dropIds.1 hj).1 b hbj
        refine ⟨fun hs => ?_, Nat.lt_of_lt_of_le hlt hf.size⟩
        rcases hs with hs | hs
        · exact (h.st.own b ⟨j, o, (mem_dropIds.1 hj).1, hbj⟩).1 hs
        · rcases hf.inS b hs with h2 | h2 | h2
          · exact (h.st.own b ⟨j, o, (mem_dropIds.1 hj).1, hbj⟩).1 h2
          · exact hapart hj b hbj h2
          · simp only at h2; omega
    · rcases hbb with hbb | hbb
      · exact Nat.lt_of_lt_of_le (h.st.inS b hbb) hf.size
      · exact hs'.inS b hbb
    · have hf0 := h.frame
      refine ⟨Nat.le_trans hf0.size hf.size, hf.os.trans hf0.os, hf.tape.trans hf0.tape, hf.output.trans hf0.output, fun b hb hE => ?_, fun b hb => ?_, fun b hb => ?_⟩
      · rw [hext b (Nat.lt_of_lt_of_le hb hf0.size) fun ho => ?_]
        · exact hf0.old b hb hE
        · rcases hf0.own b (hsub b ho) with h' | h'
          · exact hE h'
          · omega
      · rcases hb with hb | hb
        · exact hf0.inS b hb
        · rcases hf.inS b hb with h2 | h2 | h2
          · exact hf0.inS b h2
          · exact .inr (hf0.own b (hsub b h2))
          · exact .inr (.inr (Nat.le_trans hf0.size h2))
      · rcases hownN b hb with h' | ⟨j, o, hj, hbj⟩
        · rcases hown' b h' with h2 | h2
          · exact hf0.own b (hsub b h2)
          · exact .inr (Nat.le_trans hf0.size h2)
        · exact hf0.own b ⟨j, o, (mem_dropIds.1 hj).1, hbj⟩
    · show (if j < s.nx then β j else β' (l.length + (j - s.nx))) = none
      have hj' : s.nx + (nx' - l.length) ≤ j := hj
      rw [if_neg (by omega)]
      exact hnx' _ (by omega)
    · show (if j < s.nx then β j else β' (l.length + (j - s.nx))) = C.B0 j
      have := h.nxm
      rw [if_pos (by omega)]
      exact h.pin j hj
    · exact Nat.le_trans h.nxm (Nat.le_add_right _ _)
  refine ⟨v, _, _, β1, Sn, rfl, fun hxt => ?_, hrel, ?_, hK st' nx' r hKr⟩
  · have he := hx hxt
    subst he
    exact fun b hb => hext b hb fun ⟨i, o, hi, _⟩ => by simp at hi
  · rw [← e1] at hr
    exact VRel.keep (fun b hb => ⟨.inr hb, rfl⟩) (fun _ _ e => e) _ _ ((renV_iff r v).1 hr)

/-! ### Functions that are handed deep values, and give such -/
def Imm (P : Program) (f : FuncId) (args : List AVal) (φ : AVal → Prop) : Prop := CSpec P f args [] 0 fun st nx r => st = [] ∧ nx = 0 ∧ φ r

theorem called_nil (s : AState) : s.called [] [] 0 = s := by
  have : ∀ st : List (Nat × Ob), dropIds [] st = st := fun st => by
    induction st with
    | nil => rfl
    | cons p st ih => obtain ⟨i, o⟩ := p; simp [dropIds, ih]
  obtain ⟨n, fr, st, nx⟩ := s
  simp [AState.called, renSt, this]

theorem acallI {x : Bool} {f : FuncId} {args avs : List AVal} {φ : AVal → Prop} {K' : AState → AVal → Prop} (hc : Imm P f args φ) (ha : renL (rho [] s.nx) args = avs) (hK : ∀ r, φ r → K' s (renV (rho [] s.nx) r)) : ACall P C x s f avs K' := by
  refine acall [] hc rfl (by simp [stIn]) ha (fun _ => rfl) fun st' nx' r ⟨e1, e2, h⟩ => ?_
  subst e1; subst e2
  rw [called_nil]
  exact hK r h

/-- An end that leaves no object. -/
theorem Ends.imm {φ : AVal → Prop} {st : List (Nat × Ob)} {nx : Nat} {r : AVal} (hr : renV (rho [] nx) r = r) (h : φ r) : Ends 0 (fun st nx r => st = [] ∧ nx = 0 ∧ φ r) st nx r :=
  ⟨[], [], r, ⟨rfl, by simp [stIn], hr.symm⟩, rfl, rfl, h⟩

theorem Imm.of_awp {f : FuncId} {fn : Func} {c : Code} {args : List AVal} {φ : AVal → Prop} (T : Told) (fz : List Tmp)
    (hf : P.funcs[f]? = some fn) (hb : fn.body = some c) (hn : (fn.name == "runtime.NumGoroutine") = false) (hl : args.length ≤ fn.ntmps)
    (h : ∀ w0 S0 E0 B0, awp P ⟨w0, S0, E0, 0, B0, none⟩ T c ⟨fn.ntmps, fun t => (args[t]?).getD .un, [], 0⟩ (endQ P fn.results.toList fz (Ends 0 fun st nx r => st = [] ∧ nx = 0 ∧ φ r))) : Imm P f args φ :=
  (CSpec.of_awp T fz hf hb hn hl h).ends

theorem Imm.mono {f : FuncId} {args : List AVal} {φ ψ : AVal → Prop} (h : Imm P f args φ) (hp : ∀ r, φ r → ψ r) : Imm P f args ψ :=
  ⟨h.1, fun w β S vs hs hβ ha => Calls.mono (h.2 w β S vs hs hβ ha) fun _ _ ⟨v, st', nx', r, β', S', h1, h2, h3, h4, h5, h6, h7, h8, h9, h10⟩ => ⟨v, st', nx', r, β', S', h1, h2, h3, h4, h5, h6, h7, h8, h9, hp r h10⟩⟩

end

/-- A frame of which these slots alone are known. -/
def frL : List (Nat × AVal) → Nat → AVal
  | [], _ => .any
  | (k, v) :: r, t => if t = k then v else frL r t

def slOk (s : AState) (ρ : Nat → Nat) : List (Nat × AVal) → Prop
  | [] => True
  | (k, v) :: r => s.fr k = renV ρ v ∧ slOk s ρ r

/-- 't' says less than 's' does; 'l': its objects' numbers there. -/
structure Wk (m : Nat) (s : AState) (n : Nat) (sl : List (Nat × AVal)) (st : List (Nat × Ob)) (l : List Nat) : Prop where
  n : s.n = n
  ok : wkB m s.nx l st = true
  fr : slOk s (rho l s.nx) sl
  st : stIn l s.nx s.st st

section
variable {P : Program} {C : Ctx} {s : AState} {T : Told} {β : Nat → Option Value} {S : Nat → Prop} {a : Act} {w : World}

theorem frL_rel (h : ARelB C s β S a w) {ρ : Nat → Nat} : ∀ {sl : List (Nat × AVal)}, slOk s ρ sl → ∀ t, VRel w (fun i => β (ρ i)) S (frL sl t) (a.tmps.getD t undef)
  | [], _, t => by simp only [frL, VRel]
  | (k, v) :: r, hs, t => by
    simp only [slOk] at hs
    simp only [frL]
    split
    · rename_i e; subst e
      rw [renV_iff, ← hs.1]
      exact h.fr _
    · exact frL_rel h hs.2 t

/-- Objects get new numbers, and some are forgotten. -/
theorem ARelB.ren (h : ARelB C s β S a w) {st : List (Nat × Ob)} {l : List Nat} (hok : wkB C.m s.nx l st = true) (hst : stIn l s.nx s.st st) {fr : Nat → AVal}
    (hfr : ∀ t, VRel w (fun i => β (rho l s.nx i)) S (fr t) (a.tmps.getD t undef)) : ARelB C ⟨s.n, fr, st, l.length⟩ (fun i => β (rho l s.nx i)) S a w := by
  obtain ⟨hwnd, hwlt, hwpin, hwids⟩ := wkB_spec hok
  have hb0 : ∀ {i o}, (i, o) ∈ st → i < l.length ∧ (rho l s.nx i, renOb (rho l s.nx) o) ∈ s.st := fun hi => stIn_mem hst hi
  have hown : ∀ b, Owned (fun i => β (rho l s.nx i)) st b → Owned β s.st b := fun b ⟨i, o, hi, hb⟩ => ⟨_, _, (hb0 hi).2, hb⟩
  refine ⟨hfr, h.size, ⟨fun i o hi => ?_, hwids, fun i o j o' hi hj hne => ?_, fun b hb => h.st.own b (hown b hb), h.st.inS, h.st.gl⟩, ?_, fun j hj => ?_, h.defers, fun j hj => ?_, ?_⟩
  · obtain ⟨v, h1, h2⟩ := h.st.obj _ _ (hb0 hi).2
    exact ⟨v, h1, (renOb_iff o).2 h2⟩
  · exact h.st.apart _ _ _ _ (hb0 hi).2 (hb0 hj).2 fun e => hne (rho_inj hwnd hwlt e)
  · have hf := h.frame
    exact ⟨hf.size, hf.os, hf.tape, hf.output, hf.old, hf.inS, fun b hb => hf.own b (hown b hb)⟩
  · simp only at hj ⊢
    rw [rho_ge hj]
    exact h.nx _ (by omega)
  · have e : rho l s.nx j = j := by unfold rho; rw [hwpin j hj]
    show β (rho l s.nx j) = C.B0 j
    rw [e]
    exact h.pin j hj
  · simp only
    rcases Nat.eq_zero_or_pos C.m with h0 | h0
    · omega
    · have := hwpin (C.m - 1) (by omega)
      have := (List.getElem?_eq_some_iff.1 this).1
      omega

theorem Wk.relB {n : Nat} {sl : List (Nat × AVal)} {st : List (Nat × Ob)} {l : List Nat} (h : ARelB C s β S a w) (hw : Wk C.m s n sl st l) : ARelB C ⟨n, frL sl, st, l.length⟩ (fun i => β (rho l s.nx i)) S a w := by
  have := h.ren hw.ok hw.st (frL_rel h hw.fr)
  rwa [hw.n] at this
theorem Wk.rel {n : Nat} {sl : List (Nat × AVal)} {st : List (Nat × Ob)} {l : List Nat} (h : ARel C s a w) (hw : Wk C.m s n sl st l) : ARel C ⟨n, frL sl, st, l.length⟩ a w := by
  obtain ⟨β, S, h⟩ := h
  exact ⟨_, S, hw.relB h⟩

theorem Wk.nil {n : Nat} {sl : List (Nat × AVal)} (hn : s.n = n) (h : slOk s (rho [] s.nx) sl) : Wk 0 s n sl [] [] :=
  ⟨hn, rfl, h, by simp [stIn]⟩

/-- What a round hands on. -/
structure Again {ι : Type} (m n nx : Nat) (sl : ι → List (Nat × AVal)) (st : ι → List (Nat × Ob)) (k : Nat) (μ : ι → Nat) (φ : ι → Prop) (s' : AState) : Prop where
  out : ∃ i' l, μ i' < k ∧ φ i' ∧ l.length = nx ∧ Wk m s' n (sl i') (st i') l

theorem wpIn_loop_ghost' {F : Fence} {rm : Nat} {Q : Exit → Act → World → Prop} {a : Act} {w : World} {c : Code} (I : Nat → Act → World → Prop) (n₀ : Nat) (h₀ : I n₀ a w)
    (round : ∀ n a w, I n a w → c.wpIn F rm P (Exit.then (fun a' w' => ∃ n', n' < n ∧ I n' a' w') Q) a w) : (Code.loop c).wpIn F rm P Q a w := by
  refine wpIn_loop (fun a w => ∃ n, I n a w) (fun a w => leastOf (fun n => I n a w)) ⟨n₀, h₀⟩ ?_
  intro a w hI
  refine wpIn_mono (round _ a w (leastOf_spec hI).1) ?_
  intro e a' w' hq
  cases e with
  | normal =>
    obtain ⟨n', hlt, hI'⟩ := hq
    exact ⟨⟨n', hI'⟩, Nat.lt_of_le_of_lt ((leastOf_spec ⟨n', hI'⟩).2 n' hI') hlt⟩
  | _ => exact hq

/-- A LOOP: 'i' runs through what may vary. -/
theorem aloop {ι : Type} {body : Code} {Q : Exit → AState → Prop} (sl : ι → List (Nat × AVal)) (st : ι → List (Nat × Ob)) (n0 nx : Nat) (μ : ι → Nat) (φ : ι → Prop)
    (h0 : ∃ i l, l.length = nx ∧ φ i ∧ Wk C.m s n0 (sl i) (st i) l)
    (round : ∀ i, φ i → awp P C T body ⟨n0, frL (sl i), st i, nx⟩ (thenQ (Again C.m n0 nx sl st (μ i) μ φ) Q)) :
    AWp P C (.loop body) s Q := by
  refine ⟨fun a w h => ?_⟩
  obtain ⟨i, l, hl, hφ, hw⟩ := h0
  refine wpIn_loop_ghost' (fun n a w => ∃ i, n = μ i ∧ φ i ∧ ARel C ⟨n0, frL (sl i), st i, nx⟩ a w) (μ i) ⟨i, rfl, hφ, by rw [← hl]; exact hw.rel h⟩ fun n a w ⟨i, hn, hφ, hr⟩ => ?_
  refine wpIn_mono (awp_sound body hr (round i hφ)) fun e a' w' hq => ?_
  obtain ⟨s', h1, h2⟩ := hq
  cases e <;> simp only [thenQ] at h2
  case normal =>
    obtain ⟨i', l, h3, h4, h5, h6⟩ := h2.out
    exact ⟨μ i', by omega, i', rfl, h4, by rw [← h5]; exact h6.rel h1⟩
  all_goals exact ⟨s', h1, h2⟩

/-! ### What is known of deep values -/
mutual
def D.known : D → Prop
  | .int k n => k.wrap n = n
  | .str xs => xs.length ≤ LIM ∧ ∀ x ∈ xs, 0 ≤ x ∧ x < 256
  | .ints k xs => xs.length ≤ LIM ∧ ∀ x ∈ xs, k.wrap x = x
  | .sl _ es => es.length ≤ LIM ∧ knownAll es
  | .ptr d => d.known
  | .agg ds => knownAll ds
  | _ => True
def knownAll : List D → Prop
  | [] => True
  | d :: ds => d.known ∧ knownAll ds
end

mutual
theorem Rep.known : ∀ (d : D) (cs : List Value), Rep w S d cs → d.known
  | .int k n, cs, h => by simp only [Rep] at h; simp only [D.known]; exact h.2
  | .bool b, cs, h => by simp only [D.known]
  | .str xs, cs, h => by
    simp only [Rep] at h
    simp only [D.known]
    obtain ⟨s, _, rfl, hs⟩ := h
    refine ⟨by simpa [bytesOf] using hs, fun x hx => ?_⟩
    simp only [bytesOf, List.mem_map] at hx
    obtain ⟨b, _, rfl⟩ := hx
    have := b.toNat_lt
    omega
  | .raw v, cs, h => by simp only [D.known]
  | .ints k xs, cs, h => by
    simp only [Rep] at h
    simp only [D.known]
    obtain ⟨A, c, _, _, h3, h4, _⟩ := h
    exact ⟨h3, h4⟩
  | .sl sz es, cs, h => by
    simp only [Rep] at h
    simp only [D.known]
    obtain ⟨A, c, _, _, h3, h4⟩ := h
    refine ⟨h3, ?_⟩
    cases es with
    | nil => simp only [knownAll]
    | cons e es =>
      obtain ⟨b, o, _, _, h5⟩ := h4 (by simp)
      exact RepRow.known (e :: es) b o h5
  | .ptr d, cs, h => by
    simp only [Rep] at h
    simp only [D.known]
    obtain ⟨b, o, _, _, vs, _, h4⟩ := h
    exact Rep.known d vs h4
  | .nilp, cs, h => by simp only [D.known]
  | .agg ds, cs, h => by
    simp only [Rep] at h
    simp only [D.known]
    exact RepAll.known ds cs h
  | .fn f caps, cs, h => by simp only [D.known]
theorem RepAll.known : ∀ (ds : List D) (cs : List Value), RepAll w S ds cs → knownAll ds
  | [], cs, h => by simp only [knownAll]
  | d :: ds, cs, h => by
    simp only [RepAll] at h
    simp only [knownAll]
    obtain ⟨c1, c2, _, h1, h2⟩ := h
    exact ⟨Rep.known d c1 h1, RepAll.known ds c2 h2⟩
theorem RepRow.known {sz : Nat} : ∀ (ds : List D) (b o : Nat), RepRow w S sz ds b o → knownAll ds
  | [], b, o, h => by simp only [knownAll]
  | d :: ds, b, o, h => by
    simp only [RepRow] at h
    simp only [knownAll]
    obtain ⟨⟨vs, _, _, h1⟩, h2⟩ := h
    exact ⟨Rep.known d vs h1, RepRow.known ds b _ h2⟩
end

def knownV : AVal → Prop
  | .d x => x.known
  | .ag _ cs => knownVs cs
  | .tup cs => knownVs cs
  | _ => True
where knownVs : List AVal → Prop
  | [] => True
  | x :: r => (match x with | .d y => y.known | _ => True) ∧ knownVs r

def knownSt : List (Nat × Ob) → Prop
  | [] => True
  | (_, .row k _ xs) :: r => (xs.length ≤ LIM ∧ ∀ x ∈ xs, k.wrap x = x) ∧ knownSt r
  | (_, .rowD _ _ es) :: r => (es.length ≤ LIM ∧ knownAll es) ∧ knownSt r
  | (_, .cell _ cs) :: r => knownV.knownVs cs ∧ knownSt r

theorem VAll.known : ∀ {xs : List AVal} {vs : List Value}, VAll w β S xs vs → knownV.knownVs xs
  | [], vs, h => by simp only [knownV.knownVs]
  | x :: xs, vs, h => by
    simp only [VAll] at h
    obtain ⟨v, r, _, h1, h2⟩ := h
    simp only [knownV.knownVs]
    refine ⟨?_, VAll.known h2⟩
    cases x <;> try trivial
    simp only [VRel] at h1
    obtain ⟨cs, h3, _⟩ := h1
    exact Rep.known _ cs h3

theorem SRel.known : ∀ {st : List (Nat × Ob)}, (∀ j o, (j, o) ∈ st → ∃ v, β j = some v ∧ ORel w β S v o) → knownSt st
  | [], h => by simp only [knownSt]
  | (j, o) :: r, h => by
    have ih := SRel.known (st := r) fun j o hj => h j o (List.mem_cons_of_mem _ hj)
    obtain ⟨v, _, hr⟩ := h j o (by simp)
    cases o with
    | row k t xs => simp only [ORel] at hr; simp only [knownSt]; exact ⟨⟨hr.2.2, hr.2.1⟩, ih⟩
    | rowD t sz es =>
      simp only [ORel] at hr; simp only [knownSt]
      obtain ⟨vs, _, h2, _, h4, _⟩ := hr
      exact ⟨⟨h4, RepAll.known es vs h2⟩, ih⟩
    | cell t cs =>
      simp only [ORel] at hr; simp only [knownSt]
      obtain ⟨b, vs, _, _, h3⟩ := hr
      exact ⟨VAll.known h3, ih⟩

/-- What the arguments are by their types may be taken as known. -/
theorem CSpec.learn {f : FuncId} {args : List AVal} {st : List (Nat × Ob)} {m : Nat} {K : List (Nat × Ob) → Nat → AVal → Prop} (he : Enters P f) (h : knownV.knownVs args → knownSt st → CSpec P f args st m K) : CSpec P f args st m K :=
  ⟨he, fun w β S vs hs hβ ha => (h (VAll.known ha) (SRel.known hs.obj)).2 w β S vs hs hβ ha⟩

theorem Imm.learn {f : FuncId} {args : List AVal} {φ : AVal → Prop} (he : Enters P f) (h : knownV.knownVs args → Imm P f args φ) : Imm P f args φ := CSpec.learn he fun hk _ => h hk

/-- Whatever the walk stands at: what is known of the slots and the objects. -/
theorem AWp.learn {c : Code} {Q : Exit → AState → Prop} (h : knownSt s.st → (∀ t, knownV (s.fr t)) → AWp P C c s Q) : AWp P C c s Q := by
  refine ⟨fun a w hr => ?_⟩
  obtain ⟨β, S, hb⟩ := hr
  refine (h (SRel.known hb.st.obj) (fun t => ?_)).run a w ⟨β, S, hb⟩
  have := hb.fr t
  revert this
  cases s.fr t <;> intro this <;> simp only [knownV]
  · simp only [VRel] at this
    obtain ⟨cs, h1, _⟩ := this
    exact Rep.known _ cs h1
  · simp only [VRel] at this
    obtain ⟨vs, _, h1⟩ := this
    exact VAll.known h1
  · simp only [VRel] at this
    obtain ⟨vs, _, h1⟩ := this
    exact VAll.known h1

theorem AWp.of_awp {c : Code} {Q : Exit → AState → Prop} (T : Told) (h : awp P C T c s Q) : AWp P C c s Q := ⟨fun _ _ hr => awp_sound c hr h⟩

end
end Go.Proofs.YtniaeiikdgbnfaaDoor.AW
namespace Go.Proofs.YtniaeiikdgbnfaaDoor.AW
open Go Go.RowKit
set_option linter.unusedSectionVars false
variable [Globs]
set_option linter.unusedVariables false

def told0 : Told := ⟨fun _ => false, fun _ _ => [], fun _ => .done⟩

/-- An empty row that lies nowhere yet. -/
def emptyOb (o : Ob) : Bool := match o with
  | .row _ _ [] => true
  | .rowD _ sz [] => decide (0 < sz)
  | _ => false

def AState.adopt : AState → Tmp → Ob → AState
  | ⟨n, fr, st, nx⟩, t, o => ⟨n, upd fr t (.own nx), (nx, o) :: st, nx + 1⟩

def isEm (x : AVal) : Bool := match x with
  | .em _ | .nls _ => true
  | _ => false

section
variable {P : Program} {C : Ctx} {s : AState} {T : Told} {β : Nat → Option Value} {S : Nat → Prop} {a : Act} {w : World}

theorem ARel.adopt (h : ARel C s a w) {t : Tmp} {o : Ob} (ho : emptyOb o = true) (ht : isEm (s.fr t) = true) : ARel C (s.adopt t o) a w := by
  obtain ⟨β, S, h⟩ := h
  have hx : ∃ A, a.tmps.getD t undef = .slice A 0 0 := by
    have := h.fr t
    unfold isEm at ht
    split at ht
    · rename_i y e; rw [e] at this; simp only [VRel] at this; exact this.1
    · rename_i y e; rw [e] at this; simp only [VRel] at this; exact ⟨none, this.1⟩
    · cases ht
  obtain ⟨A, hA⟩ := hx
  have hb : blk (.slice A 0 0) = none := blk_empty A
  have hr : ORel w (updO β s.nx (.slice A 0 0)) S (.slice A 0 0) o := by
    unfold emptyOb at ho
    split at ho
    · simp only [ORel]; exact ⟨.inl ⟨A, rfl, rfl, rfl⟩, by simp, by simp⟩
    · simp only [ORel]; exact ⟨[], .inl ⟨A, rfl, rfl, rfl⟩, by simp [RepAll], by simp, by simp, of_decide_eq_true ho⟩
    · cases ho
  have h1 := h.fresh (World.grownBy.refl w _) (o' := o) (v := .slice A 0 0) (by simp [hb]) hr
  obtain ⟨n, fr, st, nx⟩ := s
  refine ⟨_, S, fun u => ?_, h1.size, h1.st, h1.frame, h1.nx, h1.defers, h1.pin, h1.nxm⟩
  simp only [AState.adopt, upd]
  split
  · rename_i e; subst e; simp only [VRel, updO, if_true]; rw [hA]
  · exact h1.fr u

theorem AWp.adopt {c : Code} {Q : Exit → AState → Prop} (t : Tmp) (o : Ob) (ho : emptyOb o = true) (ht : isEm (s.fr t) = true) (h : AWp P C c (s.adopt t o) Q) : AWp P C c s Q :=
  ⟨fun a w hr => h.run a w (hr.adopt ho ht)⟩

theorem AWp.freeze {c : Code} {Q : Exit → AState → Prop} (ts : List Tmp) (h : qFreezes P ts s fun s => AWp P C c s Q) : AWp P C c s Q :=
  ⟨fun a w ⟨β, S, hr⟩ => let ⟨S', s', h1, h2⟩ := qFreezes_sound hr h; h2.run a w ⟨β, S', h1⟩⟩

theorem AWp.mono {c : Code} {Q Q' : Exit → AState → Prop} (h : AWp P C c s Q) (hq : ∀ e s, Q e s → Q' e s) : AWp P C c s Q' :=
  ⟨fun a w hr => wpIn_mono (h.run a w hr) fun e _ _ ⟨s', h1, h2⟩ => ⟨s', h1, hq e s' h2⟩⟩

/-- Two ways that come together again: 'M' is what holds there. -/
theorem AWp.join {x y : Code} {Q : Exit → AState → Prop} (M : AState → Prop) (hx : AWp P C x s (thenQ M Q)) (hy : ∀ s, M s → AWp P C y s Q) : AWp P C (.seq x y) s Q :=
  ⟨fun a w hr => wpIn_seq (wpIn_mono (hx.run a w hr) fun e a' w' ⟨s', h1, h2⟩ => by
    cases e <;> first | exact (hy s' h2).run a' w' h1 | exact ⟨s', h1, h2⟩)⟩

end
end Go.Proofs.YtniaeiikdgbnfaaDoor.AW
namespace Go.Proofs.YtniaeiikdgbnfaaDoor.AW
open Go Go.RowKit
set_option linter.unusedSectionVars false
variable [Globs]

def rowD? : Ob → Option D
  | .row k _ xs => some (.ints k xs)
  | .rowD _ sz es => some (.sl sz es)
  | .cell _ _ => none

/-- Values as they are while nobody writes these objects. -/
def peekL : List (Nat × Ob) → List AVal → List AVal
  | [], xs => xs
  | (j, o) :: r, xs =>
    match rowD? o with
    | some d => peekL r (frzL j d xs)
    | none => peekL r xs

/-- Structs that are looked at: 'y' is what object j is just then. -/
def peekC : List (Nat × D) → List AVal → List AVal
  | [], xs => xs
  | (j, y) :: r, xs => peekC r (frzL j (.ptr y) xs)
def pcOk (st : List (Nat × Ob)) : List (Nat × D) → Prop
  | [] => True
  | (j, y) :: r => (match getO st j with
    | some (.cell _ cs) => allDv cs = some (flatD y)
    | _ => False) ∧ pcOk st r

mutual
def flatV : AVal → Bool
  | .d (.int _ _) | .d (.bool _) | .d (.str _) | .d .nilp | .d (.raw _) => true
  | .any | .un | .em _ | .nls _ | .own _ => true
  | .tup cs => flatVs cs
  | _ => false
def flatVs : List AVal → Bool
  | [] => true
  | x :: r => flatV x && flatVs r
end

def flatSt : List (Nat × Ob) → Bool
  | [] => true
  | (_, .row _ _ _) :: r => flatSt r
  | _ => false

section
variable {P : Program} {C : Ctx} {s : AState} {β : Nat → Option Value} {S S' : Nat → Prop} {a : Act} {w : World}

mutual
theorem flatV_rel : ∀ (x : AVal) (v : Value), flatV x = true → VRel w β S x v → VRel w β S' x v
  | .any, v, _, h => by simp only [VRel]
  | .un, v, _, h => by simpa only [VRel] using h
  | .d x, v, hf, h => by
    cases x <;> simp [flatV] at hf <;> simpa only [VRel, Rep] using h
  | .em x, v, _, h => by simpa only [VRel] using h
  | .nls x, v, _, h => by simpa only [VRel] using h
  | .own i, v, _, h => by simpa only [VRel] using h
  | .view i off len, v, hf, h => by simp [flatV] at hf
  | .optr i off, v, hf, h => by simp [flatV] at hf
  | .ag t cs, v, hf, h => by simp [flatV] at hf
  | .tup cs, v, hf, h => by
    simp only [flatV] at hf
    simp only [VRel] at h ⊢
    obtain ⟨vs, h1, h2⟩ := h
    exact ⟨vs, h1, flatVs_rel cs _ hf h2⟩
  | .ofn f cs, v, hf, h => by simp [flatV] at hf
theorem flatVs_rel : ∀ (xs : List AVal) (vs : List Value), flatVs xs = true → VAll w β S xs vs → VAll w β S' xs vs
  | [], vs, _, h => by simpa only [VAll] using h
  | x :: xs, vs, hf, h => by
    simp only [flatVs, Bool.and_eq_true] at hf
    simp only [VAll] at h ⊢
    obtain ⟨v, r, e, h1, h2⟩ := h
    exact ⟨v, r, e, flatV_rel x v hf.1 h1, flatVs_rel xs r hf.2 h2⟩
end

theorem flatSt_mem : ∀ {st : List (Nat × Ob)}, flatSt st = true → ∀ {i o}, (i, o) ∈ st → ∃ k t xs, o = .row k t xs
  | [], _, i, o, h => by simp at h
  | (j, p) :: r, hf, i, o, h => by
    cases p with
    | row k t xs =>
      simp only [flatSt] at hf
      rcases List.mem_cons.1 h with h | h
      · injection h with h1 h2; subst h2; exact ⟨k, t, xs, rfl⟩
      · exact flatSt_mem hf h
    | rowD t sz es => simp [flatSt] at hf
    | cell t cs => simp [flatSt] at hf

theorem frzOk_of (h : ARelB C s β S a w) {j : Nat} {o : Ob} {d : D} (hj : (j, o) ∈ s.st) (hd : rowD? o = some d) (hS : ∀ b, S b ∨ (β j).bind blk = some b → S' b) : FrzOk w β S' j d := by
  obtain ⟨v, hv, hr⟩ := h.st.obj j _ hj
  cases o with
  | cell e cs => simp [rowD?] at hd
  | row k e xs =>
    simp only [rowD?, Option.some.injEq] at hd
    subst hd
    simp only [ORel] at hr
    obtain ⟨hr1, hr2, hr3⟩ := hr
    obtain ⟨A, c, rfl, hle, hA⟩ := ownsV_cells hr1
    have base : ∀ {b : Nat}, (β j).bind blk = some b → ∀ off len, off + len ≤ xs.length → 0 < len → Cells w b off (((xs.drop off).take len).map (Value.int k)) := fun {b} hb off len hl hp => by
      obtain ⟨b', e1, e2, hc⟩ := hA (by omega)
      rw [hv, Option.bind_some, e2] at hb
      injection hb with hb; subst hb
      have := hc.sub off len
      simpa [List.map_take, List.map_drop] using this
    refine ⟨fun u hu _ => ?_, fun k' xs' e off len A' c' hl hc hA' => ?_, (fun y e => by cases e), fun k' xs' e off b hlt hb => ?_⟩
    · rw [hv] at hu; injection hu with hu; subst hu
      simp only [VRel, Rep]
      refine ⟨_, ⟨A, c, rfl, hle, hr3, hr2, fun hne => ?_⟩, rfl⟩
      obtain ⟨b, e1, e2, hc⟩ := hA (List.length_pos_iff.2 hne)
      exact ⟨b, 0, e1, hS b (.inr (by rw [hv]; exact e2)), hc⟩
    · injection e with e1 e2; subst e1; subst e2
      have hln : ((xs.drop off).take len).length = len := by simp; omega
      simp only [VRel, Rep]
      refine ⟨[.slice A' len c'], ⟨A', c', by rw [hln], by omega, by omega, fun x hx => hr2 x (List.mem_of_mem_drop (List.mem_of_mem_take hx)), fun hne => ?_⟩, rfl⟩
      have hp : 0 < len := by have := List.length_pos_iff.2 hne; omega
      obtain ⟨b, hb, rfl⟩ := hA' hp
      exact ⟨b, off, rfl, hS b (.inr hb), base hb off len hl hp⟩
    · injection e with e1 e2; subst e1; subst e2
      simp only [VRel, Rep]
      refine ⟨_, ⟨b, off, rfl, hS b (.inr hb), [.int k (xs.getD off 0)], ?_, rfl, ?_⟩, rfl⟩
      · have := base hb off 1 (by omega) (by omega)
        rw [take_one_drop hlt] at this
        simpa [List.getD_eq_getElem?_getD, hlt] using this
      · rw [List.getD_eq_getElem?_getD, List.getElem?_eq_getElem hlt]; exact hr2 _ (List.getElem_mem hlt)
  | rowD e sz es =>
    simp only [rowD?, Option.some.injEq] at hd
    subst hd
    simp only [ORel] at hr
    obtain ⟨vs, hr1, hr2, hr3, hr4, hr5⟩ := hr
    obtain ⟨A, c, rfl, hle, hA⟩ := ownsV_cells hr1
    refine ⟨fun u hu _ => ?_, (fun _ _ e => by cases e), (fun _ e => by cases e), (fun _ _ e => by cases e)⟩
    rw [hv] at hu; injection hu with hu; subst hu
    simp only [VRel, Rep]
    refine ⟨_, ⟨A, c, rfl, hle, hr4, fun hne => ?_⟩, rfl⟩
    obtain ⟨b, e1, e2, hc⟩ := hA (List.length_pos_iff.2 hne)
    exact ⟨b, 0, e1, hS b (.inr (by rw [hv]; exact e2)), repRow_of hc (hr2.keep fun b hb => ⟨hS b (.inl hb), rfl⟩) hr3⟩

theorem peekL_rel (h : ARelB C s β S a w) (hS : ∀ b, S b → S' b) : ∀ {st : List (Nat × Ob)}, (∀ j o, (j, o) ∈ st → (j, o) ∈ s.st ∧ ∀ b, (β j).bind blk = some b → S' b) → ∀ {xs : List AVal} {vs : List Value}, VAll w β S' xs vs → VAll w β S' (peekL st xs) vs
  | [], _, xs, vs, hv => hv
  | (j, o) :: r, hst, xs, vs, hv => by
    simp only [peekL]
    have ih := fun {xs vs} => @peekL_rel h hS r (fun j o hj => hst j o (List.mem_cons_of_mem _ hj)) xs vs
    split
    · rename_i d hd
      obtain ⟨h1, h2⟩ := hst j o (by simp)
      exact ih (frzL_rel (fun _ hb => hb) (frzOk_of h h1 hd fun b hb => hb.elim (hS b) (h2 b)) _ _ hv)
    · exact ih hv

theorem frzOk_cell (h : ARelB C s β S a w) (hS : ∀ b, S b → S' b) {j : Nat} {e : TypeId} {cs : List AVal} {y : D} (hj : (j, .cell e cs) ∈ s.st) (hb : ∀ b, (β j).bind blk = some b → S' b) (hds : allDv cs = some (flatD y)) : FrzOk w β S' j (.ptr y) := by
  obtain ⟨v, hv, hr⟩ := h.st.obj j _ hj
  simp only [ORel] at hr
  obtain ⟨b, vs, rfl, hh, hr⟩ := hr
  have hrep := rep_of_flat _ _ (allDv_rel hds hr)
  refine ⟨fun u hu hne => (hne _ rfl).elim, (fun _ _ e => by cases e), fun y' e b' hb' => ?_, (fun _ _ e => by cases e)⟩
  injection e with e; subst e
  have hbb := hb'
  rw [hv] at hb'
  simp only [Option.bind_some, blk, Option.some.injEq] at hb'
  subst hb'
  simp only [VRel, Rep]
  refine ⟨_, ⟨b, 0, rfl, hb b hbb, vs.toList, fun i u hu => ?_, hrep.keep fun b hb => ⟨hS b hb, rfl⟩⟩, rfl⟩
  simp [World.cell?, hh]
  simpa using hu

theorem peekC_rel (h : ARelB C s β S a w) (hS : ∀ b, S b → S' b) {st : List (Nat × Ob)} (hst : ∀ j o, (j, o) ∈ st → (j, o) ∈ s.st ∧ ∀ b, (β j).bind blk = some b → S' b) :
    ∀ {pc : List (Nat × D)}, pcOk st pc → ∀ {xs : List AVal} {vs : List Value}, VAll w β S' xs vs → VAll w β S' (peekC pc xs) vs
  | [], _, xs, vs, hv => hv
  | (j, y) :: r, hp, xs, vs, hv => by
    simp only [pcOk] at hp
    simp only [peekC]
    obtain ⟨h1, h2⟩ := hp
    split at h1
    · rename_i e cs ho
      obtain ⟨h3, h4⟩ := hst j _ (getO_mem ho)
      exact peekC_rel h hS hst h2 (frzL_rel (fun _ hb => hb) (frzOk_cell h hS h3 h4 h1) _ _ hv)
    · exact h1.elim

/-- A CALL THAT LOOKS AT WHAT IS OWNED, and may write what it is handed ('l'): what comes back are numbers and rows of numbers. -/
theorem acallP {x : Bool} {f : FuncId} {args avs : List AVal} {st : List (Nat × Ob)} {K : List (Nat × Ob) → Nat → AVal → Prop} {K' : AState → AVal → Prop} (l : List Nat) (pc : List (Nat × D)) (hc : CSpec P f args st l.length K)
    (hok : wkB 0 s.nx l st = true) (hst : stIn l s.nx s.st st) (hpc : pcOk (dropIds l s.st) pc) (ha : renL (rho l s.nx) args = peekL (dropIds l s.st) (peekC pc avs)) (hx : x = true → st = [])
    (hK : ∀ st' nx' r, K st' nx' r → flatSt st' = true ∧ flatV r = true ∧ K' (s.called l st' nx') (renV (rho l s.nx) r)) : ACall P C x s f avs K' := by
  obtain ⟨hn, hb, _, hsn⟩ := wkB_spec hok
  refine ⟨fun β S a w vs h hv => ?_⟩
  let ρ := rho l s.nx
  let β0 : Nat → Option Value := fun i => β (ρ i)
  let S2 : Nat → Prop := fun b => S b ∨ ∃ j o, (j, o) ∈ dropIds l s.st ∧ (β j).bind blk = some b
  have hβ0 : ∀ i, l.length ≤ i → β0 i = none := fun i hi => by
    show β (rho l s.nx i) = none
    rw [rho_ge hi]
    exact h.nx _ (by omega)
  have hargs : VAll w β0 S2 args vs := (renL_iff args vs).2 (by
    rw [ha]
    refine peekL_rel h (fun b hb => .inl hb) (fun j o hj => ⟨(mem_dropIds.1 hj).1, fun b hb => .inr ⟨j, o, hj, hb⟩⟩) (peekC_rel h (fun b hb => .inl hb) (fun j o hj => ⟨(mem_dropIds.1 hj).1, fun b hb => .inr ⟨j, o, hj, hb⟩⟩) hpc ?_)
    exact VAll.keep (fun b hb => ⟨.inl hb, rfl⟩) (fun _ _ e => e) _ _ hv)
  have hown0 : ∀ b, Owned β0 st b → ∃ i o, (i, o) ∈ st ∧ i < l.length ∧ (ρ i, renOb ρ o) ∈ s.st ∧ (β (ρ i)).bind blk = some b := fun b ⟨i, o, hi, hb⟩ =>
    ⟨i, o, hi, (stIn_mem hst hi).1, (stIn_mem hst hi).2, hb⟩
  have hsub : ∀ b, Owned β0 st b → Owned β s.st b := fun b hb => let ⟨i, o, _, _, h3, h4⟩ := hown0 b hb; ⟨_, _, h3, h4⟩
  have hblt : ∀ {j o}, (j, o) ∈ s.st → ∀ b, (β j).bind blk = some b → b < w.heap.size := fun {j o} hj b hb => (h.st.own b ⟨j, o, hj, hb⟩).2
  have hapart : ∀ {j o}, (j, o) ∈ dropIds l s.st → ∀ b, (β j).bind blk = some b → ¬ Owned β0 st b := fun {j o} hj b hb ho => by
    obtain ⟨i, o', _, hil, h3, h4⟩ := hown0 b ho
    have hj' := mem_dropIds.1 hj
    refine h.st.apart j o _ _ hj'.1 h3 (fun e => hj'.2 ?_) b hb h4
    rw [e]
    show rho l s.nx i ∈ l
    rw [rho_lt hil]; exact List.getElem_mem hil
  have hs0 : SRel w β0 S2 st := by
    refine ⟨fun i o hi => ?_, hsn, fun i o j o' hi hj hne b hbb => ?_, fun b hb => ⟨fun hs => ?_, (h.st.own b (hsub b hb)).2⟩, fun b hb => ?_, h.st.gl.keep fun b hb => ⟨.inl hb, rfl⟩⟩
    · obtain ⟨v, h1, h2⟩ := h.st.obj _ _ (stIn_mem hst hi).2
      exact ⟨v, h1, ((renOb_iff o).2 h2).keep (fun b hb => ⟨.inl hb, rfl⟩) (fun _ _ e => e) fun _ _ => rfl⟩
    · exact h.st.apart _ _ _ _ (stIn_mem hst hi).2 (stIn_mem hst hj).2 (fun e => hne (rho_inj hn ‹∀ j ∈ l, j < s.nx› e)) b hbb
    · rcases hs with hs | ⟨j, o, hj, hbj⟩
      · exact (h.st.own b (hsub b hb)).1 hs
      · exact hapart hj b hbj hb
    · rcases hb with hb | ⟨j, o, hj, hbj⟩
      · exact h.st.inS b hb
      · exact hblt (mem_dropIds.1 hj).1 b hbj
  refine ⟨hc.1, Calls.mono (hc.2 w β0 S2 vs hs0 hβ0 hargs) fun e w' hh => ?_⟩
  obtain ⟨v, st', nx', r, β', S', rfl, hf, hs', hnx', hm, hpin, hr, hKr⟩ := hh
  obtain ⟨hfs, hfr, hKr⟩ := hK st' nx' r hKr
  let β1 : Nat → Option Value := fun j => if j < s.nx then β j else β' (l.length + (j - s.nx))
  have e1 : (fun i => β1 (ρ i)) = β' := by
    funext i
    show (if rho l s.nx i < s.nx then β (rho l s.nx i) else β' (l.length + (rho l s.nx i - s.nx))) = β' i
    rcases Nat.lt_or_ge i l.length with hi | hi
    · have h1 : rho l s.nx i < s.nx := by rw [rho_lt hi]; exact hb _ (List.getElem_mem hi)
      rw [if_pos h1]
      exact (hpin i hi).symm
    · rw [rho_ge hi, if_neg (by omega)]
      congr 1; omega
  have hext : ∀ b, b < w.heap.size → ¬ Owned β0 st b → w'.heap[b]? = w.heap[b]? := fun b h1 h2 => hf.old b h1 h2
  have hSkeep : ∀ b, S b → S b ∧ w'.heap[b]? = w.heap[b]? := fun b hb => ⟨hb, hext b (h.st.inS b hb) fun ho => (h.st.own b (hsub b ho)).1 hb⟩
  have hβkeep : ∀ j u, β j = some u → β1 j = some u := fun j u e => by
    show (if j < s.nx then β j else _) = some u
    rw [if_pos]
    · exact e
    · rcases Nat.lt_or_ge j s.nx with h' | h'
      · exact h'
      · rw [h.nx j h'] at e; cases e
  have hβ1 : ∀ {j o}, (j, o) ∈ s.st → β1 j = β j := fun {j o} hj => by
    obtain ⟨u, hu, _⟩ := h.st.obj j o hj
    rw [hβkeep j u hu, hu]
  have hren : ∀ {j p}, (j, p) ∈ renSt ρ st' → ∃ i o, (i, o) ∈ st' ∧ j = ρ i ∧ p = renOb ρ o ∧ β1 j = β' i := fun {j p} hj => by
    obtain ⟨i, o, h1, h2, h3⟩ := mem_renSt.1 hj
    exact ⟨i, o, h1, h2, h3, by rw [h2]; exact congrFun e1 i⟩
  have hown' : ∀ b, Owned β' st' b → Owned β0 st b ∨ w.heap.size ≤ b := fun b hb => hf.own b hb
  have hownN : ∀ b, Owned β1 (renSt ρ st' ++ dropIds l s.st) b → Owned β' st' b ∨ (∃ j o, (j, o) ∈ dropIds l s.st ∧ (β j).bind blk = some b) := fun b ⟨j, o, hj, hb⟩ => by
    rcases List.mem_append.1 hj with hj | hj
    · obtain ⟨i, o', h1, h2, h3, h4⟩ := hren hj
      exact .inl ⟨i, o', h1, by rw [← h4]; exact hb⟩
    · exact .inr ⟨j, o, hj, by rw [← hβ1 (mem_dropIds.1 hj).1]; exact hb⟩
  have hmarks : Marks C S a w' := h.defers.keep fun D hD hS => by
    have hlt : D < w.heap.size := (Array.getElem?_eq_some_iff.1 hD).1
    have hno : ¬ Owned β0 st D := fun ho => by
      obtain ⟨cs, t, hc⟩ := h.st.cells (hsub D ho)
      rw [hD] at hc; cases hc
    exact ⟨(hext D hlt hno).trans hD, hS⟩
  have hrel : ARelB C (s.called l st' nx') β1 S a w' := by
    refine ⟨fun t => VRel.keep hSkeep hβkeep _ _ (h.fr t), h.size, ⟨fun j p hj => ?_, ?_, fun i p k q hi hk hne b hbb hbk => ?_, fun b hbb => ?_, fun b hbb => Nat.lt_of_lt_of_le (h.st.inS b hbb) hf.size, h.st.gl.keep hSkeep⟩, ?_, fun j hj => ?_, hmarks, fun j hj => ?_, ?_⟩
    · rcases List.mem_append.1 hj with hj | hj
      · obtain ⟨i, o, h1, rfl, rfl, h4⟩ := hren hj
        obtain ⟨u, hu, hr⟩ := hs'.obj i o h1
        refine ⟨u, by rw [h4]; exact hu, ?_⟩
        obtain ⟨k, t, xs, rfl⟩ := flatSt_mem hfs h1
        simpa only [ORel, renOb] using hr
      · have hj' := mem_dropIds.1 hj
        obtain ⟨u, hu, hr⟩ := h.st.obj j p hj'.1
        exact ⟨u, hβkeep j u hu, hr.keep hSkeep hβkeep fun b hbb => hext b (hblt hj'.1 b (by rw [hu]; exact hbb)) (hapart hj b (by rw [hu]; exact hbb))⟩
    · show ((renSt ρ st' ++ dropIds l s.st).map (·.1)).Nodup
      rw [List.map_append, List.nodup_append]
      refine ⟨?_, dropIds_nodup h.st.nodup, fun j hj k hk e => ?_⟩
      · rw [renSt_ids, show (st'.map fun p => ρ p.1) = (st'.map (·.1)).map ρ by simp]
        exact nodup_map_inj hs'.nodup fun x _ y _ e => rho_inj hn hb e
      · subst e
        rw [renSt_ids] at hj
        obtain ⟨⟨i, o⟩, _, e⟩ := List.mem_map.1 hj
        obtain ⟨⟨k, q⟩, hq, e2⟩ := List.mem_map.1 hk
        have hq' := mem_dropIds.1 hq
        simp only at e e2
        subst e2
        rcases Nat.lt_or_ge i l.length with hi | hi
        · exact hq'.2 (by rw [← e]; show rho l s.nx i ∈ l; rw [rho_lt hi]; exact List.getElem_mem hi)
        · have h1 := h.id_lt hq'.1
          have h2 : rho l s.nx i = k := e
          rw [rho_ge hi] at h2
          omega
    · rcases List.mem_append.1 hi with hi | hi <;> rcases List.mem_append.1 hk with hk | hk
      · obtain ⟨i1, o1, h1, rfl, rfl, h4⟩ := hren hi
        obtain ⟨i2, o2, h5, rfl, rfl, h8⟩ := hren hk
        rw [h4] at hbb; rw [h8] at hbk
        exact hs'.apart _ _ _ _ h1 h5 (fun e => hne (by rw [e])) b hbb hbk
      · obtain ⟨i1, o1, h1, rfl, rfl, h4⟩ := hren hi
        rw [h4] at hbb; rw [hβ1 (mem_dropIds.1 hk).1] at hbk
        rcases hown' b ⟨_, _, h1, hbb⟩ with h' | h'
        · exact hapart hk b hbk h'
        · have := hblt (mem_dropIds.1 hk).1 b hbk; omega
      · obtain ⟨i2, o2, h5, rfl, rfl, h8⟩ := hren hk
        rw [h8] at hbk; rw [hβ1 (mem_dropIds.1 hi).1] at hbb
        rcases hown' b ⟨_, _, h5, hbk⟩ with h' | h'
        · exact hapart hi b hbb h'
        · have := hblt (mem_dropIds.1 hi).1 b hbb; omega
      · rw [hβ1 (mem_dropIds.1 hi).1] at hbb; rw [hβ1 (mem_dropIds.1 hk).1] at hbk
        exact h.st.apart _ _ _ _ (mem_dropIds.1 hi).1 (mem_dropIds.1 hk).1 hne b hbb hbk
    · rcases hownN b hbb with h' | ⟨j, o, hj, hbj⟩
      · refine ⟨fun hs => ?_, (hs'.own b h').2⟩
        rcases hown' b h' with h2 | h2
        · exact (h.st.own b (hsub b h2)).1 hs
        · have := h.st.inS b hs; omega
      · have hlt := hblt (mem_dropIds.1 hj).1 b hbj
        exact ⟨fun hs => (h.st.own b ⟨j, o, (mem_dropIds.1 hj).1, hbj⟩).1 hs, Nat.lt_of_lt_of_le hlt hf.size⟩
    · have hf0 := h.frame
      refine ⟨Nat.le_trans hf0.size hf.size, hf.os.trans hf0.os, hf.tape.trans hf0.tape, hf.output.trans hf0.output, fun b hb hE => ?_, hf0.inS, fun b hb => ?_⟩
      · rw [hext b (Nat.lt_of_lt_of_le hb hf0.size) fun ho => ?_]
        · exact hf0.old b hb hE
        · rcases hf0.own b (hsub b ho) with h' | h'
          · exact hE h'
          · omega
      · rcases hownN b hb with h' | ⟨j, o, hj, hbj⟩
        · rcases hown' b h' with h2 | h2
          · exact hf0.own b (hsub b h2)
          · exact .inr (Nat.le_trans hf0.size h2)
        · exact hf0.own b ⟨j, o, (mem_dropIds.1 hj).1, hbj⟩
    · show (if j < s.nx then β j else β' (l.length + (j - s.nx))) = none
      have hj' : s.nx + (nx' - l.length) ≤ j := hj
      rw [if_neg (by omega)]
      exact hnx' _ (by omega)
    · show (if j < s.nx then β j else β' (l.length + (j - s.nx))) = C.B0 j
      have := h.nxm
      rw [if_pos (by omega)]
      exact h.pin j hj
    · exact Nat.le_trans h.nxm (Nat.le_add_right _ _)
  refine ⟨v, _, _, β1, S, rfl, fun hxt => ?_, hrel, ?_, hKr⟩
  · have he := hx hxt
    subst he
    exact fun b hb => hext b hb fun ⟨i, o, hi, _⟩ => by simp at hi
  · rw [← e1] at hr
    exact (renV_iff r v).1 (flatV_rel r v hfr hr)

end
end Go.Proofs.YtniaeiikdgbnfaaDoor.AW
namespace Go.Proofs.YtniaeiikdgbnfaaDoor.AW
open Go Go.RowKit
set_option linter.unusedSectionVars false
variable [Globs]
set_option linter.unusedVariables false

def awpRounds (P : Program) (C : Ctx) (T : Told) (body : Code) (Q : Exit → AState → Prop) : Nat → AState → Prop
  | 0, _ => False
  | n + 1, s => awp P C T body s (thenQ (awpRounds P C T body Q n) Q)

section
variable {P : Program} {C : Ctx} {s : AState} {T : Told}

theorem rounds_sound {body : Code} {Q : Exit → AState → Prop} : ∀ (n : Nat) {s : AState} {a : Act} {w : World}, ARel C s a w → awpRounds P C T body Q n s → Code.roundsIn (fence C.rd) 0 P body (liftQ C Q) n a w
  | 0, s, a, w, _, h => by simp only [awpRounds] at h
  | n + 1, s, a, w, hr, h => by
    simp only [awpRounds] at h
    simp only [Code.roundsIn]
    refine wpIn_mono (awp_sound body hr h) fun e a' w' ⟨s', h1, h2⟩ => ?_
    cases e <;> first | exact rounds_sound n h1 h2 | exact ⟨s', h1, h2⟩

theorem AWp.rounds {body : Code} {Q : Exit → AState → Prop} (T : Told) (n : Nat) (h : awpRounds P C T body Q n s) : AWp P C (.loop body) s Q :=
  ⟨fun a w hr => wpIn_mono (wpIn_loop_rounds n (rounds_sound n hr h)) fun e a' w' ⟨s', h1, h2⟩ => ⟨s', h1, h2⟩⟩

end
end Go.Proofs.YtniaeiikdgbnfaaDoor.AW
namespace Go.Proofs.YtniaeiikdgbnfaaDoor.AW
open Go Go.RowKit
set_option linter.unusedSectionVars false
variable [Globs]

mutual
/-- Does a value name objects below p alone? -/
def belowV (p : Nat) : AVal → Bool
  | .own i => decide (i < p)
  | .view i _ _ => decide (i < p)
  | .optr i _ => decide (i < p)
  | .ag _ cs => belowL p cs
  | .tup cs => belowL p cs
  | .ofn _ cs => belowL p cs
  | .any => true
  | .un => true
  | .d _ => true
  | .em _ => true
  | .nls _ => true
def belowL (p : Nat) : List AVal → Bool
  | [] => true
  | x :: xs => belowV p x && belowL p xs
end

def belowS (p : Nat) : List (Nat × AVal) → Bool
  | [] => true
  | x :: xs => belowV p x.2 && belowS p xs

def cut (p : Nat) (β : Nat → Option Value) : Nat → Option Value := fun j => if j < p then β j else none

section
variable {P : Program} {C : Ctx} {s : AState} {T : Told} {β : Nat → Option Value} {S : Nat → Prop} {a : Act} {w : World}

theorem cut_bind {p i b : Nat} (hi : i < p) (h : (β i).bind blk = some b) : (cut p β i).bind blk = some b := by
  unfold cut; rw [if_pos hi]; exact h

mutual
theorem belowV_rel {p : Nat} : ∀ (x : AVal) (v : Value), belowV p x = true → VRel w β S x v → VRel w (cut p β) S x v
  | .any, v, _, h => by simp only [VRel]
  | .un, v, _, h => by simpa only [VRel] using h
  | .d x, v, _, h => by simpa only [VRel] using h
  | .em x, v, _, h => by simpa only [VRel] using h
  | .nls x, v, _, h => by simpa only [VRel] using h
  | .own i, v, hb, h => by
    simp only [belowV, decide_eq_true_eq] at hb
    simp only [VRel] at h ⊢
    unfold cut; rw [if_pos hb]; exact h
  | .view i off len, v, hb, h => by
    simp only [belowV, decide_eq_true_eq] at hb
    simp only [VRel] at h ⊢
    obtain ⟨A, c, e, hl, hA⟩ := h
    exact ⟨A, c, e, hl, fun hp => let ⟨b, hb', e'⟩ := hA hp; ⟨b, cut_bind hb hb', e'⟩⟩
  | .optr i off, v, hb, h => by
    simp only [belowV, decide_eq_true_eq] at hb
    simp only [VRel] at h ⊢
    obtain ⟨b, hb', e⟩ := h
    exact ⟨b, cut_bind hb hb', e⟩
  | .ag _ cs, v, hb, h => by
    simp only [belowV] at hb
    simp only [VRel] at h ⊢
    obtain ⟨vs, h1, h2⟩ := h
    exact ⟨vs, h1, belowL_rel cs _ hb h2⟩
  | .tup cs, v, hb, h => by
    simp only [belowV] at hb
    simp only [VRel] at h ⊢
    obtain ⟨vs, h1, h2⟩ := h
    exact ⟨vs, h1, belowL_rel cs _ hb h2⟩
  | .ofn f cs, v, hb, h => by
    simp only [belowV] at hb
    simp only [VRel] at h ⊢
    obtain ⟨vs, h1, h2⟩ := h
    exact ⟨vs, h1, belowL_rel cs _ hb h2⟩
theorem belowL_rel {p : Nat} : ∀ (xs : List AVal) (vs : List Value), belowL p xs = true → VAll w β S xs vs → VAll w (cut p β) S xs vs
  | [], vs, _, h => by simpa only [VAll] using h
  | x :: xs, vs, hb, h => by
    simp only [belowL, Bool.and_eq_true] at hb
    simp only [VAll] at h ⊢
    obtain ⟨v, r, e, h1, h2⟩ := h
    exact ⟨v, r, e, belowV_rel x v hb.1 h1, belowL_rel xs r hb.2 h2⟩
end

theorem belowS_fr {p : Nat} : ∀ {sl : List (Nat × AVal)}, belowS p sl = true → ∀ t, belowV p (frL sl t) = true
  | [], _, t => by simp only [frL, belowV]
  | (k, v) :: r, h, t => by
    simp only [belowS, Bool.and_eq_true] at h
    simp only [frL]
    split
    · exact h.1
    · exact belowS_fr h.2 t

/-- The world grows, or a block turns that nobody speaks of. -/
theorem ARelB.grown (h : ARelB C s β S a w) {w' : World} {row : Option Nat} (hg : w.grownBy w' row) (hr : ∀ g, row = some g → ¬ S g ∧ ¬ Owned β s.st g ∧ C.w0.heap.size ≤ g ∧ a.defers = []) : ARelB C s β S a w' := by
  have hS : ∀ b, S b → S b ∧ w'.heap[b]? = w.heap[b]? := fun b hb => ⟨hb, hg.block b (h.st.inS b hb) fun e => (hr b e.symm).1 hb⟩
  have hlt : ∀ b, b < w.heap.size → b < w'.heap.size := fun b hb => Nat.lt_of_lt_of_le hb hg.size
  refine ⟨fun t => VRel.keep hS (fun _ _ e => e) _ _ (h.fr t), h.size, ⟨fun j o hj => ?_, h.st.nodup, h.st.apart, fun b hb => ⟨(h.st.own b hb).1, hlt b (h.st.own b hb).2⟩, fun b hb => hlt b (h.st.inS b hb), h.st.gl.keep hS⟩,
    ⟨Nat.le_trans h.frame.size hg.size, hg.os.trans h.frame.os, hg.tape.trans h.frame.tape, hg.output.trans h.frame.output, fun b hb hE => ?_, h.frame.inS, h.frame.own⟩, h.nx, ?_, h.pin, h.nxm⟩
  · obtain ⟨v, hv, hr'⟩ := h.st.obj j o hj
    refine ⟨v, hv, hr'.keep hS (fun _ _ e => e) fun b hb => ?_⟩
    have ho : Owned β s.st b := ⟨j, o, hj, by rw [hv]; exact hb⟩
    exact hg.block b (h.st.own b ho).2 fun e => (hr b e.symm).2.1 ho
  · rw [hg.block b (Nat.lt_of_lt_of_le hb h.frame.size) fun e => ?_]
    · exact h.frame.old b hb hE
    · have := (hr b e.symm).2.2.1
      omega
  · cases row with
    | none => exact h.defers.keep fun D hD hS => ⟨(hg.block D (Array.getElem?_eq_some_iff.1 hD).1 (by simp)).trans hD, hS⟩
    | some g =>
      have hd := (hr g rfl).2.2.2
      exact ⟨fun d hd' => by rw [hd] at hd'; simp at hd', by rw [hd]; simp, fun _ => hd⟩

/-- Behind a stretch of which the relation is held to where it began. -/
theorem ARelB.seg (h : ARelB C s β S a w) {m : Nat} {rd : Option Nat} {s' : AState} {a' : Act} {w' : World} {β' : Nat → Option Value} {S' : Nat → Prop} (hm : C.m ≤ m) (hbel : ∀ t, belowV m (s.fr t) = true)
    (h' : ARelB ⟨w, S, Owned β s.st, m, β, rd⟩ s' β' S' a' w') : ARelB C ⟨s.n, s.fr, s'.st, s'.nx⟩ β' (fun b => S b ∨ S' b) a w' := by
  have hf := h'.frame
  have hf0 := h.frame
  have hext : ∀ b, b < w.heap.size → ¬ Owned β s.st b → w'.heap[b]? = w.heap[b]? := fun b h1 h2 => hf.old b h1 h2
  have hSk : ∀ b, S b → (S b ∨ S' b) ∧ w'.heap[b]? = w.heap[b]? := fun b hb => ⟨.inl hb, hext b (h.st.inS b hb) fun ho => (h.st.own b ho).1 hb⟩
  have hown' : ∀ b, Owned β' s'.st b → Owned β s.st b ∨ w.heap.size ≤ b := fun b hb => hf.own b hb
  have hpin : ∀ j u, cut m β j = some u → β' j = some u := fun j u e => by
    unfold cut at e
    split at e
    · rename_i hj; rw [h'.pin j hj]; exact e
    · cases e
  refine ⟨fun t => VRel.keep hSk hpin _ _ (belowV_rel _ _ (hbel t) (h.fr t)), h.size, ⟨fun j o hj => ?_, h'.st.nodup, h'.st.apart, fun b hb => ⟨fun hs => ?_, (h'.st.own b hb).2⟩, fun b hb => ?_, h.st.gl.keep hSk⟩, ?_, h'.nx, ?_, fun j hj => ?_, Nat.le_trans hm h'.nxm⟩
  · obtain ⟨v, hv, hr⟩ := h'.st.obj j o hj
    exact ⟨v, hv, hr.keep (fun b hb => ⟨.inr hb, rfl⟩) (fun _ _ e => e) fun _ _ => rfl⟩
  · rcases hs with hs | hs
    · rcases hown' b hb with h2 | h2
      · exact (h.st.own b h2).1 hs
      · have := h.st.inS b hs; omega
    · exact (h'.st.own b hb).1 hs
  · rcases hb with hb | hb
    · exact Nat.lt_of_lt_of_le (h.st.inS b hb) hf.size
    · exact h'.st.inS b hb
  · refine ⟨Nat.le_trans hf0.size hf.size, hf.os.trans hf0.os, hf.tape.trans hf0.tape, hf.output.trans hf0.output, fun b hb hE => ?_, fun b hb => ?_, fun b hb => ?_⟩
    · rw [hext b (Nat.lt_of_lt_of_le hb hf0.size) fun ho => ?_]
      · exact hf0.old b hb hE
      · rcases hf0.own b ho with h' | h'
        · exact hE h'
        · omega
    · rcases hb with hb | hb
      · exact hf0.inS b hb
      · rcases hf.inS b hb with h2 | h2 | h2
        · exact hf0.inS b h2
        · exact .inr (hf0.own b h2)
        · exact .inr (.inr (Nat.le_trans hf0.size h2))
    · rcases hown' b hb with h2 | h2
      · exact hf0.own b h2
      · exact .inr (Nat.le_trans hf0.size h2)
  · exact h.defers.keep fun D hD hS => by
      have hlt : D < w.heap.size := (Array.getElem?_eq_some_iff.1 hD).1
      have hno : ¬ Owned β s.st D := fun ho => by
        obtain ⟨cs, t, hc⟩ := h.st.cells ho
        rw [hD] at hc; cases hc
      refine ⟨(hext D hlt hno).trans hD, fun hs => hs.elim hS fun hs => ?_⟩
      rcases hf.inS D hs with h2 | h2 | h2
      · exact hS h2
      · exact hno h2
      · simp only at h2; omega
  · rw [h'.pin j (Nat.lt_of_lt_of_le hj hm)]
    exact h.pin j hj

/-! ### Iterators -/
/-- WHAT AN ITERATOR DOES: it calls yield n times, number k with 'enc k', unless yield says no; beside that it makes new memory at most. -/
def Iter (P : Program) (g : FuncId) (lb : Array Value) (n : Nat) (enc : Nat → Array Value) (Good : World → Prop) : Prop :=
  ∀ (l : Nat) (J : Nat → World → Prop) (Jx : World → Prop) (W : World),
    (∀ k W W', J k W → W.grownBy W' none → J k W') → (∀ W W', Jx W → W.grownBy W' none → Jx W') → (∀ k W, J k W → Good W) →
    (∀ k W, k < n → J k W → YieldAt (fence none) 0 P l (enc k) W fun e W' => (e = .returned (.bool true) ∧ J (k + 1) W') ∨ (e = .returned (.bool false) ∧ Jx W')) →
    J 0 W → Calls P g (#[.func (.yield l) #[] #[]] ++ lb) W fun e W' => (∃ v, e = .returned v) ∧ (J n W' ∨ Jx W')

structure AIter (P : Program) (g : FuncId) (caps : List D) (n : Nat) (es : Nat → List D) : Prop where
  enters : Enters P g
  run : ∀ w S (lb : Array Value), RepAll w S caps lb.toList → ∃ enc : Nat → Array Value, (∀ k, k < n → VAll w (fun _ => none) S ((es k).map .d) (enc k).toList) ∧ Iter P g lb n enc (fun W => ∀ b, S b → W.heap[b]? = w.heap[b]?)

/-- What a round hands on. -/
structure OutR {ι : Type} (p nx : Nat) (st : ι → List (Nat × Ob)) (φ : ι → Prop) (s : AState) : Prop where
  out : ∃ i l, l.length = nx ∧ φ i ∧ wkB p s.nx l (st i) = true ∧ stIn l s.nx s.st (st i)

def roundQ {ι : Type} (p nx : Nat) (st : ι → List (Nat × Ob)) (φ : ι → Prop) (χ : Exit → ι → Prop) : Exit → AState → Prop
  | .normal, s => OutR p nx st φ s
  | .ret, s => OutR p nx st (χ .ret) s
  | .exit id, s => OutR p nx st (χ (.exit id)) s
  | _, _ => False

/-- The loop's own state between two rounds. -/
structure InLoop (CL : Ctx) (n0 nx : Nat) (sl : List (Nat × AVal)) (stt : List (Nat × Ob)) (tm : Array Value) (D l : Nat) (S : Nat → Prop) (rc : Loop) (W : World) : Prop where
  out : ∃ β' S', W.heap[l]? = some (.loop rc) ∧ W.heap[D]? = some (.deferred (some [])) ∧ ¬ S' D ∧ ¬ S' l ∧ (∀ b, S b → S' b) ∧ ARelB CL ⟨n0, frL sl, stt, nx⟩ β' S' { tmps := tm, defers := [] } W

theorem InLoop.grown {CL : Ctx} {n0 nx : Nat} {sl : List (Nat × AVal)} {stt : List (Nat × Ob)} {tm : Array Value} {D l : Nat} {rc : Loop} {W W' : World} (h : InLoop CL n0 nx sl stt tm D l S rc W) (hg : W.grownBy W' none) :
    InLoop CL n0 nx sl stt tm D l S rc W' := by
  obtain ⟨β', S', h1, h2, h3, h4, h5, h6⟩ := h.out
  exact ⟨β', S', (hg.block l (Array.getElem?_eq_some_iff.1 h1).1 (by simp)).trans h1, (hg.block D (Array.getElem?_eq_some_iff.1 h2).1 (by simp)).trans h2, h3, h4, h5, h6.grown hg (by simp)⟩

theorem frL_params : ∀ {ps : List Tmp} {xs : List AVal} {vs : List Value} {tm : Array Value} {fr : List (Nat × AVal)}, ps.Nodup → (∀ t ∈ ps, t < tm.size) → xs.length = ps.length → VAll w β S xs vs →
    (∀ t, VRel w β S (frL fr t) (tm.getD t undef)) → ∀ t, VRel w β S (frL (ps.zip xs ++ fr) t) (((ps.zip vs).foldl (fun t (x : Tmp × Value) => t.setIfInBounds x.1 x.2) tm).getD t undef)
  | [], xs, vs, tm, fr, _, _, hl, _, hf, t => by simpa using hf t
  | p :: ps, x :: xs, vs, tm, fr, hn, hlt, hl, hv, hf, t => by
    simp only [VAll] at hv
    obtain ⟨v, r, rfl, h1, h2⟩ := hv
    simp only [List.nodup_cons] at hn
    simp only [List.zip_cons_cons, List.foldl_cons, List.cons_append, frL]
    have step := @frL_params ps xs r (tm.setIfInBounds p v) ((p, x) :: fr) hn.2 (fun t ht => by simpa using hlt t (by simp [ht])) (by simpa using hl) h2 (fun t => by
      simp only [frL]
      split
      · rename_i e; subst e
        rw [Array.getD_eq_getD_getElem?, Array.getElem?_setIfInBounds]
        simp [hlt t (by simp), h1]
      · rename_i e
        rw [Array.getD_eq_getD_getElem?, Array.getElem?_setIfInBounds_ne (fun h => e h.symm), ← Array.getD_eq_getD_getElem?]
        exact hf t) t
    split
    · rename_i e; subst e
      have : ∀ (ps : List Tmp) (xs : List AVal) (fr : List (Nat × AVal)), t ∉ ps → frL (ps.zip xs ++ fr) t = frL fr t := fun ps => by
        induction ps with
        | nil => intro xs fr _; simp
        | cons q ps ih =>
          intro xs fr hq
          cases xs with
          | nil => simp
          | cons y ys =>
            simp only [List.mem_cons, not_or] at hq
            simp only [List.zip_cons_cons, List.cons_append, frL, if_neg hq.1]
            exact ih ys fr hq.2
      rw [this ps xs _ hn.1] at step
      simpa [frL] using step
    · rename_i e
      have : ∀ (ps : List Tmp) (xs : List AVal), frL (ps.zip xs ++ (p, x) :: fr) t = frL (ps.zip xs ++ fr) t := fun ps => by
        induction ps with
        | nil => intro xs; simp [frL, e]
        | cons q ps ih =>
          intro xs
          cases xs with
          | nil => simp [frL, e]
          | cons y ys => simp only [List.zip_cons_cons, List.cons_append, frL]; rw [ih ys]
      rw [this] at step
      exact step
  | p :: ps, [], vs, tm, fr, _, _, hl, _, _, t => by simp at hl

theorem foldl_size : ∀ (l : List (Tmp × Value)) (tm : Array Value), (l.foldl (fun t (x : Tmp × Value) => t.setIfInBounds x.1 x.2) tm).size = tm.size
  | [], tm => rfl
  | x :: l, tm => by simp only [List.foldl_cons]; rw [foldl_size l]; simp

end
end Go.Proofs.YtniaeiikdgbnfaaDoor.AW
