/- The abstract walker, part 20: a call, as its caller sees it. -/
import Derived.Test.YtniaeiikdgbnfaaAW19
namespace Go.Proofs.Ytniaeiikdgbnfaa.AW
open Go Go.RowKit

/-- The caller's state behind a call. -/
def AState.called : AState → List Nat → List (Nat × Ob) → Nat → AState
  | ⟨n, fr, st, nx⟩, l, st', nx' => ⟨n, fr, renSt (rho l nx) st' ++ dropIds l st, nx + (nx' - l.length)⟩

theorem mem_dropIds {l : List Nat} : ∀ {st : List (Nat × Ob)} {i : Nat} {o : Ob}, (i, o) ∈ dropIds l st ↔ (i, o) ∈ st ∧ i ∉ l
  | [], i, o => by simp [dropIds]
  | (k, q) :: r, i, o => by
    simp only [dropIds]
    split
    · rename_i h
      rw [mem_dropIds (st := r)]
      simp only [List.mem_cons, Prod.mk.injEq]
      simp only [List.contains_iff_mem] at h
      constructor
      · rintro ⟨h1, h2⟩; exact ⟨.inr h1, h2⟩
      · rintro ⟨⟨rfl, rfl⟩ | h1, h2⟩
        · exact (h2 h).elim
        · exact ⟨h1, h2⟩
    · rename_i h
      simp only [List.contains_iff_mem] at h
      simp only [List.mem_cons, mem_dropIds (st := r), Prod.mk.injEq]
      constructor
      · rintro (⟨rfl, rfl⟩ | ⟨h1, h2⟩)
        · exact ⟨.inl ⟨rfl, rfl⟩, h⟩
        · exact ⟨.inr h1, h2⟩
      · rintro ⟨⟨rfl, rfl⟩ | h1, h2⟩
        · exact .inl ⟨rfl, rfl⟩
        · exact .inr ⟨h1, h2⟩

theorem dropIds_nodup {l : List Nat} : ∀ {st : List (Nat × Ob)}, (st.map (·.1)).Nodup → ((dropIds l st).map (·.1)).Nodup
  | [], h => by simp [dropIds]
  | (i, p) :: r, h => by
    simp only [List.map_cons, List.nodup_cons] at h
    simp only [dropIds]
    split
    · exact dropIds_nodup h.2
    · simp only [List.map_cons, List.nodup_cons]
      refine ⟨fun hm => ?_, dropIds_nodup h.2⟩
      obtain ⟨⟨k, q⟩, hk, rfl⟩ := List.mem_map.1 hm
      exact h.1 (List.mem_map.2 ⟨_, (mem_dropIds.1 hk).1, rfl⟩)

section
variable {P : Program} {C : Ctx} {s : AState} {β : Nat → Option Value} {S : Nat → Prop} {a : Act} {w : World}

theorem nodup_map_inj {α β : Type} {f : α → β} : ∀ {xs : List α}, xs.Nodup → (∀ x ∈ xs, ∀ y ∈ xs, f x = f y → x = y) → (xs.map f).Nodup
  | [], _, _ => by simp
  | x :: xs, h, hf => by
    simp only [List.nodup_cons, List.map_cons] at h ⊢
    refine ⟨fun hm => ?_, nodup_map_inj h.2 fun a ha b hb => hf a (by simp [ha]) b (by simp [hb])⟩
    obtain ⟨y, hy, e⟩ := List.mem_map.1 hm
    have := hf y (by simp [hy]) x (by simp) e
    subst this
    exact h.1 hy

/-- A CALL BY CONTRACT. -/
theorem acall {x : Bool} {f : FuncId} {args avs : List AVal} {st : List (Nat × Ob)} {K : List (Nat × Ob) → Nat → AVal → Prop} {K' : AState → AVal → Prop} (l : List Nat) (hc : CSpec P f args st l.length K)
    (hok : wkB 0 s.nx l st = true) (hst : stIn l s.nx s.st st) (ha : renL (rho l s.nx) args = avs) (hx : x = true → st = [])
    (hK : ∀ st' nx' r, K st' nx' r → K' (s.called l st' nx') (renV (rho l s.nx) r)) : ACall P C x s f avs K' := by
  obtain ⟨hn, hb, _, hsn⟩ := wkB_spec hok
  refine ⟨fun β S a w vs h hv => ?_⟩
  let ρ := rho l s.nx
  let β0 : Nat → Option Value := fun i => β (ρ i)
  have hβ0 : ∀ i, l.length ≤ i → β0 i = none := fun i hi => by
    show β (rho l s.nx i) = none
    rw [rho_ge hi]
    exact h.nx _ (by omega)
  have hargs : VAll w β0 S args vs := (renL_iff args vs).2 (by rw [ha]; exact hv)
  have hown0 : ∀ b, Owned β0 st b → ∃ i o, (i, o) ∈ st ∧ i < l.length ∧ (ρ i, renOb ρ o) ∈ s.st ∧ (β (ρ i)).bind blk = some b := fun b ⟨i, o, hi, hb⟩ =>
    ⟨i, o, hi, (stIn_mem hst hi).1, (stIn_mem hst hi).2, hb⟩
  have hsub : ∀ b, Owned β0 st b → Owned β s.st b := fun b hb => let ⟨i, o, _, _, h3, h4⟩ := hown0 b hb; ⟨_, _, h3, h4⟩
  have hs0 : SRel w β0 S st := by
    refine ⟨fun i o hi => ?_, hsn, fun i o j o' hi hj hne b hbb => ?_, fun b hb => h.st.own b (hsub b hb), h.st.inS⟩
    · obtain ⟨v, h1, h2⟩ := h.st.obj _ _ (stIn_mem hst hi).2
      exact ⟨v, h1, (renOb_iff o).2 h2⟩
    · exact h.st.apart _ _ _ _ (stIn_mem hst hi).2 (stIn_mem hst hj).2 (fun e => hne (rho_inj hn hb e)) b hbb
  refine ⟨hc.1, Calls.mono (hc.2 w β0 S vs hs0 hβ0 hargs) fun e w' hh => ?_⟩
  obtain ⟨v, st', nx', r, β', S', rfl, hf, hs', hnx', hm, hpin, hr, hKr⟩ := hh
  let β1 : Nat → Option Value := fun j => if j < s.nx then β j else β' (l.length + (j - s.nx))
  let Sn : Nat → Prop := fun b => S b ∨ S' b
  have e1 : (fun i => β1 (ρ i)) = β' := by
    funext i
    show (if rho l s.nx i < s.nx then β (rho l s.nx i) else β' (l.length + (rho l s.nx i - s.nx))) = β' i
    rcases Nat.lt_or_ge i l.length with hi | hi
    · have h1 : rho l s.nx i < s.nx := by rw [rho_lt hi]; exact hb _ (List.getElem_mem hi)
      rw [if_pos h1]
      exact (hpin i hi).symm
    · rw [rho_ge hi, if_neg (by omega)]
      congr 1; omega
  have hext : ∀ b, b < w.heap.size → ¬ Owned β0 st b → w'.heap[b]? = w.heap[b]? := fun b h1 h2 => hf.old b h1 h2
  have hSkeep : ∀ b, S b → Sn b ∧ w'.heap[b]? = w.heap[b]? := fun b hb => ⟨.inl hb, hext b (h.st.inS b hb) fun ho => (h.st.own b (hsub b ho)).1 hb⟩
  have hβkeep : ∀ j u, β j = some u → β1 j = some u := fun j u e => by
    show (if j < s.nx then β j else _) = some u
    rw [if_pos]
    · exact e
    · rcases Nat.lt_or_ge j s.nx with h' | h'
      · exact h'
      · rw [h.nx j h'] at e; cases e
  have hapart : ∀ {j o}, (j, o) ∈ dropIds l s.st → ∀ b, (β j).bind blk = some b → ¬ Owned β0 st b := fun {j o} hj b hb ho => by
    obtain ⟨i, o', _, hil, h3, h4⟩ := hown0 b ho
    have hj' := mem_dropIds.1 hj
    refine h.st.apart j o _ _ hj'.1 h3 (fun e => hj'.2 ?_) b hb h4
    rw [e]
    show rho l s.nx i ∈ l
    rw [rho_lt hil]; exact List.getElem_mem hil
  have hβ1 : ∀ {j o}, (j, o) ∈ s.st → β1 j = β j := fun {j o} hj => by
    obtain ⟨u, hu, _⟩ := h.st.obj j o hj
    rw [hβkeep j u hu, hu]
  have hren : ∀ {j p}, (j, p) ∈ renSt ρ st' → ∃ i o, (i, o) ∈ st' ∧ j = ρ i ∧ p = renOb ρ o ∧ β1 j = β' i := fun {j p} hj => by
    obtain ⟨i, o, h1, h2, h3⟩ := mem_renSt.1 hj
    exact ⟨i, o, h1, h2, h3, by rw [h2]; exact congrFun e1 i⟩
  have hown' : ∀ b, Owned β' st' b → Owned β0 st b ∨ w.heap.size ≤ b := fun b hb => hf.own b hb
  have hownN : ∀ b, Owned β1 (renSt ρ st' ++ dropIds l s.st) b → Owned β' st' b ∨ (∃ j o, (j, o) ∈ dropIds l s.st ∧ (β j).bind blk = some b) := fun b ⟨j, o, hj, hb⟩ => by
    rcases List.mem_append.1 hj with hj | hj
    · obtain ⟨i, o', h1, h2, h3, h4⟩ := hren hj
      exact .inl ⟨i, o', h1, by rw [← h4]; exact hb⟩
    · exact .inr ⟨j, o, hj, by rw [← hβ1 (mem_dropIds.1 hj).1]; exact hb⟩
  have hblt : ∀ {j o}, (j, o) ∈ s.st → ∀ b, (β j).bind blk = some b → b < w.heap.size := fun {j o} hj b hb => (h.st.own b ⟨j, o, hj, hb⟩).2
  have hmarks : Marks C Sn a w' := h.defers.keep fun D hD hS => by
    have hlt : D < w.heap.size := (Array.getElem?_eq_some_iff.1 hD).1
    have hno : ¬ Owned β0 st D := fun ho => by
      obtain ⟨cs, t, hc⟩ := h.st.cells (hsub D ho)
      rw [hD] at hc; cases hc
    refine ⟨(hext D hlt hno).trans hD, fun hs => hs.elim hS fun hs => ?_⟩
    rcases hf.inS D hs with h2 | h2 | h2
    · exact hS h2
    · exact hno h2
    · simp only at h2; omega
  have hrel : ARelB C (s.called l st' nx') β1 Sn a w' := by
    refine ⟨fun t => VRel.keep hSkeep hβkeep _ _ (h.fr t), h.size, ⟨fun j p hj => ?_, ?_, fun i p k q hi hk hne b hbb hbk => ?_, fun b hbb => ?_, fun b hbb => ?_⟩, ?_, fun j hj => ?_, hmarks, fun j hj => ?_, ?_⟩
    · rcases List.mem_append.1 hj with hj | hj
      · obtain ⟨i, o, h1, rfl, rfl, h4⟩ := hren hj
        obtain ⟨u, hu, hr⟩ := hs'.obj i o h1
        refine ⟨u, by rw [h4]; exact hu, ?_⟩
        rw [← e1] at hr
        exact ((renOb_iff o).1 hr).keep (fun b hb => ⟨.inr hb, rfl⟩) (fun _ _ e => e) fun _ _ => rfl
      · have hj' := mem_dropIds.1 hj
        obtain ⟨u, hu, hr⟩ := h.st.obj j p hj'.1
        exact ⟨u, hβkeep j u hu, hr.keep hSkeep hβkeep fun b hbb => hext b (hblt hj'.1 b (by rw [hu]; exact hbb)) (hapart hj b (by rw [hu]; exact hbb))⟩
    · show ((renSt ρ st' ++ dropIds l s.st).map (·.1)).Nodup
      rw [List.map_append, List.nodup_append]
      refine ⟨?_, dropIds_nodup h.st.nodup, fun j hj k hk e => ?_⟩
      · rw [renSt_ids, show (st'.map fun p => ρ p.1) = (st'.map (·.1)).map ρ by simp]
        exact nodup_map_inj hs'.nodup fun x _ y _ e => rho_inj hn hb e
      · subst e
        rw [renSt_ids] at hj
        obtain ⟨⟨i, o⟩, _, e⟩ := List.mem_map.1 hj
        obtain ⟨⟨k, q⟩, hq, e2⟩ := List.mem_map.1 hk
        have hq' := mem_dropIds.1 hq
        simp only at e e2
        subst e2
        rcases Nat.lt_or_ge i l.length with hi | hi
        · exact hq'.2 (by rw [← e]; show rho l s.nx i ∈ l; rw [rho_lt hi]; exact List.getElem_mem hi)
        · have h1 := h.id_lt hq'.1
          have h2 : rho l s.nx i = k := e
          rw [rho_ge hi] at h2
          omega
    · rcases List.mem_append.1 hi with hi | hi <;> rcases List.mem_append.1 hk with hk | hk
      · obtain ⟨i1, o1, h1, rfl, rfl, h4⟩ := hren hi
        obtain ⟨i2, o2, h5, rfl, rfl, h8⟩ := hren hk
        rw [h4] at hbb; rw [h8] at hbk
        exact hs'.apart _ _ _ _ h1 h5 (fun e => hne (by rw [e])) b hbb hbk
      · obtain ⟨i1, o1, h1, rfl, rfl, h4⟩ := hren hi
        rw [h4] at hbb; rw [hβ1 (mem_dropIds.1 hk).1] at hbk
        rcases hown' b ⟨_, _, h1, hbb⟩ with h' | h'
        · exact hapart hk b hbk h'
        · have := hblt (mem_dropIds.1 hk).1 b hbk; omega
      · obtain ⟨i2, o2, h5, rfl, rfl, h8⟩ := hren hk
        rw [h8] at hbk; rw [hβ1 (mem_dropIds.1 hi).1] at hbb
        rcases hown' b ⟨_, _, h5, hbk⟩ with h' | h'
        · exact hapart hi b hbb h'
        · have := hblt (mem_dropIds.1 hi).1 b hbb; omega
      · rw [hβ1 (mem_dropIds.1 hi).1] at hbb; rw [hβ1 (mem_dropIds.1 hk).1] at hbk
        exact h.st.apart _ _ _ _ (mem_dropIds.1 hi).1 (mem_dropIds.1 hk).1 hne b hbb hbk
    · rcases hownN b hbb with h' | ⟨j, o, hj, hbj⟩
      · refine ⟨fun hs => ?_, (hs'.own b h').2⟩
        rcases hs with hs | hs
        · rcases hown' b h' with h2 | h2
          · exact (h.st.own b (hsub b h2)).1 hs
          · have := h.st.inS b hs; omega
        · exact (hs'.own b h').1 hs
      · have hlt := hblt (mem_dropIds.1 hj).1 b hbj
        refine ⟨fun hs => ?_, Nat.lt_of_lt_of_le hlt hf.size⟩
        rcases hs with hs | hs
        · exact (h.st.own b ⟨j, o, (mem_dropIds.1 hj).1, hbj⟩).1 hs
        · rcases hf.inS b hs with h2 | h2 | h2
          · exact (h.st.own b ⟨j, o, (mem_dropIds.1 hj).1, hbj⟩).1 h2
          · exact hapart hj b hbj h2
          · simp only at h2; omega
    · rcases hbb with hbb | hbb
      · exact Nat.lt_of_lt_of_le (h.st.inS b hbb) hf.size
      · exact hs'.inS b hbb
    · have hf0 := h.frame
      refine ⟨Nat.le_trans hf0.size hf.size, hf.os.trans hf0.os, hf.tape.trans hf0.tape, hf.output.trans hf0.output, fun b hb hE => ?_, fun b hb => ?_, fun b hb => ?_⟩
      · rw [hext b (Nat.lt_of_lt_of_le hb hf0.size) fun ho => ?_]
        · exact hf0.old b hb hE
        · rcases hf0.own b (hsub b ho) with h' | h'
          · exact hE h'
          · omega
      · rcases hb with hb | hb
        · exact hf0.inS b hb
        · rcases hf.inS b hb with h2 | h2 | h2
          · exact hf0.inS b h2
          · exact .inr (hf0.own b (hsub b h2))
          · exact .inr (.inr (Nat.le_trans hf0.size h2))
      · rcases hownN b hb with h' | ⟨j, o, hj, hbj⟩
        · rcases hown' b h' with h2 | h2
          · exact hf0.own b (hsub b h2)
          · exact .inr (Nat.le_trans hf0.size h2)
        · exact hf0.own b ⟨j, o, (mem_dropIds.1 hj).1, hbj⟩
    · show (if j < s.nx then β j else β' (l.length + (j - s.nx))) = none
      have hj' : s.nx + (nx' - l.length) ≤ j := hj
      rw [if_neg (by omega)]
      exact hnx' _ (by omega)
    · show (if j < s.nx then β j else β' (l.length + (j - s.nx))) = C.B0 j
      have := h.nxm
      rw [if_pos (by omega)]
      exact h.pin j hj
    · exact Nat.le_trans h.nxm (Nat.le_add_right _ _)
  refine ⟨v, _, _, β1, Sn, rfl, fun hxt => ?_, hrel, ?_, hK st' nx' r hKr⟩
  · have he := hx hxt
    subst he
    exact fun b hb => hext b hb fun ⟨i, o, hi, _⟩ => by simp at hi
  · rw [← e1] at hr
    exact VRel.keep (fun b hb => ⟨.inr hb, rfl⟩) (fun _ _ e => e) _ _ ((renV_iff r v).1 hr)

/-! ### Functions that are handed deep values, and give such -/
def Imm (P : Program) (f : FuncId) (args : List AVal) (φ : AVal → Prop) : Prop := CSpec P f args [] 0 fun st nx r => st = [] ∧ nx = 0 ∧ φ r

theorem called_nil (s : AState) : s.called [] [] 0 = s := by
  have : ∀ st : List (Nat × Ob), dropIds [] st = st := fun st => by
    induction st with
    | nil => rfl
    | cons p st ih => obtain ⟨i, o⟩ := p; simp [dropIds, ih]
  obtain ⟨n, fr, st, nx⟩ := s
  simp [AState.called, renSt, this]

theorem acallI {x : Bool} {f : FuncId} {args avs : List AVal} {φ : AVal → Prop} {K' : AState → AVal → Prop} (hc : Imm P f args φ) (ha : renL (rho [] s.nx) args = avs) (hK : ∀ r, φ r → K' s (renV (rho [] s.nx) r)) : ACall P C x s f avs K' := by
  refine acall [] hc rfl (by simp [stIn]) ha (fun _ => rfl) fun st' nx' r ⟨e1, e2, h⟩ => ?_
  subst e1; subst e2
  rw [called_nil]
  exact hK r h

/-- An end that leaves no object. -/
theorem Ends.imm {φ : AVal → Prop} {st : List (Nat × Ob)} {nx : Nat} {r : AVal} (hr : renV (rho [] nx) r = r) (h : φ r) : Ends 0 (fun st nx r => st = [] ∧ nx = 0 ∧ φ r) st nx r :=
  ⟨[], [], r, ⟨rfl, by simp [stIn], hr.symm⟩, rfl, rfl, h⟩

theorem Imm.of_awp {f : FuncId} {fn : Func} {c : Code} {args : List AVal} {φ : AVal → Prop} (T : Told) (fz : List Tmp)
    (hf : P.funcs[f]? = some fn) (hb : fn.body = some c) (hn : (fn.name == "runtime.NumGoroutine") = false) (hl : args.length ≤ fn.ntmps)
    (h : ∀ w0 S0 E0 B0, awp P ⟨w0, S0, E0, 0, B0, none⟩ T c ⟨fn.ntmps, fun t => (args[t]?).getD .un, [], 0⟩ (endQ P fn.results.toList fz (Ends 0 fun st nx r => st = [] ∧ nx = 0 ∧ φ r))) : Imm P f args φ :=
  (CSpec.of_awp T fz hf hb hn hl h).ends

theorem Imm.mono {f : FuncId} {args : List AVal} {φ ψ : AVal → Prop} (h : Imm P f args φ) (hp : ∀ r, φ r → ψ r) : Imm P f args ψ :=
  ⟨h.1, fun w β S vs hs hβ ha => Calls.mono (h.2 w β S vs hs hβ ha) fun _ _ ⟨v, st', nx', r, β', S', h1, h2, h3, h4, h5, h6, h7, h8, h9, h10⟩ => ⟨v, st', nx', r, β', S', h1, h2, h3, h4, h5, h6, h7, h8, h9, hp r h10⟩⟩

end
end Go.Proofs.Ytniaeiikdgbnfaa.AW
