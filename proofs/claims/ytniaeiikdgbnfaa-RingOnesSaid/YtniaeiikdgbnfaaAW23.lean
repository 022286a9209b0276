/- The abstract walker, part 23: a call that only looks at what is owned. -/
import Derived.Test.YtniaeiikdgbnfaaAW22
namespace Go.Proofs.Ytniaeiikdgbnfaa.AW
open Go Go.RowKit

def rowD? : Ob → Option D
  | .row k _ xs => some (.ints k xs)
  | .rowD _ sz es => some (.sl sz es)
  | .cell _ _ => none

/-- Values as they are while nobody writes these objects. -/
def peekL : List (Nat × Ob) → List AVal → List AVal
  | [], xs => xs
  | (j, o) :: r, xs =>
    match rowD? o with
    | some d => peekL r (frzL j d xs)
    | none => peekL r xs

/-- Structs that are looked at: 'y' is what object j is just then. -/
def peekC : List (Nat × D) → List AVal → List AVal
  | [], xs => xs
  | (j, y) :: r, xs => peekC r (frzL j (.ptr y) xs)
def pcOk (st : List (Nat × Ob)) : List (Nat × D) → Prop
  | [] => True
  | (j, y) :: r => (match getO st j with
    | some (.cell _ cs) => allDv cs = some (flatD y)
    | _ => False) ∧ pcOk st r

mutual
def flatV : AVal → Bool
  | .d (.int _ _) | .d (.bool _) | .d (.str _) | .d .nilp | .d (.raw _) => true
  | .any | .un | .em _ | .nls _ | .own _ => true
  | .tup cs => flatVs cs
  | _ => false
def flatVs : List AVal → Bool
  | [] => true
  | x :: r => flatV x && flatVs r
end

def flatSt : List (Nat × Ob) → Bool
  | [] => true
  | (_, .row _ _ _) :: r => flatSt r
  | _ => false

section
variable {P : Program} {C : Ctx} {s : AState} {β : Nat → Option Value} {S S' : Nat → Prop} {a : Act} {w : World}

mutual
theorem flatV_rel : ∀ (x : AVal) (v : Value), flatV x = true → VRel w β S x v → VRel w β S' x v
  | .any, v, _, h => by simp only [VRel]
  | .un, v, _, h => by simpa only [VRel] using h
  | .d x, v, hf, h => by
    cases x <;> simp [flatV] at hf <;> simpa only [VRel, Rep] using h
  | .em x, v, _, h => by simpa only [VRel] using h
  | .nls x, v, _, h => by simpa only [VRel] using h
  | .own i, v, _, h => by simpa only [VRel] using h
  | .view i off len, v, hf, h => by simp [flatV] at hf
  | .optr i off, v, hf, h => by simp [flatV] at hf
  | .ag t cs, v, hf, h => by simp [flatV] at hf
  | .tup cs, v, hf, h => by
    simp only [flatV] at hf
    simp only [VRel] at h ⊢
    obtain ⟨vs, h1, h2⟩ := h
    exact ⟨vs, h1, flatVs_rel cs _ hf h2⟩
  | .ofn f cs, v, hf, h => by simp [flatV] at hf
theorem flatVs_rel : ∀ (xs : List AVal) (vs : List Value), flatVs xs = true → VAll w β S xs vs → VAll w β S' xs vs
  | [], vs, _, h => by simpa only [VAll] using h
  | x :: xs, vs, hf, h => by
    simp only [flatVs, Bool.and_eq_true] at hf
    simp only [VAll] at h ⊢
    obtain ⟨v, r, e, h1, h2⟩ := h
    exact ⟨v, r, e, flatV_rel x v hf.1 h1, flatVs_rel xs r hf.2 h2⟩
end

theorem flatSt_mem : ∀ {st : List (Nat × Ob)}, flatSt st = true → ∀ {i o}, (i, o) ∈ st → ∃ k t xs, o = .row k t xs
  | [], _, i, o, h => by simp at h
  | (j, p) :: r, hf, i, o, h => by
    cases p with
    | row k t xs =>
      simp only [flatSt] at hf
      rcases List.mem_cons.1 h with h | h
      · injection h with h1 h2; subst h2; exact ⟨k, t, xs, rfl⟩
      · exact flatSt_mem hf h
    | rowD t sz es => simp [flatSt] at hf
    | cell t cs => simp [flatSt] at hf

theorem frzOk_of (h : ARelB C s β S a w) {j : Nat} {o : Ob} {d : D} (hj : (j, o) ∈ s.st) (hd : rowD? o = some d) (hS : ∀ b, S b ∨ (β j).bind blk = some b → S' b) : FrzOk w β S' j d := by
  obtain ⟨v, hv, hr⟩ := h.st.obj j _ hj
  cases o with
  | cell e cs => simp [rowD?] at hd
  | row k e xs =>
    simp only [rowD?, Option.some.injEq] at hd
    subst hd
    simp only [ORel] at hr
    obtain ⟨hr1, hr2, hr3⟩ := hr
    obtain ⟨A, c, rfl, hle, hA⟩ := ownsV_cells hr1
    have base : ∀ {b : Nat}, (β j).bind blk = some b → ∀ off len, off + len ≤ xs.length → 0 < len → Cells w b off (((xs.drop off).take len).map (Value.int k)) := fun {b} hb off len hl hp => by
      obtain ⟨b', e1, e2, hc⟩ := hA (by omega)
      rw [hv, Option.bind_some, e2] at hb
      injection hb with hb; subst hb
      have := hc.sub off len
      simpa [List.map_take, List.map_drop] using this
    refine ⟨fun u hu _ => ?_, fun k' xs' e off len A' c' hl hc hA' => ?_, (fun y e => by cases e), fun k' xs' e off b hlt hb => ?_⟩
    · rw [hv] at hu; injection hu with hu; subst hu
      simp only [VRel, Rep]
      refine ⟨_, ⟨A, c, rfl, hle, hr3, hr2, fun hne => ?_⟩, rfl⟩
      obtain ⟨b, e1, e2, hc⟩ := hA (List.length_pos_iff.2 hne)
      exact ⟨b, 0, e1, hS b (.inr (by rw [hv]; exact e2)), hc⟩
    · injection e with e1 e2; subst e1; subst e2
      have hln : ((xs.drop off).take len).length = len := by simp; omega
      simp only [VRel, Rep]
      refine ⟨[.slice A' len c'], ⟨A', c', by rw [hln], by omega, by omega, fun x hx => hr2 x (List.mem_of_mem_drop (List.mem_of_mem_take hx)), fun hne => ?_⟩, rfl⟩
      have hp : 0 < len := by have := List.length_pos_iff.2 hne; omega
      obtain ⟨b, hb, rfl⟩ := hA' hp
      exact ⟨b, off, rfl, hS b (.inr hb), base hb off len hl hp⟩
    · injection e with e1 e2; subst e1; subst e2
      simp only [VRel, Rep]
      refine ⟨_, ⟨b, off, rfl, hS b (.inr hb), [.int k (xs.getD off 0)], ?_, rfl, ?_⟩, rfl⟩
      · have := base hb off 1 (by omega) (by omega)
        rw [take_one_drop hlt] at this
        simpa [List.getD_eq_getElem?_getD, hlt] using this
      · rw [List.getD_eq_getElem?_getD, List.getElem?_eq_getElem hlt]; exact hr2 _ (List.getElem_mem hlt)
  | rowD e sz es =>
    simp only [rowD?, Option.some.injEq] at hd
    subst hd
    simp only [ORel] at hr
    obtain ⟨vs, hr1, hr2, hr3, hr4, hr5⟩ := hr
    obtain ⟨A, c, rfl, hle, hA⟩ := ownsV_cells hr1
    refine ⟨fun u hu _ => ?_, (fun _ _ e => by cases e), (fun _ e => by cases e), (fun _ _ e => by cases e)⟩
    rw [hv] at hu; injection hu with hu; subst hu
    simp only [VRel, Rep]
    refine ⟨_, ⟨A, c, rfl, hle, hr4, fun hne => ?_⟩, rfl⟩
    obtain ⟨b, e1, e2, hc⟩ := hA (List.length_pos_iff.2 hne)
    exact ⟨b, 0, e1, hS b (.inr (by rw [hv]; exact e2)), repRow_of hc (hr2.keep fun b hb => ⟨hS b (.inl hb), rfl⟩) hr3⟩

theorem peekL_rel (h : ARelB C s β S a w) (hS : ∀ b, S b → S' b) : ∀ {st : List (Nat × Ob)}, (∀ j o, (j, o) ∈ st → (j, o) ∈ s.st ∧ ∀ b, (β j).bind blk = some b → S' b) → ∀ {xs : List AVal} {vs : List Value}, VAll w β S' xs vs → VAll w β S' (peekL st xs) vs
  | [], _, xs, vs, hv => hv
  | (j, o) :: r, hst, xs, vs, hv => by
    simp only [peekL]
    have ih := fun {xs vs} => @peekL_rel h hS r (fun j o hj => hst j o (List.mem_cons_of_mem _ hj)) xs vs
    split
    · rename_i d hd
      obtain ⟨h1, h2⟩ := hst j o (by simp)
      exact ih (frzL_rel (fun _ hb => hb) (frzOk_of h h1 hd fun b hb => hb.elim (hS b) (h2 b)) _ _ hv)
    · exact ih hv

theorem frzOk_cell (h : ARelB C s β S a w) (hS : ∀ b, S b → S' b) {j : Nat} {e : TypeId} {cs : List AVal} {y : D} (hj : (j, .cell e cs) ∈ s.st) (hb : ∀ b, (β j).bind blk = some b → S' b) (hds : allDv cs = some (flatD y)) : FrzOk w β S' j (.ptr y) := by
  obtain ⟨v, hv, hr⟩ := h.st.obj j _ hj
  simp only [ORel] at hr
  obtain ⟨b, vs, rfl, hh, hr⟩ := hr
  have hrep := rep_of_flat _ _ (allDv_rel hds hr)
  refine ⟨fun u hu hne => (hne _ rfl).elim, (fun _ _ e => by cases e), fun y' e b' hb' => ?_, (fun _ _ e => by cases e)⟩
  injection e with e; subst e
  have hbb := hb'
  rw [hv] at hb'
  simp only [Option.bind_some, blk, Option.some.injEq] at hb'
  subst hb'
  simp only [VRel, Rep]
  refine ⟨_, ⟨b, 0, rfl, hb b hbb, vs.toList, fun i u hu => ?_, hrep.keep fun b hb => ⟨hS b hb, rfl⟩⟩, rfl⟩
  simp [World.cell?, hh]
  simpa using hu

theorem peekC_rel (h : ARelB C s β S a w) (hS : ∀ b, S b → S' b) {st : List (Nat × Ob)} (hst : ∀ j o, (j, o) ∈ st → (j, o) ∈ s.st ∧ ∀ b, (β j).bind blk = some b → S' b) :
    ∀ {pc : List (Nat × D)}, pcOk st pc → ∀ {xs : List AVal} {vs : List Value}, VAll w β S' xs vs → VAll w β S' (peekC pc xs) vs
  | [], _, xs, vs, hv => hv
  | (j, y) :: r, hp, xs, vs, hv => by
    simp only [pcOk] at hp
    simp only [peekC]
    obtain ⟨h1, h2⟩ := hp
    split at h1
    · rename_i e cs ho
      obtain ⟨h3, h4⟩ := hst j _ (getO_mem ho)
      exact peekC_rel h hS hst h2 (frzL_rel (fun _ hb => hb) (frzOk_cell h hS h3 h4 h1) _ _ hv)
    · exact h1.elim

/-- A CALL THAT LOOKS AT WHAT IS OWNED, and may write what it is handed ('l'): what comes back are numbers and rows of numbers. -/
theorem acallP {x : Bool} {f : FuncId} {args avs : List AVal} {st : List (Nat × Ob)} {K : List (Nat × Ob) → Nat → AVal → Prop} {K' : AState → AVal → Prop} (l : List Nat) (pc : List (Nat × D)) (hc : CSpec P f args st l.length K)
    (hok : wkB 0 s.nx l st = true) (hst : stIn l s.nx s.st st) (hpc : pcOk (dropIds l s.st) pc) (ha : renL (rho l s.nx) args = peekL (dropIds l s.st) (peekC pc avs)) (hx : x = true → st = [])
    (hK : ∀ st' nx' r, K st' nx' r → flatSt st' = true ∧ flatV r = true ∧ K' (s.called l st' nx') (renV (rho l s.nx) r)) : ACall P C x s f avs K' := by
  obtain ⟨hn, hb, _, hsn⟩ := wkB_spec hok
  refine ⟨fun β S a w vs h hv => ?_⟩
  let ρ := rho l s.nx
  let β0 : Nat → Option Value := fun i => β (ρ i)
  let S2 : Nat → Prop := fun b => S b ∨ ∃ j o, (j, o) ∈ dropIds l s.st ∧ (β j).bind blk = some b
  have hβ0 : ∀ i, l.length ≤ i → β0 i = none := fun i hi => by
    show β (rho l s.nx i) = none
    rw [rho_ge hi]
    exact h.nx _ (by omega)
  have hargs : VAll w β0 S2 args vs := (renL_iff args vs).2 (by
    rw [ha]
    refine peekL_rel h (fun b hb => .inl hb) (fun j o hj => ⟨(mem_dropIds.1 hj).1, fun b hb => .inr ⟨j, o, hj, hb⟩⟩) (peekC_rel h (fun b hb => .inl hb) (fun j o hj => ⟨(mem_dropIds.1 hj).1, fun b hb => .inr ⟨j, o, hj, hb⟩⟩) hpc ?_)
    exact VAll.keep (fun b hb => ⟨.inl hb, rfl⟩) (fun _ _ e => e) _ _ hv)
  have hown0 : ∀ b, Owned β0 st b → ∃ i o, (i, o) ∈ st ∧ i < l.length ∧ (ρ i, renOb ρ o) ∈ s.st ∧ (β (ρ i)).bind blk = some b := fun b ⟨i, o, hi, hb⟩ =>
    ⟨i, o, hi, (stIn_mem hst hi).1, (stIn_mem hst hi).2, hb⟩
  have hsub : ∀ b, Owned β0 st b → Owned β s.st b := fun b hb => let ⟨i, o, _, _, h3, h4⟩ := hown0 b hb; ⟨_, _, h3, h4⟩
  have hblt : ∀ {j o}, (j, o) ∈ s.st → ∀ b, (β j).bind blk = some b → b < w.heap.size := fun {j o} hj b hb => (h.st.own b ⟨j, o, hj, hb⟩).2
  have hapart : ∀ {j o}, (j, o) ∈ dropIds l s.st → ∀ b, (β j).bind blk = some b → ¬ Owned β0 st b := fun {j o} hj b hb ho => by
    obtain ⟨i, o', _, hil, h3, h4⟩ := hown0 b ho
    have hj' := mem_dropIds.1 hj
    refine h.st.apart j o _ _ hj'.1 h3 (fun e => hj'.2 ?_) b hb h4
    rw [e]
    show rho l s.nx i ∈ l
    rw [rho_lt hil]; exact List.getElem_mem hil
  have hs0 : SRel w β0 S2 st := by
    refine ⟨fun i o hi => ?_, hsn, fun i o j o' hi hj hne b hbb => ?_, fun b hb => ⟨fun hs => ?_, (h.st.own b (hsub b hb)).2⟩, fun b hb => ?_⟩
    · obtain ⟨v, h1, h2⟩ := h.st.obj _ _ (stIn_mem hst hi).2
      exact ⟨v, h1, ((renOb_iff o).2 h2).keep (fun b hb => ⟨.inl hb, rfl⟩) (fun _ _ e => e) fun _ _ => rfl⟩
    · exact h.st.apart _ _ _ _ (stIn_mem hst hi).2 (stIn_mem hst hj).2 (fun e => hne (rho_inj hn ‹∀ j ∈ l, j < s.nx› e)) b hbb
    · rcases hs with hs | ⟨j, o, hj, hbj⟩
      · exact (h.st.own b (hsub b hb)).1 hs
      · exact hapart hj b hbj hb
    · rcases hb with hb | ⟨j, o, hj, hbj⟩
      · exact h.st.inS b hb
      · exact hblt (mem_dropIds.1 hj).1 b hbj
  refine ⟨hc.1, Calls.mono (hc.2 w β0 S2 vs hs0 hβ0 hargs) fun e w' hh => ?_⟩
  obtain ⟨v, st', nx', r, β', S', rfl, hf, hs', hnx', hm, hpin, hr, hKr⟩ := hh
  obtain ⟨hfs, hfr, hKr⟩ := hK st' nx' r hKr
  let β1 : Nat → Option Value := fun j => if j < s.nx then β j else β' (l.length + (j - s.nx))
  have e1 : (fun i => β1 (ρ i)) = β' := by
    funext i
    show (if rho l s.nx i < s.nx then β (rho l s.nx i) else β' (l.length + (rho l s.nx i - s.nx))) = β' i
    rcases Nat.lt_or_ge i l.length with hi | hi
    · have h1 : rho l s.nx i < s.nx := by rw [rho_lt hi]; exact hb _ (List.getElem_mem hi)
      rw [if_pos h1]
      exact (hpin i hi).symm
    · rw [rho_ge hi, if_neg (by omega)]
      congr 1; omega
  have hext : ∀ b, b < w.heap.size → ¬ Owned β0 st b → w'.heap[b]? = w.heap[b]? := fun b h1 h2 => hf.old b h1 h2
  have hSkeep : ∀ b, S b → S b ∧ w'.heap[b]? = w.heap[b]? := fun b hb => ⟨hb, hext b (h.st.inS b hb) fun ho => (h.st.own b (hsub b ho)).1 hb⟩
  have hβkeep : ∀ j u, β j = some u → β1 j = some u := fun j u e => by
    show (if j < s.nx then β j else _) = some u
    rw [if_pos]
    · exact e
    · rcases Nat.lt_or_ge j s.nx with h' | h'
      · exact h'
      · rw [h.nx j h'] at e; cases e
  have hβ1 : ∀ {j o}, (j, o) ∈ s.st → β1 j = β j := fun {j o} hj => by
    obtain ⟨u, hu, _⟩ := h.st.obj j o hj
    rw [hβkeep j u hu, hu]
  have hren : ∀ {j p}, (j, p) ∈ renSt ρ st' → ∃ i o, (i, o) ∈ st' ∧ j = ρ i ∧ p = renOb ρ o ∧ β1 j = β' i := fun {j p} hj => by
    obtain ⟨i, o, h1, h2, h3⟩ := mem_renSt.1 hj
    exact ⟨i, o, h1, h2, h3, by rw [h2]; exact congrFun e1 i⟩
  have hown' : ∀ b, Owned β' st' b → Owned β0 st b ∨ w.heap.size ≤ b := fun b hb => hf.own b hb
  have hownN : ∀ b, Owned β1 (renSt ρ st' ++ dropIds l s.st) b → Owned β' st' b ∨ (∃ j o, (j, o) ∈ dropIds l s.st ∧ (β j).bind blk = some b) := fun b ⟨j, o, hj, hb⟩ => by
    rcases List.mem_append.1 hj with hj | hj
    · obtain ⟨i, o', h1, h2, h3, h4⟩ := hren hj
      exact .inl ⟨i, o', h1, by rw [← h4]; exact hb⟩
    · exact .inr ⟨j, o, hj, by rw [← hβ1 (mem_dropIds.1 hj).1]; exact hb⟩
  have hmarks : Marks C S a w' := h.defers.keep fun D hD hS => by
    have hlt : D < w.heap.size := (Array.getElem?_eq_some_iff.1 hD).1
    have hno : ¬ Owned β0 st D := fun ho => by
      obtain ⟨cs, t, hc⟩ := h.st.cells (hsub D ho)
      rw [hD] at hc; cases hc
    exact ⟨(hext D hlt hno).trans hD, hS⟩
  have hrel : ARelB C (s.called l st' nx') β1 S a w' := by
    refine ⟨fun t => VRel.keep hSkeep hβkeep _ _ (h.fr t), h.size, ⟨fun j p hj => ?_, ?_, fun i p k q hi hk hne b hbb hbk => ?_, fun b hbb => ?_, fun b hbb => Nat.lt_of_lt_of_le (h.st.inS b hbb) hf.size⟩, ?_, fun j hj => ?_, hmarks, fun j hj => ?_, ?_⟩
    · rcases List.mem_append.1 hj with hj | hj
      · obtain ⟨i, o, h1, rfl, rfl, h4⟩ := hren hj
        obtain ⟨u, hu, hr⟩ := hs'.obj i o h1
        refine ⟨u, by rw [h4]; exact hu, ?_⟩
        obtain ⟨k, t, xs, rfl⟩ := flatSt_mem hfs h1
        simpa only [ORel, renOb] using hr
      · have hj' := mem_dropIds.1 hj
        obtain ⟨u, hu, hr⟩ := h.st.obj j p hj'.1
        exact ⟨u, hβkeep j u hu, hr.keep hSkeep hβkeep fun b hbb => hext b (hblt hj'.1 b (by rw [hu]; exact hbb)) (hapart hj b (by rw [hu]; exact hbb))⟩
    · show ((renSt ρ st' ++ dropIds l s.st).map (·.1)).Nodup
      rw [List.map_append, List.nodup_append]
      refine ⟨?_, dropIds_nodup h.st.nodup, fun j hj k hk e => ?_⟩
      · rw [renSt_ids, show (st'.map fun p => ρ p.1) = (st'.map (·.1)).map ρ by simp]
        exact nodup_map_inj hs'.nodup fun x _ y _ e => rho_inj hn hb e
      · subst e
        rw [renSt_ids] at hj
        obtain ⟨⟨i, o⟩, _, e⟩ := List.mem_map.1 hj
        obtain ⟨⟨k, q⟩, hq, e2⟩ := List.mem_map.1 hk
        have hq' := mem_dropIds.1 hq
        simp only at e e2
        subst e2
        rcases Nat.lt_or_ge i l.length with hi | hi
        · exact hq'.2 (by rw [← e]; show rho l s.nx i ∈ l; rw [rho_lt hi]; exact List.getElem_mem hi)
        · have h1 := h.id_lt hq'.1
          have h2 : rho l s.nx i = k := e
          rw [rho_ge hi] at h2
          omega
    · rcases List.mem_append.1 hi with hi | hi <;> rcases List.mem_append.1 hk with hk | hk
      · obtain ⟨i1, o1, h1, rfl, rfl, h4⟩ := hren hi
        obtain ⟨i2, o2, h5, rfl, rfl, h8⟩ := hren hk
        rw [h4] at hbb; rw [h8] at hbk
        exact hs'.apart _ _ _ _ h1 h5 (fun e => hne (by rw [e])) b hbb hbk
      · obtain ⟨i1, o1, h1, rfl, rfl, h4⟩ := hren hi
        rw [h4] at hbb; rw [hβ1 (mem_dropIds.1 hk).1] at hbk
        rcases hown' b ⟨_, _, h1, hbb⟩ with h' | h'
        · exact hapart hk b hbk h'
        · have := hblt (mem_dropIds.1 hk).1 b hbk; omega
      · obtain ⟨i2, o2, h5, rfl, rfl, h8⟩ := hren hk
        rw [h8] at hbk; rw [hβ1 (mem_dropIds.1 hi).1] at hbb
        rcases hown' b ⟨_, _, h5, hbk⟩ with h' | h'
        · exact hapart hi b hbb h'
        · have := hblt (mem_dropIds.1 hi).1 b hbb; omega
      · rw [hβ1 (mem_dropIds.1 hi).1] at hbb; rw [hβ1 (mem_dropIds.1 hk).1] at hbk
        exact h.st.apart _ _ _ _ (mem_dropIds.1 hi).1 (mem_dropIds.1 hk).1 hne b hbb hbk
    · rcases hownN b hbb with h' | ⟨j, o, hj, hbj⟩
      · refine ⟨fun hs => ?_, (hs'.own b h').2⟩
        rcases hown' b h' with h2 | h2
        · exact (h.st.own b (hsub b h2)).1 hs
        · have := h.st.inS b hs; omega
      · have hlt := hblt (mem_dropIds.1 hj).1 b hbj
        exact ⟨fun hs => (h.st.own b ⟨j, o, (mem_dropIds.1 hj).1, hbj⟩).1 hs, Nat.lt_of_lt_of_le hlt hf.size⟩
    · have hf0 := h.frame
      refine ⟨Nat.le_trans hf0.size hf.size, hf.os.trans hf0.os, hf.tape.trans hf0.tape, hf.output.trans hf0.output, fun b hb hE => ?_, hf0.inS, fun b hb => ?_⟩
      · rw [hext b (Nat.lt_of_lt_of_le hb hf0.size) fun ho => ?_]
        · exact hf0.old b hb hE
        · rcases hf0.own b (hsub b ho) with h' | h'
          · exact hE h'
          · omega
      · rcases hownN b hb with h' | ⟨j, o, hj, hbj⟩
        · rcases hown' b h' with h2 | h2
          · exact hf0.own b (hsub b h2)
          · exact .inr (Nat.le_trans hf0.size h2)
        · exact hf0.own b ⟨j, o, (mem_dropIds.1 hj).1, hbj⟩
    · show (if j < s.nx then β j else β' (l.length + (j - s.nx))) = none
      have hj' : s.nx + (nx' - l.length) ≤ j := hj
      rw [if_neg (by omega)]
      exact hnx' _ (by omega)
    · show (if j < s.nx then β j else β' (l.length + (j - s.nx))) = C.B0 j
      have := h.nxm
      rw [if_pos (by omega)]
      exact h.pin j hj
    · exact Nat.le_trans h.nxm (Nat.le_add_right _ _)
  refine ⟨v, _, _, β1, S, rfl, fun hxt => ?_, hrel, ?_, hKr⟩
  · have he := hx hxt
    subst he
    exact fun b hb => hext b hb fun ⟨i, o, hi, _⟩ => by simp at hi
  · rw [← e1] at hr
    exact (renV_iff r v).1 (flatV_rel r v hfr hr)

theorem acallPI {x : Bool} {f : FuncId} {args avs : List AVal} {φ : AVal → Prop} {K' : AState → AVal → Prop} (pc : List (Nat × D)) (hc : Imm P f args φ) (hpc : pcOk (dropIds [] s.st) pc) (ha : renL (rho [] s.nx) args = peekL (dropIds [] s.st) (peekC pc avs))
    (hK : ∀ r, φ r → flatV r = true ∧ K' s (renV (rho [] s.nx) r)) : ACall P C x s f avs K' := by
  refine acallP [] pc hc rfl (by simp [stIn]) hpc ha (fun _ => rfl) fun st' nx' r ⟨e1, e2, h⟩ => ?_
  subst e1; subst e2
  rw [called_nil]
  exact ⟨rfl, hK r h⟩

end
end Go.Proofs.Ytniaeiikdgbnfaa.AW
