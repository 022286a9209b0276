/- The abstract walker, part 21: less is known; loops; a look at what is owned. -/
import Derived.Test.YtniaeiikdgbnfaaAW20
namespace Go.Proofs.Ytniaeiikdgbnfaa.AW
open Go Go.RowKit

/-- A frame of which these slots alone are known. -/
def frL : List (Nat × AVal) → Nat → AVal
  | [], _ => .any
  | (k, v) :: r, t => if t = k then v else frL r t

def slOk (s : AState) (ρ : Nat → Nat) : List (Nat × AVal) → Prop
  | [] => True
  | (k, v) :: r => s.fr k = renV ρ v ∧ slOk s ρ r

/-- 't' says less than 's' does; 'l': its objects' numbers there. -/
structure Wk (m : Nat) (s : AState) (n : Nat) (sl : List (Nat × AVal)) (st : List (Nat × Ob)) (l : List Nat) : Prop where
  n : s.n = n
  ok : wkB m s.nx l st = true
  fr : slOk s (rho l s.nx) sl
  st : stIn l s.nx s.st st

section
variable {P : Program} {C : Ctx} {s : AState} {T : Told} {β : Nat → Option Value} {S : Nat → Prop} {a : Act} {w : World}

theorem frL_rel (h : ARelB C s β S a w) {ρ : Nat → Nat} : ∀ {sl : List (Nat × AVal)}, slOk s ρ sl → ∀ t, VRel w (fun i => β (ρ i)) S (frL sl t) (a.tmps.getD t undef)
  | [], _, t => by simp only [frL, VRel]
  | (k, v) :: r, hs, t => by
    simp only [slOk] at hs
    simp only [frL]
    split
    · rename_i e; subst e
      rw [renV_iff, ← hs.1]
      exact h.fr _
    · exact frL_rel h hs.2 t

/-- Objects get new numbers, and some are forgotten. -/
theorem ARelB.ren (h : ARelB C s β S a w) {st : List (Nat × Ob)} {l : List Nat} (hok : wkB C.m s.nx l st = true) (hst : stIn l s.nx s.st st) {fr : Nat → AVal}
    (hfr : ∀ t, VRel w (fun i => β (rho l s.nx i)) S (fr t) (a.tmps.getD t undef)) : ARelB C ⟨s.n, fr, st, l.length⟩ (fun i => β (rho l s.nx i)) S a w := by
  obtain ⟨hwnd, hwlt, hwpin, hwids⟩ := wkB_spec hok
  have hb0 : ∀ {i o}, (i, o) ∈ st → i < l.length ∧ (rho l s.nx i, renOb (rho l s.nx) o) ∈ s.st := fun hi => stIn_mem hst hi
  have hown : ∀ b, Owned (fun i => β (rho l s.nx i)) st b → Owned β s.st b := fun b ⟨i, o, hi, hb⟩ => ⟨_, _, (hb0 hi).2, hb⟩
  refine ⟨hfr, h.size, ⟨fun i o hi => ?_, hwids, fun i o j o' hi hj hne => ?_, fun b hb => h.st.own b (hown b hb), h.st.inS⟩, ?_, fun j hj => ?_, h.defers, fun j hj => ?_, ?_⟩
  · obtain ⟨v, h1, h2⟩ := h.st.obj _ _ (hb0 hi).2
    exact ⟨v, h1, (renOb_iff o).2 h2⟩
  · exact h.st.apart _ _ _ _ (hb0 hi).2 (hb0 hj).2 fun e => hne (rho_inj hwnd hwlt e)
  · have hf := h.frame
    exact ⟨hf.size, hf.os, hf.tape, hf.output, hf.old, hf.inS, fun b hb => hf.own b (hown b hb)⟩
  · simp only at hj ⊢
    rw [rho_ge hj]
    exact h.nx _ (by omega)
  · have e : rho l s.nx j = j := by unfold rho; rw [hwpin j hj]
    show β (rho l s.nx j) = C.B0 j
    rw [e]
    exact h.pin j hj
  · simp only
    rcases Nat.eq_zero_or_pos C.m with h0 | h0
    · omega
    · have := hwpin (C.m - 1) (by omega)
      have := (List.getElem?_eq_some_iff.1 this).1
      omega

theorem Wk.relB {n : Nat} {sl : List (Nat × AVal)} {st : List (Nat × Ob)} {l : List Nat} (h : ARelB C s β S a w) (hw : Wk C.m s n sl st l) : ARelB C ⟨n, frL sl, st, l.length⟩ (fun i => β (rho l s.nx i)) S a w := by
  have := h.ren hw.ok hw.st (frL_rel h hw.fr)
  rwa [hw.n] at this
theorem Wk.rel {n : Nat} {sl : List (Nat × AVal)} {st : List (Nat × Ob)} {l : List Nat} (h : ARel C s a w) (hw : Wk C.m s n sl st l) : ARel C ⟨n, frL sl, st, l.length⟩ a w := by
  obtain ⟨β, S, h⟩ := h
  exact ⟨_, S, hw.relB h⟩

theorem Wk.nil {n : Nat} {sl : List (Nat × AVal)} (hn : s.n = n) (h : slOk s (rho [] s.nx) sl) : Wk 0 s n sl [] [] :=
  ⟨hn, rfl, h, by simp [stIn]⟩

/-- What a round hands on. -/
structure Again {ι : Type} (m n nx : Nat) (sl : ι → List (Nat × AVal)) (st : ι → List (Nat × Ob)) (k : Nat) (μ : ι → Nat) (φ : ι → Prop) (s' : AState) : Prop where
  out : ∃ i' l, μ i' < k ∧ φ i' ∧ l.length = nx ∧ Wk m s' n (sl i') (st i') l

theorem wpIn_loop_ghost' {F : Fence} {rm : Nat} {Q : Exit → Act → World → Prop} {a : Act} {w : World} {c : Code} (I : Nat → Act → World → Prop) (n₀ : Nat) (h₀ : I n₀ a w)
    (round : ∀ n a w, I n a w → c.wpIn F rm P (Exit.then (fun a' w' => ∃ n', n' < n ∧ I n' a' w') Q) a w) : (Code.loop c).wpIn F rm P Q a w := by
  refine wpIn_loop (fun a w => ∃ n, I n a w) (fun a w => leastOf (fun n => I n a w)) ⟨n₀, h₀⟩ ?_
  intro a w hI
  refine wpIn_mono (round _ a w (leastOf_spec hI).1) ?_
  intro e a' w' hq
  cases e with
  | normal =>
    obtain ⟨n', hlt, hI'⟩ := hq
    exact ⟨⟨n', hI'⟩, Nat.lt_of_le_of_lt ((leastOf_spec ⟨n', hI'⟩).2 n' hI') hlt⟩
  | _ => exact hq

/-- A LOOP: 'i' runs through what may vary. -/
theorem aloop {ι : Type} {body : Code} {Q : Exit → AState → Prop} (sl : ι → List (Nat × AVal)) (st : ι → List (Nat × Ob)) (n0 nx : Nat) (μ : ι → Nat) (φ : ι → Prop)
    (h0 : ∃ i l, l.length = nx ∧ φ i ∧ Wk C.m s n0 (sl i) (st i) l)
    (round : ∀ i, φ i → awp P C T body ⟨n0, frL (sl i), st i, nx⟩ (thenQ (Again C.m n0 nx sl st (μ i) μ φ) Q)) :
    AWp P C (.loop body) s Q := by
  refine ⟨fun a w h => ?_⟩
  obtain ⟨i, l, hl, hφ, hw⟩ := h0
  refine wpIn_loop_ghost' (fun n a w => ∃ i, n = μ i ∧ φ i ∧ ARel C ⟨n0, frL (sl i), st i, nx⟩ a w) (μ i) ⟨i, rfl, hφ, by rw [← hl]; exact hw.rel h⟩ fun n a w ⟨i, hn, hφ, hr⟩ => ?_
  refine wpIn_mono (awp_sound body hr (round i hφ)) fun e a' w' hq => ?_
  obtain ⟨s', h1, h2⟩ := hq
  cases e <;> simp only [thenQ] at h2
  case normal =>
    obtain ⟨i', l, h3, h4, h5, h6⟩ := h2.out
    exact ⟨μ i', by omega, i', rfl, h4, by rw [← h5]; exact h6.rel h1⟩
  all_goals exact ⟨s', h1, h2⟩

/-! ### What is known of deep values -/
mutual
def D.known : D → Prop
  | .int k n => k.wrap n = n
  | .str xs => xs.length ≤ LIM ∧ ∀ x ∈ xs, 0 ≤ x ∧ x < 256
  | .ints k xs => xs.length ≤ LIM ∧ ∀ x ∈ xs, k.wrap x = x
  | .sl _ es => es.length ≤ LIM ∧ knownAll es
  | .ptr d => d.known
  | .agg ds => knownAll ds
  | _ => True
def knownAll : List D → Prop
  | [] => True
  | d :: ds => d.known ∧ knownAll ds
end

mutual
theorem Rep.known : ∀ (d : D) (cs : List Value), Rep w S d cs → d.known
  | .int k n, cs, h => by simp only [Rep] at h; simp only [D.known]; exact h.2
  | .bool b, cs, h => by simp only [D.known]
  | .str xs, cs, h => by
    simp only [Rep] at h
    simp only [D.known]
    obtain ⟨s, _, rfl, hs⟩ := h
    refine ⟨by simpa [bytesOf] using hs, fun x hx => ?_⟩
    simp only [bytesOf, List.mem_map] at hx
    obtain ⟨b, _, rfl⟩ := hx
    have := b.toNat_lt
    omega
  | .raw v, cs, h => by simp only [D.known]
  | .ints k xs, cs, h => by
    simp only [Rep] at h
    simp only [D.known]
    obtain ⟨A, c, _, _, h3, h4, _⟩ := h
    exact ⟨h3, h4⟩
  | .sl sz es, cs, h => by
    simp only [Rep] at h
    simp only [D.known]
    obtain ⟨A, c, _, _, h3, h4⟩ := h
    refine ⟨h3, ?_⟩
    cases es with
    | nil => simp only [knownAll]
    | cons e es =>
      obtain ⟨b, o, _, _, h5⟩ := h4 (by simp)
      exact RepRow.known (e :: es) b o h5
  | .ptr d, cs, h => by
    simp only [Rep] at h
    simp only [D.known]
    obtain ⟨b, o, _, _, vs, _, h4⟩ := h
    exact Rep.known d vs h4
  | .nilp, cs, h => by simp only [D.known]
  | .agg ds, cs, h => by
    simp only [Rep] at h
    simp only [D.known]
    exact RepAll.known ds cs h
  | .fn f caps, cs, h => by simp only [D.known]
theorem RepAll.known : ∀ (ds : List D) (cs : List Value), RepAll w S ds cs → knownAll ds
  | [], cs, h => by simp only [knownAll]
  | d :: ds, cs, h => by
    simp only [RepAll] at h
    simp only [knownAll]
    obtain ⟨c1, c2, _, h1, h2⟩ := h
    exact ⟨Rep.known d c1 h1, RepAll.known ds c2 h2⟩
theorem RepRow.known {sz : Nat} : ∀ (ds : List D) (b o : Nat), RepRow w S sz ds b o → knownAll ds
  | [], b, o, h => by simp only [knownAll]
  | d :: ds, b, o, h => by
    simp only [RepRow] at h
    simp only [knownAll]
    obtain ⟨⟨vs, _, _, h1⟩, h2⟩ := h
    exact ⟨Rep.known d vs h1, RepRow.known ds b _ h2⟩
end

def knownV : AVal → Prop
  | .d x => x.known
  | .ag _ cs => knownVs cs
  | .tup cs => knownVs cs
  | _ => True
where knownVs : List AVal → Prop
  | [] => True
  | x :: r => (match x with | .d y => y.known | _ => True) ∧ knownVs r

def knownSt : List (Nat × Ob) → Prop
  | [] => True
  | (_, .row k _ xs) :: r => (xs.length ≤ LIM ∧ ∀ x ∈ xs, k.wrap x = x) ∧ knownSt r
  | (_, .rowD _ _ es) :: r => (es.length ≤ LIM ∧ knownAll es) ∧ knownSt r
  | (_, .cell _ cs) :: r => knownV.knownVs cs ∧ knownSt r

theorem VAll.known : ∀ {xs : List AVal} {vs : List Value}, VAll w β S xs vs → knownV.knownVs xs
  | [], vs, h => by simp only [knownV.knownVs]
  | x :: xs, vs, h => by
    simp only [VAll] at h
    obtain ⟨v, r, _, h1, h2⟩ := h
    simp only [knownV.knownVs]
    refine ⟨?_, VAll.known h2⟩
    cases x <;> try trivial
    simp only [VRel] at h1
    obtain ⟨cs, h3, _⟩ := h1
    exact Rep.known _ cs h3

theorem SRel.known : ∀ {st : List (Nat × Ob)}, (∀ j o, (j, o) ∈ st → ∃ v, β j = some v ∧ ORel w β S v o) → knownSt st
  | [], h => by simp only [knownSt]
  | (j, o) :: r, h => by
    have ih := SRel.known (st := r) fun j o hj => h j o (List.mem_cons_of_mem _ hj)
    obtain ⟨v, _, hr⟩ := h j o (by simp)
    cases o with
    | row k t xs => simp only [ORel] at hr; simp only [knownSt]; exact ⟨⟨hr.2.2, hr.2.1⟩, ih⟩
    | rowD t sz es =>
      simp only [ORel] at hr; simp only [knownSt]
      obtain ⟨vs, _, h2, _, h4, _⟩ := hr
      exact ⟨⟨h4, RepAll.known es vs h2⟩, ih⟩
    | cell t cs =>
      simp only [ORel] at hr; simp only [knownSt]
      obtain ⟨b, vs, _, _, h3⟩ := hr
      exact ⟨VAll.known h3, ih⟩

/-- What the arguments are by their types may be taken as known. -/
theorem CSpec.learn {f : FuncId} {args : List AVal} {st : List (Nat × Ob)} {m : Nat} {K : List (Nat × Ob) → Nat → AVal → Prop} (he : Enters P f) (h : knownV.knownVs args → knownSt st → CSpec P f args st m K) : CSpec P f args st m K :=
  ⟨he, fun w β S vs hs hβ ha => (h (VAll.known ha) (SRel.known hs.obj)).2 w β S vs hs hβ ha⟩

theorem Imm.learn {f : FuncId} {args : List AVal} {φ : AVal → Prop} (he : Enters P f) (h : knownV.knownVs args → Imm P f args φ) : Imm P f args φ := CSpec.learn he fun hk _ => h hk

/-- Whatever the walk stands at: what is known of the slots and the objects. -/
theorem AWp.learn {c : Code} {Q : Exit → AState → Prop} (h : knownSt s.st → (∀ t, knownV (s.fr t)) → AWp P C c s Q) : AWp P C c s Q := by
  refine ⟨fun a w hr => ?_⟩
  obtain ⟨β, S, hb⟩ := hr
  refine (h (SRel.known hb.st.obj) (fun t => ?_)).run a w ⟨β, S, hb⟩
  have := hb.fr t
  revert this
  cases s.fr t <;> intro this <;> simp only [knownV]
  · simp only [VRel] at this
    obtain ⟨cs, h1, _⟩ := this
    exact Rep.known _ cs h1
  · simp only [VRel] at this
    obtain ⟨vs, _, h1⟩ := this
    exact VAll.known h1
  · simp only [VRel] at this
    obtain ⟨vs, _, h1⟩ := this
    exact VAll.known h1

theorem AWp.of_awp {c : Code} {Q : Exit → AState → Prop} (T : Told) (h : awp P C T c s Q) : AWp P C c s Q := ⟨fun _ _ hr => awp_sound c hr h⟩

end
end Go.Proofs.Ytniaeiikdgbnfaa.AW
