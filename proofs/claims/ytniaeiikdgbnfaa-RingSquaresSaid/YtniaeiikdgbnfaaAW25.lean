/- The abstract walker, part 25: loops over functions. -/
import Derived.Test.YtniaeiikdgbnfaaAW24
namespace Go.Proofs.Ytniaeiikdgbnfaa.AW
open Go Go.RowKit

mutual
/-- Does a value name objects below p alone? -/
def belowV (p : Nat) : AVal → Bool
  | .own i => decide (i < p)
  | .view i _ _ => decide (i < p)
  | .optr i _ => decide (i < p)
  | .ag _ cs => belowL p cs
  | .tup cs => belowL p cs
  | .ofn _ cs => belowL p cs
  | .any => true
  | .un => true
  | .d _ => true
  | .em _ => true
  | .nls _ => true
def belowL (p : Nat) : List AVal → Bool
  | [] => true
  | x :: xs => belowV p x && belowL p xs
end

def belowS (p : Nat) : List (Nat × AVal) → Bool
  | [] => true
  | x :: xs => belowV p x.2 && belowS p xs

def cut (p : Nat) (β : Nat → Option Value) : Nat → Option Value := fun j => if j < p then β j else none

section
variable {P : Program} {C : Ctx} {s : AState} {T : Told} {β : Nat → Option Value} {S : Nat → Prop} {a : Act} {w : World}

theorem cut_bind {p i b : Nat} (hi : i < p) (h : (β i).bind blk = some b) : (cut p β i).bind blk = some b := by
  unfold cut; rw [if_pos hi]; exact h

mutual
theorem belowV_rel {p : Nat} : ∀ (x : AVal) (v : Value), belowV p x = true → VRel w β S x v → VRel w (cut p β) S x v
  | .any, v, _, h => by simp only [VRel]
  | .un, v, _, h => by simpa only [VRel] using h
  | .d x, v, _, h => by simpa only [VRel] using h
  | .em x, v, _, h => by simpa only [VRel] using h
  | .nls x, v, _, h => by simpa only [VRel] using h
  | .own i, v, hb, h => by
    simp only [belowV, decide_eq_true_eq] at hb
    simp only [VRel] at h ⊢
    unfold cut; rw [if_pos hb]; exact h
  | .view i off len, v, hb, h => by
    simp only [belowV, decide_eq_true_eq] at hb
    simp only [VRel] at h ⊢
    obtain ⟨A, c, e, hl, hA⟩ := h
    exact ⟨A, c, e, hl, fun hp => let ⟨b, hb', e'⟩ := hA hp; ⟨b, cut_bind hb hb', e'⟩⟩
  | .optr i off, v, hb, h => by
    simp only [belowV, decide_eq_true_eq] at hb
    simp only [VRel] at h ⊢
    obtain ⟨b, hb', e⟩ := h
    exact ⟨b, cut_bind hb hb', e⟩
  | .ag _ cs, v, hb, h => by
    simp only [belowV] at hb
    simp only [VRel] at h ⊢
    obtain ⟨vs, h1, h2⟩ := h
    exact ⟨vs, h1, belowL_rel cs _ hb h2⟩
  | .tup cs, v, hb, h => by
    simp only [belowV] at hb
    simp only [VRel] at h ⊢
    obtain ⟨vs, h1, h2⟩ := h
    exact ⟨vs, h1, belowL_rel cs _ hb h2⟩
  | .ofn f cs, v, hb, h => by
    simp only [belowV] at hb
    simp only [VRel] at h ⊢
    obtain ⟨vs, h1, h2⟩ := h
    exact ⟨vs, h1, belowL_rel cs _ hb h2⟩
theorem belowL_rel {p : Nat} : ∀ (xs : List AVal) (vs : List Value), belowL p xs = true → VAll w β S xs vs → VAll w (cut p β) S xs vs
  | [], vs, _, h => by simpa only [VAll] using h
  | x :: xs, vs, hb, h => by
    simp only [belowL, Bool.and_eq_true] at hb
    simp only [VAll] at h ⊢
    obtain ⟨v, r, e, h1, h2⟩ := h
    exact ⟨v, r, e, belowV_rel x v hb.1 h1, belowL_rel xs r hb.2 h2⟩
end

theorem belowS_fr {p : Nat} : ∀ {sl : List (Nat × AVal)}, belowS p sl = true → ∀ t, belowV p (frL sl t) = true
  | [], _, t => by simp only [frL, belowV]
  | (k, v) :: r, h, t => by
    simp only [belowS, Bool.and_eq_true] at h
    simp only [frL]
    split
    · exact h.1
    · exact belowS_fr h.2 t

/-- The world grows, or a block turns that nobody speaks of. -/
theorem ARelB.grown (h : ARelB C s β S a w) {w' : World} {row : Option Nat} (hg : w.grownBy w' row) (hr : ∀ g, row = some g → ¬ S g ∧ ¬ Owned β s.st g ∧ C.w0.heap.size ≤ g ∧ a.defers = []) : ARelB C s β S a w' := by
  have hS : ∀ b, S b → S b ∧ w'.heap[b]? = w.heap[b]? := fun b hb => ⟨hb, hg.block b (h.st.inS b hb) fun e => (hr b e.symm).1 hb⟩
  have hlt : ∀ b, b < w.heap.size → b < w'.heap.size := fun b hb => Nat.lt_of_lt_of_le hb hg.size
  refine ⟨fun t => VRel.keep hS (fun _ _ e => e) _ _ (h.fr t), h.size, ⟨fun j o hj => ?_, h.st.nodup, h.st.apart, fun b hb => ⟨(h.st.own b hb).1, hlt b (h.st.own b hb).2⟩, fun b hb => hlt b (h.st.inS b hb)⟩,
    ⟨Nat.le_trans h.frame.size hg.size, hg.os.trans h.frame.os, hg.tape.trans h.frame.tape, hg.output.trans h.frame.output, fun b hb hE => ?_, h.frame.inS, h.frame.own⟩, h.nx, ?_, h.pin, h.nxm⟩
  · obtain ⟨v, hv, hr'⟩ := h.st.obj j o hj
    refine ⟨v, hv, hr'.keep hS (fun _ _ e => e) fun b hb => ?_⟩
    have ho : Owned β s.st b := ⟨j, o, hj, by rw [hv]; exact hb⟩
    exact hg.block b (h.st.own b ho).2 fun e => (hr b e.symm).2.1 ho
  · rw [hg.block b (Nat.lt_of_lt_of_le hb h.frame.size) fun e => ?_]
    · exact h.frame.old b hb hE
    · have := (hr b e.symm).2.2.1
      omega
  · cases row with
    | none => exact h.defers.keep fun D hD hS => ⟨(hg.block D (Array.getElem?_eq_some_iff.1 hD).1 (by simp)).trans hD, hS⟩
    | some g =>
      have hd := (hr g rfl).2.2.2
      exact ⟨fun d hd' => by rw [hd] at hd'; simp at hd', by rw [hd]; simp, fun _ => hd⟩

/-- Behind a stretch of which the relation is held to where it began. -/
theorem ARelB.seg (h : ARelB C s β S a w) {m : Nat} {rd : Option Nat} {s' : AState} {a' : Act} {w' : World} {β' : Nat → Option Value} {S' : Nat → Prop} (hm : C.m ≤ m) (hbel : ∀ t, belowV m (s.fr t) = true)
    (h' : ARelB ⟨w, S, Owned β s.st, m, β, rd⟩ s' β' S' a' w') : ARelB C ⟨s.n, s.fr, s'.st, s'.nx⟩ β' (fun b => S b ∨ S' b) a w' := by
  have hf := h'.frame
  have hf0 := h.frame
  have hext : ∀ b, b < w.heap.size → ¬ Owned β s.st b → w'.heap[b]? = w.heap[b]? := fun b h1 h2 => hf.old b h1 h2
  have hSk : ∀ b, S b → (S b ∨ S' b) ∧ w'.heap[b]? = w.heap[b]? := fun b hb => ⟨.inl hb, hext b (h.st.inS b hb) fun ho => (h.st.own b ho).1 hb⟩
  have hown' : ∀ b, Owned β' s'.st b → Owned β s.st b ∨ w.heap.size ≤ b := fun b hb => hf.own b hb
  have hpin : ∀ j u, cut m β j = some u → β' j = some u := fun j u e => by
    unfold cut at e
    split at e
    · rename_i hj; rw [h'.pin j hj]; exact e
    · cases e
  refine ⟨fun t => VRel.keep hSk hpin _ _ (belowV_rel _ _ (hbel t) (h.fr t)), h.size, ⟨fun j o hj => ?_, h'.st.nodup, h'.st.apart, fun b hb => ⟨fun hs => ?_, (h'.st.own b hb).2⟩, fun b hb => ?_⟩, ?_, h'.nx, ?_, fun j hj => ?_, Nat.le_trans hm h'.nxm⟩
  · obtain ⟨v, hv, hr⟩ := h'.st.obj j o hj
    exact ⟨v, hv, hr.keep (fun b hb => ⟨.inr hb, rfl⟩) (fun _ _ e => e) fun _ _ => rfl⟩
  · rcases hs with hs | hs
    · rcases hown' b hb with h2 | h2
      · exact (h.st.own b h2).1 hs
      · have := h.st.inS b hs; omega
    · exact (h'.st.own b hb).1 hs
  · rcases hb with hb | hb
    · exact Nat.lt_of_lt_of_le (h.st.inS b hb) hf.size
    · exact h'.st.inS b hb
  · refine ⟨Nat.le_trans hf0.size hf.size, hf.os.trans hf0.os, hf.tape.trans hf0.tape, hf.output.trans hf0.output, fun b hb hE => ?_, fun b hb => ?_, fun b hb => ?_⟩
    · rw [hext b (Nat.lt_of_lt_of_le hb hf0.size) fun ho => ?_]
      · exact hf0.old b hb hE
      · rcases hf0.own b ho with h' | h'
        · exact hE h'
        · omega
    · rcases hb with hb | hb
      · exact hf0.inS b hb
      · rcases hf.inS b hb with h2 | h2 | h2
        · exact hf0.inS b h2
        · exact .inr (hf0.own b h2)
        · exact .inr (.inr (Nat.le_trans hf0.size h2))
    · rcases hown' b hb with h2 | h2
      · exact hf0.own b h2
      · exact .inr (Nat.le_trans hf0.size h2)
  · exact h.defers.keep fun D hD hS => by
      have hlt : D < w.heap.size := (Array.getElem?_eq_some_iff.1 hD).1
      have hno : ¬ Owned β s.st D := fun ho => by
        obtain ⟨cs, t, hc⟩ := h.st.cells ho
        rw [hD] at hc; cases hc
      refine ⟨(hext D hlt hno).trans hD, fun hs => hs.elim hS fun hs => ?_⟩
      rcases hf.inS D hs with h2 | h2 | h2
      · exact hS h2
      · exact hno h2
      · simp only at h2; omega
  · rw [h'.pin j (Nat.lt_of_lt_of_le hj hm)]
    exact h.pin j hj

/-- The relation begun anew. -/
theorem ARelB.anew (h : ARelB C s β S a w) {m : Nat} (rd : Option Nat) (hm : m ≤ s.nx) (hd : a.defers = []) : ARelB ⟨w, S, Owned β s.st, m, β, rd⟩ s β S a w :=
  ⟨h.fr, h.size, h.st, ⟨Nat.le_refl _, rfl, rfl, rfl, fun _ _ _ => rfl, fun b hb => .inl hb, fun b hb => .inl hb⟩, h.nx, ⟨fun d hd' => by rw [hd] at hd'; simp at hd', by rw [hd]; simp, fun _ => hd⟩, fun _ _ => rfl, hm⟩

/-! ### Iterators -/
/-- WHAT AN ITERATOR DOES: it calls yield n times, number k with 'enc k', unless yield says no; beside that it makes new memory at most. -/
def Iter (P : Program) (g : FuncId) (lb : Array Value) (n : Nat) (enc : Nat → Array Value) (Good : World → Prop) : Prop :=
  ∀ (l : Nat) (J : Nat → World → Prop) (Jx : World → Prop) (W : World),
    (∀ k W W', J k W → W.grownBy W' none → J k W') → (∀ W W', Jx W → W.grownBy W' none → Jx W') → (∀ k W, J k W → Good W) →
    (∀ k W, k < n → J k W → YieldAt (fence none) 0 P l (enc k) W fun e W' => (e = .returned (.bool true) ∧ J (k + 1) W') ∨ (e = .returned (.bool false) ∧ Jx W')) →
    J 0 W → Calls P g (#[.func (.yield l) #[] #[]] ++ lb) W fun e W' => (∃ v, e = .returned v) ∧ (J n W' ∨ Jx W')

structure AIter (P : Program) (g : FuncId) (caps : List D) (n : Nat) (es : Nat → List D) : Prop where
  enters : Enters P g
  run : ∀ w S (lb : Array Value), RepAll w S caps lb.toList → ∃ enc : Nat → Array Value, (∀ k, k < n → VAll w (fun _ => none) S ((es k).map .d) (enc k).toList) ∧ Iter P g lb n enc (fun W => ∀ b, S b → W.heap[b]? = w.heap[b]?)

/-- What a round hands on. -/
structure OutR {ι : Type} (p nx : Nat) (st : ι → List (Nat × Ob)) (φ : ι → Prop) (s : AState) : Prop where
  out : ∃ i l, l.length = nx ∧ φ i ∧ wkB p s.nx l (st i) = true ∧ stIn l s.nx s.st (st i)

def roundQ {ι : Type} (p nx : Nat) (st : ι → List (Nat × Ob)) (φ : ι → Prop) (χ : Exit → ι → Prop) : Exit → AState → Prop
  | .normal, s => OutR p nx st φ s
  | .ret, s => OutR p nx st (χ .ret) s
  | .exit id, s => OutR p nx st (χ (.exit id)) s
  | _, _ => False

/-- The loop's own state between two rounds. -/
structure InLoop (CL : Ctx) (n0 nx : Nat) (sl : List (Nat × AVal)) (stt : List (Nat × Ob)) (tm : Array Value) (D l : Nat) (S : Nat → Prop) (rc : Loop) (W : World) : Prop where
  out : ∃ β' S', W.heap[l]? = some (.loop rc) ∧ W.heap[D]? = some (.deferred (some [])) ∧ ¬ S' D ∧ ¬ S' l ∧ (∀ b, S b → S' b) ∧ ARelB CL ⟨n0, frL sl, stt, nx⟩ β' S' { tmps := tm, defers := [] } W

theorem InLoop.grown {CL : Ctx} {n0 nx : Nat} {sl : List (Nat × AVal)} {stt : List (Nat × Ob)} {tm : Array Value} {D l : Nat} {rc : Loop} {W W' : World} (h : InLoop CL n0 nx sl stt tm D l S rc W) (hg : W.grownBy W' none) :
    InLoop CL n0 nx sl stt tm D l S rc W' := by
  obtain ⟨β', S', h1, h2, h3, h4, h5, h6⟩ := h.out
  exact ⟨β', S', (hg.block l (Array.getElem?_eq_some_iff.1 h1).1 (by simp)).trans h1, (hg.block D (Array.getElem?_eq_some_iff.1 h2).1 (by simp)).trans h2, h3, h4, h5, h6.grown hg (by simp)⟩

theorem frL_params : ∀ {ps : List Tmp} {xs : List AVal} {vs : List Value} {tm : Array Value} {fr : List (Nat × AVal)}, ps.Nodup → (∀ t ∈ ps, t < tm.size) → xs.length = ps.length → VAll w β S xs vs →
    (∀ t, VRel w β S (frL fr t) (tm.getD t undef)) → ∀ t, VRel w β S (frL (ps.zip xs ++ fr) t) (((ps.zip vs).foldl (fun t (x : Tmp × Value) => t.setIfInBounds x.1 x.2) tm).getD t undef)
  | [], xs, vs, tm, fr, _, _, hl, _, hf, t => by simpa using hf t
  | p :: ps, x :: xs, vs, tm, fr, hn, hlt, hl, hv, hf, t => by
    simp only [VAll] at hv
    obtain ⟨v, r, rfl, h1, h2⟩ := hv
    simp only [List.nodup_cons] at hn
    simp only [List.zip_cons_cons, List.foldl_cons, List.cons_append, frL]
    have step := @frL_params ps xs r (tm.setIfInBounds p v) ((p, x) :: fr) hn.2 (fun t ht => by simpa using hlt t (by simp [ht])) (by simpa using hl) h2 (fun t => by
      simp only [frL]
      split
      · rename_i e; subst e
        rw [Array.getD_eq_getD_getElem?, Array.getElem?_setIfInBounds]
        simp [hlt t (by simp), h1]
      · rename_i e
        rw [Array.getD_eq_getD_getElem?, Array.getElem?_setIfInBounds_ne (fun h => e h.symm), ← Array.getD_eq_getD_getElem?]
        exact hf t) t
    split
    · rename_i e; subst e
      have : ∀ (ps : List Tmp) (xs : List AVal) (fr : List (Nat × AVal)), t ∉ ps → frL (ps.zip xs ++ fr) t = frL fr t := fun ps => by
        induction ps with
        | nil => intro xs fr _; simp
        | cons q ps ih =>
          intro xs fr hq
          cases xs with
          | nil => simp
          | cons y ys =>
            simp only [List.mem_cons, not_or] at hq
            simp only [List.zip_cons_cons, List.cons_append, frL, if_neg hq.1]
            exact ih ys fr hq.2
      rw [this ps xs _ hn.1] at step
      simpa [frL] using step
    · rename_i e
      have : ∀ (ps : List Tmp) (xs : List AVal), frL (ps.zip xs ++ (p, x) :: fr) t = frL (ps.zip xs ++ fr) t := fun ps => by
        induction ps with
        | nil => intro xs; simp [frL, e]
        | cons q ps ih =>
          intro xs
          cases xs with
          | nil => simp [frL, e]
          | cons y ys => simp only [List.zip_cons_cons, List.cons_append, frL]; rw [ih ys]
      rw [this] at step
      exact step
  | p :: ps, [], vs, tm, fr, _, _, hl, _, _, t => by simp at hl

theorem foldl_size : ∀ (l : List (Tmp × Value)) (tm : Array Value), (l.foldl (fun t (x : Tmp × Value) => t.setIfInBounds x.1 x.2) tm).size = tm.size
  | [], tm => rfl
  | x :: l, tm => by simp only [List.foldl_cons]; rw [foldl_size l]; simp

end
end Go.Proofs.Ytniaeiikdgbnfaa.AW
