/- The abstract walker, part 16: one operation. -/
import Derived.Test.YtniaeiikdgbnfaaAW15
namespace Go.Proofs.Ytniaeiikdgbnfaa.AW
open Go Go.RowKit

def argsV (P : Program) (s : AState) : List Operand → List TypeId → List AVal
  | [], _ => []
  | x :: xs, [] => aev P s 0 x :: argsV P s xs []
  | x :: xs, t :: ts => aev P s t x :: argsV P s xs ts
def argsB (P : Program) : List Operand → List TypeId → Bool
  | [], _ => true
  | x :: xs, [] => constB P 0 x && argsB P xs []
  | x :: xs, t :: ts => constB P t x && argsB P xs ts
def argsOk (P : Program) (xs : List Operand) (ts : List TypeId) : Prop := argsB P xs ts = true

def partsV (P : Program) (s : AState) (ty : Nat → TypeId) : List (Nat × Operand) → List AVal
  | [] => []
  | p :: r => aev P s (ty p.1) p.2 :: partsV P s ty r
def partsB (P : Program) (ty : Nat → TypeId) : List (Nat × Operand) → Bool
  | [] => true
  | p :: r => constB P (ty p.1) p.2 && partsB P ty r
def partsOk (P : Program) (ty : Nat → TypeId) (ps : List (Nat × Operand)) : Prop := partsB P ty ps = true

def elemT (P : Program) (t : TypeId) : Nat → TypeId := fun _ => match P.underlying t with
  | some (.slice e) => e
  | some (.array _ e) => e
  | _ => 0
def fieldT (P : Program) (t : TypeId) : Nat → TypeId := fun i => match P.underlying t with
  | some (.struct fs) => ((fs[i]?).map (·.type)).getD 0
  | _ => elemT P t i

/-- May it turn what stood there? 'mu': the functions that may. -/
def mutO (mu : FuncId → Bool) : Op → Bool
  | .alloc _ | .box .. | .makeSlice .. | .buildSlice .. | .build .. => false
  | .call c =>
    match c.callee with
    | .value (.func g) => mu g
    | .builtin .len | .builtin .max | .builtin .min => false
    | _ => true
  | o => !quietOp o

structure ACall (P : Program) (C : Ctx) (x : Bool) (s : AState) (f : FuncId) (avs : List AVal) (K : AState → AVal → Prop) : Prop where
  run : ∀ β S a w vs, ARelB C s β S a w → VAll w β S avs vs → Enters P f ∧
    Calls P f vs.toArray w fun e w' => ∃ v s' r β' S', e = .returned v ∧ (x = true → Ext w w') ∧ ARelB C s' β' S' a w' ∧ VRel w' β' S' r v ∧ K s' r

/-- Whatever it is. -/
structure AOther (P : Program) (C : Ctx) (x : Bool) (s : AState) (o : Oper) (K : AState → AVal → Prop) : Prop where
  run : ∀ β S a w, ARelB C s β S a w → ∃ v w' s' r β' S', ((execOp a.eval o).run P w = .ok (.value v) w' ∨ (v = undef ∧ (execOp a.eval o).run P w = .ok .skip w')) ∧ (x = true → Ext w w') ∧ ARelB C s' β' S' a w' ∧ VRel w' β' S' r v ∧ K s' r

def aCallE (P : Program) (C : Ctx) (x : Bool) (s : AState) (o : Oper) (c : Call) (K : AState → AVal → Prop) : Prop :=
  match c.callee with
  | .builtin .append =>
    (match c.args.toList, c.argTypes.toList with
    | [y, z], [t, t2] => (constOk P t y ∧ constOk P t2 z) ∧ eAppend P C.m s t t2 (aev P s t y) (aev P s t2 z) K
    | _, _ => False)
  | .builtin .copy =>
    (match c.args.toList, c.argTypes.toList with
    | [y, z], [t, t2] => (constOk P t y ∧ constOk P t2 z) ∧ eCopy P s t (aev P s t y) (aev P s t2 z) K
    | _, _ => False)
  | .value f => constOk P 0 f ∧
    (match aev P s 0 f with
    | .d (.fn g caps) => noAgg caps = true ∧ argsOk P c.args.toList c.argTypes.toList ∧ ACall P C x s g (argsV P s c.args.toList c.argTypes.toList ++ caps.map .d) K
    | .ofn g caps => argsOk P c.args.toList c.argTypes.toList ∧ ACall P C x s g (argsV P s c.args.toList c.argTypes.toList ++ caps) K
    | _ => False)
  | _ => AOther P C x s o K

def storeOk (s : AState) (v : AVal) : Prop := match cellsV v with
  | some us => us.all (oneV s.st) = true
  | none => True

def aeff (P : Program) (C : Ctx) (mu : FuncId → Bool) (s : AState) (o : Oper) (K : AState → AVal → Prop) : Prop :=
  match o.op with
  | .alloc e => eAlloc P s e K
  | .box e x => constOk P e x ∧ eBox s e (aev P s e x) K
  | .store t x v => (constOk P 0 x ∧ constOk P t v) ∧ storeOk s (aev P s t v) ∧ eStore P s t (aev P s 0 x) (aev P s t v) (fun s' => K s' .un)
  | .makeSlice t l c => (constOk P 0 l ∧ constOk P 0 c) ∧ eMake P s t (aev P s 0 l) (aev P s 0 c) K
  | .buildSlice t len parts => partsOk P (elemT P t) parts.toList ∧ eBuildSlice P s t len (parts.toList.map (·.1)) (partsV P s (elemT P t) parts.toList) K
  | .build t parts => partsOk P (fieldT P t) parts.toList ∧ eBuild P s t ((parts.toList.map (·.1)).zip (partsV P s (fieldT P t) parts.toList)) (K s)
  | .call c => aCallE P C (!(mutO mu (.call c))) s o c K
  | .defer _ => False
  | _ => AOther P C (!(mutO mu o.op)) s o K

def dstOk (s : AState) (o : Oper) : Bool := match o.dst with
  | some t => decide (t < s.n)
  | none => true
theorem dstOk.lt {s : AState} {o : Oper} (h : dstOk s o = true) (t : Tmp) (e : o.dst = some t) : t < s.n := by
  unfold dstOk at h
  rw [e] at h
  exact of_decide_eq_true h

def aop (P : Program) (C : Ctx) (mu : FuncId → Bool) (s : AState) (o : Oper) (K : AState → Prop) : Prop :=
  dstOk s o = true ∧
  (match quietOp o.op with
  | true => aquiet P s o (fun v => forceV v fun v => forceS (s.put o.dst v) K)
  | false => aeff P C mu s o (fun s' v => forceV v fun v => forceS (s'.put o.dst v) K))

section
variable {P : Program} {C : Ctx} {s : AState} {β : Nat → Option Value} {S : Nat → Prop} {a : Act} {w : World} {mu : FuncId → Bool}

theorem argsV_rel (h : ARelB C s β S a w) : ∀ {xs : List Operand} {ts : List TypeId}, argsOk P xs ts → VAll w β S (argsV P s xs ts) (xs.map a.eval)
  | [], _, _ => by simp [argsV, VAll]
  | x :: xs, [], hc => by
    simp only [argsV, argsOk, argsB, Bool.and_eq_true, List.map_cons, VAll] at hc ⊢
    exact ⟨_, _, rfl, aev_rel h hc.1, argsV_rel h hc.2⟩
  | x :: xs, t :: ts, hc => by
    simp only [argsV, argsOk, argsB, Bool.and_eq_true, List.map_cons, VAll] at hc ⊢
    exact ⟨_, _, rfl, aev_rel h hc.1, argsV_rel h hc.2⟩

theorem partsV_rel (h : ARelB C s β S a w) {ty : Nat → TypeId} : ∀ {ps : List (Nat × Operand)}, partsOk P ty ps → VAll w β S (partsV P s ty ps) (ps.map fun p => a.eval p.2)
  | [], _ => by simp [partsV, VAll]
  | p :: ps, hc => by
    simp only [partsV, partsOk, partsB, Bool.and_eq_true, List.map_cons, VAll] at hc ⊢
    exact ⟨_, _, rfl, aev_rel h hc.1, partsV_rel h hc.2⟩

theorem parts_zip (ps : Array (Nat × Operand)) (ρ : Operand → Value) : (ps.map fun (i, x) => (i, ρ x)) = ((ps.toList.map (·.1)).zip (ps.toList.map fun p => ρ p.2)).toArray := by
  apply Array.ext'
  simp only [Array.toList_map]
  generalize ps.toList = l
  induction l with
  | nil => rfl
  | cons p l ih => simp only [List.map_cons, List.zip_cons_cons, ih]

theorem callFunc_enters {f : FuncId} (h : Enters P f) (args : Array Value) (w : World) : (callFunc f args).run P w = .ok (.enter f args) w := by
  obtain ⟨fn, h1, h2, h3⟩ := h
  simp only [callFunc, Sem.run_bind, run_program, Result.andThen_ok, h1, h3, h2, Bool.false_eq_true, if_false]
  rfl

/-- What the operation itself comes to, ahead of its slot. -/
def Upon (P : Program) (C : Ctx) (x : Bool) (a : Act) (w : World) (o : Oper) (K : AState → AVal → Prop) : Prop :=
  ∀ (next : Act → World → Prop) (Q : Exit → Act → World → Prop),
    (∀ v w' s' r β' S', (x = true → Ext w w') → ARelB C s' β' S' a w' → VRel w' β' S' r v → K s' r → next (a.put o.dst v) w') → o.wp P a w next Q

theorem Upon.value {x : Bool} {o : Oper} {K : AState → AVal → Prop} {v : Value} {w' : World} {s' : AState} {r : AVal} {β' : Nat → Option Value} {S' : Nat → Prop} (h : (execOp a.eval o).run P w = .ok (.value v) w') (he : x = true → Ext w w')
    (h1 : ARelB C s' β' S' a w') (h2 : VRel w' β' S' r v) (hK : K s' r) : Upon P C x a w o K := fun next Q hn => by
  unfold Oper.wp
  rw [h]
  exact hn v w' s' r β' S' he h1 h2 hK

theorem Upon.skip {x : Bool} {o : Oper} {K : AState → AVal → Prop} {w' : World} {s' : AState} {β' : Nat → Option Value} {S' : Nat → Prop} (h : (execOp a.eval o).run P w = .ok .skip w') (he : x = true → Ext w w')
    (h1 : ARelB C s' β' S' a w') (hK : K s' .un) : Upon P C x a w o K := fun next Q hn => by
  unfold Oper.wp
  rw [h]
  exact hn undef w' s' .un β' S' he h1 (by simp only [VRel]) hK

theorem run_value2 {w w' : World} {m : Sem Value} {v : Value} (h : m.run P w = .ok v w') : (do pure (Next.value (← m)) : Sem Next).run P w = .ok (.value v) w' := by
  simp only [Sem.run_bind, h, Result.andThen_ok, Sem.run_pure]

theorem Upon.doesX {x : Bool} {o : Oper} {K : AState → AVal → Prop} {m : Sem Value} (h : DoesX P C a w m K) (he : execOp a.eval o = (do pure (Next.value (← m)) : Sem Next)) : Upon P C x a w o K := by
  obtain ⟨v, w', s', r, β', h1, h2, S', h3, h4, h5⟩ := h
  exact Upon.value (by rw [he]; exact run_value2 h1) (fun _ => h2) h3 h4 h5

theorem Upon.does {o : Oper} {K : AState → AVal → Prop} {m : Sem Value} (h : Does P C a w m K) (he : (execOp a.eval o).run P w = (do pure (Next.value (← m)) : Sem Next).run P w) : Upon P C false a w o K := by
  obtain ⟨v, w', s', r, β', h1, S', h3, h4, h5⟩ := h
  exact Upon.value (by rw [he]; exact run_value2 h1) (fun h => by cases h) h3 h4 h5

theorem capsV_rel {w : World} {β : Nat → Option Value} {S : Nat → Prop} : ∀ {ds : List D} {cs : List Value}, (∀ d ∈ ds, d.isAgg = false) → RepAll w S ds cs → VAll w β S (ds.map .d) cs
  | [], cs, _, h => by simp only [RepAll] at h; simpa [VAll] using h
  | d :: ds, cs, hn, h => by
    simp only [RepAll] at h
    obtain ⟨c1, c2, rfl, h1, h2⟩ := h
    obtain ⟨u, rfl, _⟩ := rep_oneCell h1 (hn d (by simp))
    simp only [List.map_cons, VAll, VRel]
    exact ⟨u, c2, rfl, ⟨[u], h1, by rw [packD_one (hn d (by simp))]; rfl⟩, capsV_rel (fun d hd => hn d (by simp [hd])) h2⟩

theorem Upon.call {x : Bool} {o : Oper} {c : Call} {f : Operand} {K : AState → AVal → Prop} (ho : o.op = .call c) (hc : c.callee = .value f) {g : FuncId} {cvs : Array Value} {avs : List AVal} (hf : a.eval f = .func (.func g) #[] cvs)
    (h : ARelB C s β S a w) (ha : VAll w β S avs ((c.args.map a.eval) ++ cvs).toList) (hq : ACall P C x s g avs K) : Upon P C x a w o K := fun next Q hn => by
  obtain ⟨he, hcall⟩ := hq.run β S a w _ h ha
  have hrun : (execOp a.eval o).run P w = .ok (.enter g ((c.args.map a.eval) ++ cvs)) w := by
    simp only [execOp, ho, resolve, hc, hf, Deferred.ofValue, Sem.run_bind, Sem.run_pure, Result.andThen_ok, invoke]
    have := callFunc_enters he ((c.args.map a.eval) ++ cvs) w
    simpa using this
  unfold Oper.wp
  rw [hrun]
  rw [Array.toArray_toList] at hcall
  refine Calls.mono hcall fun e w' hh => ?_
  obtain ⟨v, s', r, β', S', rfl, h1, h2, h3, h4⟩ := hh
  exact hn v w' s' r β' S' h1 h2 h3 h4

theorem aCallE_sound (h : ARelB C s β S a w) {o : Oper} {c : Call} {x : Bool} {K : AState → AVal → Prop} (ho : o.op = .call c) (hx : ∀ b, c.callee = .builtin b → (b = .append ∨ b = .copy) → x = false)
    (hq : aCallE P C x s o c K) : Upon P C x a w o K := by
  obtain ⟨callee, args, ts⟩ := c
  unfold aCallE at hq
  split at hq
  · rename_i hcal
    simp only at hcal hx
    have hx2 := hx _ hcal (.inl rfl)
    subst hcal; subst hx2
    split at hq
    · rename_i y z t t2 e1 e2
      have e3 : args = #[y, z] := by apply Array.ext'; simpa using e1
      have e4 : ts = #[t, t2] := by apply Array.ext'; simpa using e2
      clear e1 e2
      subst e3; subst e4
      refine Upon.does (eAppend_sound (ty := o.type) h (aev_rel h hq.1.1) (aev_rel h hq.1.2) hq.2) ?_
      simp [execOp, ho, resolve, invoke, builtin]
    · exact hq.elim
  · rename_i hcal
    simp only at hcal hx
    have hx2 := hx _ hcal (.inr rfl)
    subst hcal; subst hx2
    split at hq
    · rename_i y z t t2 e1 e2
      have e3 : args = #[y, z] := by apply Array.ext'; simpa using e1
      have e4 : ts = #[t, t2] := by apply Array.ext'; simpa using e2
      clear e1 e2
      subst e3; subst e4
      refine Upon.does (eCopy_sound (ty := o.type) (t2 := t2) h (aev_rel h hq.1.1) (aev_rel h hq.1.2) hq.2) ?_
      simp [execOp, ho, resolve, invoke, builtin]
    · exact hq.elim
  · rename_i f hcal
    simp only at hcal
    subst hcal
    obtain ⟨hcf, hq⟩ := hq
    have hfv : VRel w β S (aev P s 0 f) (a.eval f) := aev_rel h hcf
    split at hq
    · rename_i g caps hf
      obtain ⟨hag0, hok, hq⟩ := hq
      have hag := noAgg_spec hag0
      rw [hf] at hfv
      simp only [VRel, Rep] at hfv
      obtain ⟨cs, ⟨cvs, rfl, hcv⟩, hp⟩ := hfv
      exact Upon.call ho rfl hp h (by
        have := VAll.append (argsV_rel h hok) (capsV_rel hag hcv)
        simpa using this) hq
    · rename_i g caps hf
      obtain ⟨hok, hq⟩ := hq
      rw [hf] at hfv
      simp only [VRel] at hfv
      obtain ⟨cvs, hp, hcv⟩ := hfv
      exact Upon.call ho rfl hp h (by
        have := VAll.append (argsV_rel h hok) hcv
        simpa using this) hq
    · exact hq.elim
  · obtain ⟨v, w', s', r, β', S', h1, h2, h3, h4, h5⟩ := hq.run β S a w h
    rcases h1 with h1 | ⟨rfl, h1⟩
    · exact Upon.value h1 h2 h3 h4 h5
    · intro next Q hn
      unfold Oper.wp
      rw [h1]
      exact hn undef w' s' r β' S' h2 h3 h4 h5

theorem AOther.upon {x : Bool} {o : Oper} {K : AState → AVal → Prop} (h : ARelB C s β S a w) (hq : AOther P C x s o K) : Upon P C x a w o K := by
  obtain ⟨v, w', s', r, β', S', h1, h2, h3, h4, h5⟩ := hq.run β S a w h
  rcases h1 with h1 | ⟨rfl, h1⟩
  · exact Upon.value h1 h2 h3 h4 h5
  · intro next Q hn
    unfold Oper.wp
    rw [h1]
    exact hn undef w' s' r β' S' h2 h3 h4 h5

theorem aeff_sound (h : ARelB C s β S a w) {o : Oper} {K : AState → AVal → Prop} (hq : aeff P C mu s o K) : Upon P C (!(mutO mu o.op)) a w o K := by
  obtain ⟨dst, op, type, pos, after, guard⟩ := o
  cases op <;> simp only [aeff] at hq <;> (try exact AOther.upon h hq)
  case alloc e => exact Upon.doesX (eAlloc_sound h hq) rfl
  case box e x => exact Upon.doesX (eBox_sound h (aev_rel h hq.1) hq.2) rfl
  case store t x v =>
    obtain ⟨w', s', h1, ⟨β', S', h2⟩, h3⟩ := eStore_sound h (aev_rel h hq.1.1) (aev_rel h hq.1.2) (fun us hus => by have := hq.2.1; unfold storeOk at this; rw [hus] at this; exact this) hq.2.2
    refine Upon.skip (w' := w') ?_ (by simp [mutO, quietOp]) h2 h3
    simp only [execOp, Sem.run_bind, h1, Result.andThen_ok, Sem.run_pure]
  case makeSlice t l c => exact Upon.doesX (eMake_sound h (aev_rel h hq.1.1) (aev_rel h hq.1.2) hq.2) rfl
  case buildSlice t len parts =>
    refine Upon.doesX (eBuildSlice_sound h (partsV_rel h hq.1) hq.2) ?_
    simp only [execOp, parts_zip]
  case build t parts =>
    obtain ⟨u, r, h1, h2, h3⟩ := eBuild_sound h (partsV_rel h hq.1) hq.2
    refine Upon.value (v := u) (w' := w) ?_ (fun _ => Ext.refl w) h h2 h3
    simp only [execOp, parts_zip]
    exact run_value2 (h1 w)
  case call c =>
    refine aCallE_sound h rfl (fun b hb hor => ?_) hq
    rcases hor with rfl | rfl <;> simp [mutO, hb]

theorem aop_sound (h : ARelB C s β S a w) {o : Oper} {K : AState → Prop} (hq : aop P C mu s o K) {Q : Exit → Act → World → Prop} :
    o.wp P a w (fun a' w' => (mutO mu o.op = false → Ext w w') ∧ ∃ s', ARel C s' a' w' ∧ K s') Q := by
  unfold aop at hq
  obtain ⟨hd, hq⟩ := hq
  have hd' := dstOk.lt hd
  split at hq
  · obtain ⟨v, r, h1, h2, h3⟩ := aquiet_sound h hq
    have h3 := forceS_of _ (forceV_of _ h3)
    unfold Oper.wp
    rw [h1 w fun _ => Ext.refl w]
    exact ⟨fun _ => Ext.refl w, _, ⟨β, S, h.put h2 hd'⟩, h3⟩
  · refine aeff_sound h hq _ Q fun v w' s' r β' S' he h1 h2 hK => ?_
    have hK := forceS_of _ (forceV_of _ hK)
    refine ⟨fun hm => he (by rw [hm]; rfl), _, ⟨β', S', h1.put h2 fun t e => ?_⟩, hK⟩
    have := hd' t e
    rw [← h.size] at this
    rwa [← h1.size]

end
end Go.Proofs.Ytniaeiikdgbnfaa.AW
