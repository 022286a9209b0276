/- The abstract walker, part 18: the walk over structured code. -/
import Derived.Test.YtniaeiikdgbnfaaAW17
import Derived.OrdersIn
import Derived.TacticsIn
namespace Go.Proofs.Ytniaeiikdgbnfaa.AW
open Go Go.RowKit

theorem Ext.size {w w' : World} (h : Ext w w') : w.heap.size ≤ w'.heap.size := by
  rcases Nat.lt_or_ge w'.heap.size w.heap.size with hlt | hge
  · have := h w'.heap.size hlt
    rw [Array.getElem?_eq_none (Nat.le_refl _), Array.getElem?_eq_getElem hlt] at this
    cases this
  · exact hge
theorem Ext.extS {w w' : World} (h : Ext w w') : ExtS w w' := ⟨h, h.size⟩

/-- An order, or a tree of them. -/
inductive Plan where
  | done
  | take (i : Nat) (p : Plan)
  | one (i : Nat) (p : Plan)
  | two (i : Nat) (p : Plan) (j : Nat) (q : Plan)
  | three (i : Nat) (p : Plan) (j : Nat) (q : Plan) (k : Nat) (r : Plan)

/-- Every operation that has not come up and may turn the memory waits for number i. -/
def waitM (mt : Nat → Bool) (ops : Array Oper) (listed : Array Bool) (i : Nat) : Bool :=
  (List.range ops.size).all fun j => j == i || listed.getD j true || !(mt j) || waitsFor ops 3 j i

def takeOk (mt : Nat → Bool) (ops : Array Oper) (listed : Array Bool) (i : Nat) : Bool :=
  match ops[i]? with
  | some o => quietOp o.op && Region.free .any ops listed i && (Region.ready .any ops listed).contains i && (!(readsO o.op) || waitM mt ops listed i)
  | none => false

def planOk (mt : Nat → Bool) (ops : Array Oper) : Plan → Array Bool → Bool
  | .done, l => (Region.ready .any ops l) == []
  | .take i p, l => takeOk mt ops l i && planOk mt ops p (l.setIfInBounds i true)
  | .one i p, l => (Region.ready .any ops l) == [i] && planOk mt ops p (l.setIfInBounds i true)
  | .two i p j q, l => (Region.ready .any ops l) == [i, j] && planOk mt ops p (l.setIfInBounds i true) && planOk mt ops q (l.setIfInBounds j true)
  | .three i p j q k r, l => (Region.ready .any ops l) == [i, j, k] && planOk mt ops p (l.setIfInBounds i true) && planOk mt ops q (l.setIfInBounds j true) && planOk mt ops r (l.setIfInBounds k true)

def Plan.len : Plan → Nat
  | .done => 0
  | .take _ p => p.len + 1
  | .one _ p => p.len + 1
  | .two _ p _ q => max p.len q.len + 1
  | .three _ p _ q _ r => max (max p.len q.len) r.len + 1

/-- A guard. -/
def agd (s : AState) (ops : List Oper) (o : Oper) (run skip : Prop) : Prop :=
  match o.guard with
  | none => run
  | some (g, want) =>
    match (ops[g]?).bind (·.dst) with
    | some t =>
      (match s.fr t with
      | .d (.bool b) =>
        (match want with
        | true => (b = true → run) ∧ (b = false → skip)
        | false => (b = false → run) ∧ (b = true → skip))
      | .un => skip
      | _ => False)
    | none => skip

/-- What a walk is told: functions that may turn what stood; objects to be laid to rest ahead of an operation; the orders of the drawn regions. -/
structure Told where
  mu : FuncId → Bool
  pre : Nat → Nat → List Tmp
  plan : Nat → Plan

def opStep (P : Program) (C : Ctx) (T : Told) (id : Nat) (ops : List Oper) (i : Nat) (o : Oper) (s : AState) (K : AState → Prop) : Prop :=
  qFreezes P (T.pre id i) s fun s => agd s ops o (aop P C T.mu s o K) (dstOk s o = true ∧ forceS (s.put o.dst .un) K)

def awpOps (P : Program) (C : Ctx) (T : Told) (id : Nat) (ops : List Oper) : List Oper → Nat → AState → (AState → Prop) → Prop
  | [], _, s, K => K s
  | o :: r, i, s, K => opStep P C T id ops i o s fun s => awpOps P C T id ops r (i + 1) s K

def awpAny (P : Program) (C : Ctx) (T : Told) (id : Nat) (ops : List Oper) : Plan → AState → (AState → Prop) → Prop
  | .done, s, K => K s
  | .take i p, s, K =>
    match ops[i]? with
    | some o => opStep P C T id ops i o s fun s => awpAny P C T id ops p s K
    | none => False
  | .one i p, s, K =>
    match ops[i]? with
    | some o => opStep P C T id ops i o s fun s => awpAny P C T id ops p s K
    | none => False
  | .two i p j q, s, K =>
    match ops[i]?, ops[j]? with
    | some o, some o2 => opStep P C T id ops i o s (fun s => awpAny P C T id ops p s K) ∧ opStep P C T id ops j o2 s (fun s => awpAny P C T id ops q s K)
    | _, _ => False
  | .three i p j q k r, s, K =>
    match ops[i]?, ops[j]?, ops[k]? with
    | some o, some o2, some o3 => opStep P C T id ops i o s (fun s => awpAny P C T id ops p s K) ∧ opStep P C T id ops j o2 s (fun s => awpAny P C T id ops q s K) ∧ opStep P C T id ops k o3 s (fun s => awpAny P C T id ops r s K)
    | _, _, _ => False

def mtOf (mu : FuncId → Bool) (ops : List Oper) (i : Nat) : Bool := match ops[i]? with
  | some o => mutO mu o.op
  | none => false

def deferB : Op → Bool
  | .defer _ => true
  | _ => false
def noDefer : List Oper → Bool
  | [] => true
  | o :: r => !deferB o.op && noDefer r
theorem noDefer.mem : ∀ {l : List Oper}, noDefer l = true → ∀ o ∈ l, ∀ c, o.op ≠ .defer c
  | [], _, o, ho, _ => by simp at ho
  | p :: r, h, o, ho, c => by
    simp only [noDefer, Bool.and_eq_true, Bool.not_eq_true'] at h
    rcases List.mem_cons.1 ho with rfl | ho
    · intro e; rw [e] at h; simp [deferB] at h
    · exact noDefer.mem h.2 o ho c

def regionB (P : Program) (T : Told) (id : Nat) (ops : Array Oper) : Bool :=
  P.follows .mixedOrders && noDefer ops.toList && Region.noSelect ops && planOk (mtOf T.mu ops.toList) ops (T.plan id) (Array.replicate ops.size false) && decide ((T.plan id).len ≤ ops.size)

def thenQ (next : AState → Prop) (Q : Exit → AState → Prop) : Exit → AState → Prop
  | .normal, s => next s
  | .exit i, s => Q (.exit i) s
  | .goto l, s => Q (.goto l) s
  | .ret, s => Q .ret s
  | .panic c, s => Q (.panic c) s
  | .outgrown, s => Q .outgrown s

def blockQ (id : Nat) (Q : Exit → AState → Prop) : Exit → AState → Prop
  | .exit i, s => if i = id then Q .normal s else Q (.exit i) s
  | .normal, s => Q .normal s
  | .goto l, s => Q (.goto l) s
  | .ret, s => Q .ret s
  | .panic c, s => Q (.panic c) s
  | .outgrown, s => Q .outgrown s

def awp (P : Program) (C : Ctx) (T : Told) : Code → AState → (Exit → AState → Prop) → Prop
  | .skip, s, Q => Q .normal s
  | .seq x y, s, Q => awp P C T x s (thenQ (fun s => awp P C T y s Q) Q)
  | .region id ops false, s, Q =>
    (match noDefer ops.toList with
    | true => awpOps P C T id ops.toList ops.toList 0 s (Q .normal)
    | false => False)
  | .region id ops true, s, Q => regionB P T id ops = true ∧ awpAny P C T id ops.toList (T.plan id) s (Q .normal)
  | .cond c x y, s, Q =>
    (match aev P s 0 c with
    | .d (.bool b) => constOk P 0 c ∧ (b = true → awp P C T x s Q) ∧ (b = false → awp P C T y s Q)
    | _ => False)
  | .block id b, s, Q => awp P C T b s (blockQ id Q)
  | .exit id, s, Q => Q (.exit id) s
  | .label _, s, Q => Q .normal s
  | .goto l, s, Q => Q (.goto l) s
  | .ret, s, Q => Q .ret s
  | c, s, Q => AWp P C c s Q

section
variable {P : Program} {C : Ctx} {s : AState} {T : Told} {a : Act} {w : World}

/-- A post-condition of the walk, as the model's. -/
def liftQ (C : Ctx) (Q : Exit → AState → Prop) : Exit → Act → World → Prop := fun e a w => ∃ s, ARel C s a w ∧ Q e s

theorem agd_sound {β : Nat → Option Value} {S : Nat → Prop} (h : ARelB C s β S a w) {ops : List Oper} {o : Oper} {run skip : Prop} (hq : agd s ops o run skip) :
    (Region.wanted o (yielded ops.toArray a.tmps) = true ∧ run) ∨ (Region.wanted o (yielded ops.toArray a.tmps) = false ∧ skip) := by
  unfold agd at hq
  unfold Region.wanted
  split at hq
  · rename_i hg; rw [hg]; exact .inl ⟨rfl, hq⟩
  · rename_i g want hg
    rw [hg]
    unfold yielded
    simp only [List.getElem?_toArray]
    split at hq
    · rename_i t ht
      rw [ht]
      simp only [Option.bind_some]
      have hfr := h.fr t
      rw [Array.getD_eq_getD_getElem?] at hfr
      split at hq
      · rename_i b hb
        rw [hb] at hfr
        have e := d_bool hfr
        cases ha : a.tmps[t]? with
        | none => rw [ha] at e; simp [undef] at e
        | some v =>
          rw [ha] at e
          simp only [Option.getD_some] at e
          subst e
          cases want <;> cases b <;> simp_all
      · rename_i hb
        rw [hb] at hfr
        simp only [VRel] at hfr
        right
        refine ⟨?_, hq⟩
        cases ha : a.tmps[t]? with
        | none => simp
        | some v =>
          rw [ha] at hfr
          simp only [Option.getD_some] at hfr
          subst hfr
          simp [undef]
      · exact hq.elim
    · rename_i ht
      rw [ht]
      right
      exact ⟨by simp, hq⟩

theorem put_un {β : Nat → Option Value} {S : Nat → Prop} (h : ARelB C s β S a w) (o : Oper) (hd : dstOk s o = true) : ARelB C (s.put o.dst .un) β S (a.put o.dst undef) w :=
  h.put (by simp only [VRel]) (dstOk.lt hd)

/-- One operation of a region, as the walk takes it. -/
theorem opStep_sound (h : ARel C s a w) {id : Nat} {ops : List Oper} {i : Nat} {o : Oper} (ho : ops[i]? = some o) {K : AState → Prop} (hq : opStep P C T id ops i o s K) {Q : Exit → Act → World → Prop} :
    wpOp P ops.toArray Q i (fun a' w' => (mtOf T.mu ops i = false → Ext w w') ∧ ∃ s', ARel C s' a' w' ∧ K s') a w := by
  obtain ⟨β, S, h⟩ := h
  obtain ⟨S', s', h', hq⟩ := qFreezes_sound h hq
  unfold wpOp
  simp only [List.getElem?_toArray, ho]
  rcases agd_sound h' hq with ⟨hw, hr⟩ | ⟨hw, hr⟩
  · rw [if_pos hw]
    refine .inl ?_
    have := aop_sound h' hr (Q := Q)
    simpa only [mtOf, ho] using this
  · rw [if_neg (by simp [hw])]
    exact ⟨fun _ => Ext.refl w, _, ⟨β, S', put_un h' o hr.1⟩, forceS_of _ hr.2⟩

theorem awpOps_sound {id : Nat} {ops : List Oper} {K : AState → Prop} {Q : Exit → Act → World → Prop} (hQ : ∀ s a w, ARel C s a w → K s → Q .normal a w) :
    ∀ {r : List Oper} {i : Nat} {s : AState} {a : Act} {w : World}, (∀ k, r[k]? = ops[i + k]?) → ARel C s a w → awpOps P C T id ops r i s K → wpList P ops.toArray Q r a w
  | [], i, s, a, w, _, h, hq => by simp only [awpOps] at hq; exact hQ s a w h hq
  | o :: r, i, s, a, w, hr, h, hq => by
    have hs := opStep_sound h (by have := hr 0; simpa using this.symm) hq (Q := Q)
    have hi : ops[i]? = some o := by have := hr 0; simpa using this.symm
    have ih := @awpOps_sound id ops K Q hQ r (i + 1)
    unfold wpOp at hs
    simp only [List.getElem?_toArray, hi] at hs
    have hr' : ∀ k, r[k]? = ops[i + 1 + k]? := fun k => by have := hr (k + 1); simpa [Nat.add_assoc, Nat.add_comm 1 k] using this
    simp only [wpList]
    split
    · rename_i hw
      rw [if_pos hw] at hs
      exact hs.imp (Oper.wp_mono fun a' w' ⟨_, s', h', hq'⟩ => ih hr' h' hq') (fun h => h)
    · rename_i hw
      rw [if_neg hw] at hs
      obtain ⟨_, s', h', hq'⟩ := hs
      exact ih hr' h' hq'

theorem ARel.drawn (h : ARel C s a w) (n : Nat) : ARel C s a { w with drawn := n } := by
  obtain ⟨β, S, h⟩ := h
  have hk : ∀ b, S b → S b ∧ ({ w with drawn := n } : World).heap[b]? = w.heap[b]? := fun b hb => ⟨hb, rfl⟩
  refine ⟨β, S, fun t => VRel.keep hk (fun _ _ e => e) _ _ (h.fr t), h.size, ⟨fun j o hj => ?_, h.st.nodup, h.st.apart, h.st.own, h.st.inS⟩, ⟨h.frame.size, h.frame.os, h.frame.tape, h.frame.output, h.frame.old, h.frame.inS, h.frame.own⟩, h.nx, h.defers, h.pin, h.nxm⟩
  obtain ⟨v, hv, hr⟩ := h.st.obj j o hj
  exact ⟨v, hv, hr.keep hk (fun _ _ e => e) fun _ _ => rfl⟩

theorem take_sound (h : ARel C s a w) {id : Nat} {ops : List Oper} {i : Nat} {o : Oper} (hqt : quietOp o.op = true) {K : AState → Prop} (hq : opStep P C T id ops i o s K) :
    ∃ v, YieldsIf P ops.toArray (SE (readsO o.op) w) o v a ∧ ∃ s', ARel C s' (a.put o.dst v) w ∧ K s' := by
  obtain ⟨β, S, h⟩ := h
  obtain ⟨S', s', h', hq⟩ := qFreezes_sound h hq
  rcases agd_sound h' hq with ⟨hw, hr⟩ | ⟨hw, hr⟩
  · obtain ⟨hd, hr⟩ := hr
    rw [hqt] at hr
    obtain ⟨v, r, h1, h2, h3⟩ := aquiet_sound h' hr
    exact ⟨v, .inl ⟨hw, fun w' hs => h1 w' fun hrd => (hs hrd).1⟩, _, ⟨β, S', h'.put h2 (dstOk.lt hd)⟩, forceS_of _ (forceV_of _ h3)⟩
  · exact ⟨undef, .inr ⟨hw, rfl⟩, _, ⟨β, S', put_un h' o hr.1⟩, forceS_of _ hr.2⟩

theorem waitM_spec {mt : Nat → Bool} {ops : Array Oper} {listed : Array Bool} {i : Nat} (h : waitM mt ops listed i = true) (j : Nat) (oj : Oper) (hj : ops[j]? = some oj) (hne : j ≠ i) (hun : listed.getD j true = false) (hm : mt j = true) :
    ∃ n, waitsFor ops n j i = true := by
  simp only [waitM, List.all_eq_true, List.mem_range] at h
  have h1 := h j (Array.getElem?_eq_some_iff.1 hj).1
  simp only [Bool.or_eq_true, beq_iff_eq, hne, false_or, hun, Bool.false_eq_true, hm, Bool.not_true] at h1
  exact ⟨3, h1⟩

theorem wpAnyE_all {ops : Array Oper} {mt : Nat → Bool} {Q : Exit → Act → World → Prop} {rs : List Nat} {fuel : Nat} {listed : Array Bool} (hr : Region.ready .any ops listed = rs) (hne : rs ≠ [])
    (h : ∀ i ∈ rs, wpOp P ops Q i (fun a' w' => (mt i = false → ExtS w w') ∧ wpAnyE P ops mt Q fuel (listed.setIfInBounds i true) a' w') a w) : wpAnyE P ops mt Q (fuel + 1) listed a w :=
  ⟨fun h0 => absurd (hr ▸ h0) hne, hr ▸ h⟩

theorem awpAny_sound {id : Nat} {ops : List Oper} {K : AState → Prop} {Q : Exit → Act → World → Prop} (hQ : ∀ s a w, ARel C s a w → K s → Q .normal a w) (hP : ∀ c a w, ¬ Q (.panic c) a w) (hsel : Region.noSelect ops.toArray = true) :
    ∀ (p : Plan) (l : Array Bool) (s : AState) (a : Act) (w : World) (fuel : Nat), p.len ≤ fuel → planOk (mtOf T.mu ops) ops.toArray p l = true → Closed ops.toArray l → ARel C s a w → awpAny P C T id ops p s K → wpAnyE P ops.toArray (mtOf T.mu ops) Q fuel l a w := by
  have step : ∀ {i : Nat} {o : Oper} {K' : AState → Prop} {s : AState} {a : Act} {w : World} {fuel : Nat} {l : Array Bool}, ops[i]? = some o → ARel C s a w → opStep P C T id ops i o s K' →
      (∀ s' a' w', ARel C s' a' w' → K' s' → wpAnyE P ops.toArray (mtOf T.mu ops) Q fuel (l.setIfInBounds i true) a' w') →
      wpOp P ops.toArray Q i (fun a' w' => (mtOf T.mu ops i = false → ExtS w w') ∧ wpAnyE P ops.toArray (mtOf T.mu ops) Q fuel (l.setIfInBounds i true) a' w') a w := fun ho h hq hk =>
    wpOp_mono (fun a' w' ⟨h1, s', h2, h3⟩ => ⟨fun hm => (h1 hm).extS, hk s' a' w' h2 h3⟩) (opStep_sound h ho hq)
  intro p
  induction p with
  | done =>
    intro l s a w fuel _ hp hcl h hq
    simp only [planOk, beq_iff_eq] at hp
    simp only [awpAny] at hq
    cases fuel with
    | zero => exact ⟨hp, hQ _ _ _ h hq⟩
    | succ n => exact ⟨fun _ => hQ _ _ _ h hq, by rw [hp]; simp⟩
  | take i p ih =>
    intro l s a w fuel hf hp hcl h hq
    simp only [planOk, Bool.and_eq_true] at hp
    simp only [awpAny] at hq
    simp only [Plan.len] at hf
    obtain ⟨fuel, rfl⟩ : ∃ n, fuel = n + 1 := ⟨fuel - 1, by omega⟩
    split at hq
    · rename_i o ho
      have ho' : ops.toArray[i]? = some o := by simpa using ho
      have ht := hp.1
      unfold takeOk at ht
      rw [ho'] at ht
      simp only [Bool.and_eq_true, Bool.or_eq_true, Bool.not_eq_true'] at ht
      obtain ⟨⟨⟨h1, h2⟩, h3⟩, h4⟩ := ht
      obtain ⟨v, hy, s', h5, h6⟩ := take_sound h h1 hq
      refine wpAnyE_first ho' (Region.noSelect_spec hsel) (fun c a w h => (hP c _ w h).elim) fuel l a w (Region.free_spec ho' h2) (fun hrd j oj hj hne hun hm => ?_) hcl (by simpa using h3) hy (ih _ _ _ _ _ (by omega) hp.2 (hcl.set (by simpa using h3)) h5 h6)
      rcases h4 with h4 | h4
      · rw [h4] at hrd; cases hrd
      · exact waitM_spec h4 j oj hj hne hun hm
    · exact hq.elim
  | one i p ih =>
    intro l s a w fuel hf hp hcl h hq
    simp only [planOk, Bool.and_eq_true, beq_iff_eq] at hp
    simp only [awpAny] at hq
    simp only [Plan.len] at hf
    obtain ⟨fuel, rfl⟩ : ∃ n, fuel = n + 1 := ⟨fuel - 1, by omega⟩
    split at hq
    · rename_i o ho
      refine wpAnyE_all hp.1 (by simp) fun k hk => ?_
      simp only [List.mem_cons, List.not_mem_nil, or_false] at hk
      subst hk
      exact step ho h hq fun s' a' w' h' hK => ih _ _ _ _ _ (by omega) hp.2 (hcl.set (by rw [hp.1]; simp)) h' hK
    · exact hq.elim
  | two i p j q ih1 ih2 =>
    intro l s a w fuel hf hp hcl h hq
    simp only [planOk, Bool.and_eq_true, beq_iff_eq] at hp
    simp only [awpAny] at hq
    simp only [Plan.len] at hf
    obtain ⟨fuel, rfl⟩ : ∃ n, fuel = n + 1 := ⟨fuel - 1, by omega⟩
    split at hq
    · rename_i o o2 ho ho2
      refine wpAnyE_all hp.1.1 (by simp) fun k hk => ?_
      simp only [List.mem_cons, List.not_mem_nil, or_false] at hk
      rcases hk with rfl | rfl
      · exact step ho h hq.1 fun s' a' w' h' hK => ih1 _ _ _ _ _ (by omega) hp.1.2 (hcl.set (by rw [hp.1.1]; simp)) h' hK
      · exact step ho2 h hq.2 fun s' a' w' h' hK => ih2 _ _ _ _ _ (by omega) hp.2 (hcl.set (by rw [hp.1.1]; simp)) h' hK
    · exact hq.elim
  | three i p j q k r ih1 ih2 ih3 =>
    intro l s a w fuel hf hp hcl h hq
    simp only [planOk, Bool.and_eq_true, beq_iff_eq] at hp
    simp only [awpAny] at hq
    simp only [Plan.len] at hf
    obtain ⟨fuel, rfl⟩ : ∃ n, fuel = n + 1 := ⟨fuel - 1, by omega⟩
    split at hq
    · rename_i o o2 o3 ho ho2 ho3
      refine wpAnyE_all hp.1.1.1 (by simp) fun k hk => ?_
      simp only [List.mem_cons, List.not_mem_nil, or_false] at hk
      rcases hk with rfl | rfl | rfl
      · exact step ho h hq.1 fun s' a' w' h' hK => ih1 _ _ _ _ _ (by omega) hp.1.1.2 (hcl.set (by rw [hp.1.1.1]; simp)) h' hK
      · exact step ho2 h hq.2.1 fun s' a' w' h' hK => ih2 _ _ _ _ _ (by omega) hp.1.2 (hcl.set (by rw [hp.1.1.1]; simp)) h' hK
      · exact step ho3 h hq.2.2 fun s' a' w' h' hK => ih3 _ _ _ _ _ (by omega) hp.2 (hcl.set (by rw [hp.1.1.1]; simp)) h' hK
    · exact hq.elim

theorem ARel.bool {t : Operand} {b : Bool} (h : ARel C s a w) (hc : constOk P 0 t) (he : aev P s 0 t = .d (.bool b)) : a.eval t = .bool b := by
  obtain ⟨β, S, h⟩ := h
  have := aev_rel h hc
  rw [he] at this
  exact d_bool this

/-! ### In a round of a loop over a function, or not -/
theorem stepsIn_fence {rd : Option Nat} {m m' : Machine} : StepsIn (Machine.fenced P (fence rd)) P m m' ↔ Steps P m m' := stepsIn_wide
theorem callsIn_fence {rd : Option Nat} {n : Nat} {f : FuncId} {args : Array Value} {w : World} {R : Ending → World → Prop} : CallsIn (fence rd) n P f args w R ↔ Calls P f args w R := callsIn_wide

theorem wpIn_fence {rd : Option Nat} {n : Nat} {c : Code} {Q : Exit → Act → World → Prop} (h : c.wpIn (fence rd) 0 P Q a w) : c.wpIn (fence rd) n P Q a w :=
  fun b k cs hro hb _ => h b k cs hro hb (room_wide _)

theorem oper_in {rd : Option Nat} {n : Nat} {o : Oper} {K : Act → World → Prop} {Q : Exit → Act → World → Prop} (hd : ∀ c, o.op ≠ .defer c) (h : o.wp P a w K Q) : o.wpIn (fence rd) n P a w K Q := by
  unfold Oper.wp at h
  unfold Oper.wpIn
  refine ⟨fun _ _ => trivial, ?_⟩
  rw [Oper.semAt_eq _ _ _ hd]
  generalize (execOp a.eval o).run P w = r at *
  cases r with
  | ok x w' =>
    cases x <;> simp only [Oper.upon, Oper.uponIn] at h ⊢ <;>
      first
        | exact h
        | exact h.elim
        | exact ⟨fun h => by simp [fence, Fence.wide] at h, callsIn_fence.2 (Calls.mono h fun e w'' he => by cases e <;> exact he)⟩
        | exact ⟨fun h => by simp [fence, Fence.wide] at h, fun c cs _ => let ⟨v, w', r, s⟩ := h c cs; ⟨v, w', r, stepsIn_fence.2 s⟩⟩
  | halt x w' => cases x <;> simp only [Oper.upon, Oper.uponIn] at h ⊢ <;> exact h

theorem wpList_in {rd : Option Nat} {n : Nat} {ops : Array Oper} {Q : Exit → Act → World → Prop} (hQ : ¬ LetsOut Q) : ∀ (l : List Oper), (∀ o ∈ l, ∀ c, o.op ≠ .defer c) → ∀ (a : Act) (w : World), wpList P ops Q l a w → wpListIn (fence rd) n P ops Q l a w
  | [], _, a, w, h => h
  | o :: l, hd, a, w, h => by
    have ih := @wpList_in rd n ops Q hQ l (fun o ho => hd o (List.mem_cons_of_mem _ ho))
    simp only [wpList] at h
    simp only [wpListIn]
    split
    · rename_i hw
      rw [if_pos hw] at h
      rcases h with h | h
      · exact Oper.wpIn_mono ih (oper_in (hd o (by simp)) h)
      · exact (hQ h.2).elim
    · rename_i hw
      rw [if_neg hw] at h
      exact ⟨fun _ _ => trivial, ih _ _ h⟩

theorem wpAny_in {rd : Option Nat} {n : Nat} {md : Region.Mode} {ops : Array Oper} {Q : Exit → Act → World → Prop} (hQ : ¬ LetsOut Q) (hd : ∀ o ∈ ops.toList, ∀ c, o.op ≠ .defer c) : ∀ (fuel : Nat) (l : Array Bool) (a : Act) (w : World),
    wpAny P md ops Q fuel l a w → wpAnyIn (fence rd) n P md ops Q fuel l a w
  | 0, _, _, _, h => h
  | fuel + 1, l, a, w, h => ⟨h.1, fun i hi => by
    have h2 := h.2 i hi
    unfold wpOp at h2
    unfold wpOpIn
    split
    · rename_i ho
      simp only [ho] at h2
      exact wpAny_in hQ hd fuel _ _ _ h2
    · rename_i o ho
      simp only [ho] at h2
      have hm : o ∈ ops.toList := by
        obtain ⟨hlt, he⟩ := Array.getElem?_eq_some_iff.1 ho
        rw [← he]
        exact Array.getElem_mem_toList hlt
      split
      · rename_i hw
        rw [if_pos hw] at h2
        rcases h2 with h2 | h2
        · exact Oper.wpIn_mono (fun a' w' h' => wpAny_in hQ hd fuel _ a' w' h') (oper_in (hd o hm) h2)
        · exact (hQ h2.2).elim
      · rename_i hw
        rw [if_neg hw] at h2
        exact ⟨fun _ _ => trivial, wpAny_in hQ hd fuel _ _ _ h2⟩⟩

/-- THE WALK. -/
theorem awp_sound : ∀ (c : Code) {s : AState} {a : Act} {w : World} {Q : Exit → AState → Prop}, ARel C s a w → awp P C T c s Q → c.wpIn (fence C.rd) 0 P (liftQ C Q) a w := by
  have normal : ∀ {Q : Exit → AState → Prop} {s : AState} {a : Act} {w : World}, ARel C s a w → Q .normal s → liftQ C Q .normal a w := fun h hq => ⟨_, h, hq⟩
  have other : ∀ {c : Code} {s : AState} {a : Act} {w : World} {Q : Exit → AState → Prop}, ARel C s a w → AWp P C c s Q → c.wpIn (fence C.rd) 0 P (liftQ C Q) a w := fun {c s a w Q} h hq =>
    wpIn_mono (hq.run a w h) fun e a' w' ⟨s', h1, h2⟩ => ⟨s', h1, h2⟩
  have out : ∀ {Q : Exit → AState → Prop}, ¬ LetsOut (fun e a w => match e with
        | .normal => liftQ C Q .normal a w
        | _ => False) := fun ⟨a, w, h⟩ => h
  intro c
  induction c with
  | skip => intro s a w Q h hq; exact wpIn_skip ⟨s, h, hq⟩
  | region id ops draw =>
    intro s a w Q h hq
    let Q0 : Exit → Act → World → Prop := fun e a w => match e with
        | .normal => liftQ C Q .normal a w
        | _ => False
    refine wpIn_mono (Q := Q0) ?_ (fun e a w q => by cases e <;> first | exact q | exact q.elim)
    cases draw with
    | false =>
      simp only [awp] at hq
      split at hq
      · rename_i hnd
        refine wpIn_region_list (wpList_in out _ (noDefer.mem hnd) _ _ ?_)
        have := awpOps_sound (P := P) (T := T) (id := id) (ops := ops.toList) (K := Q .normal) (Q := Q0) (fun s a w h hK => ⟨s, h, hK⟩) (r := ops.toList) (i := 0) (fun k => by simp) h hq
        simpa using this
      · exact hq.elim
    | true =>
      simp only [awp] at hq
      obtain ⟨hB, hq⟩ := hq
      simp only [regionB, Bool.and_eq_true, decide_eq_true_eq] at hB
      obtain ⟨⟨⟨⟨hm, hnd⟩, hsel⟩, hp⟩, hlen⟩ := hB
      refine wpIn_region_any hm (wpAny_in out (noDefer.mem hnd) _ _ _ _ (wpAny_ofE _ _ _ _ (mt := mtOf T.mu ops.toList) ?_))
      have := awpAny_sound (P := P) (C := C) (T := T) (id := id) (ops := ops.toList) (K := Q .normal) (Q := Q0) (fun s a w h hK => ⟨s, h, hK⟩) (fun c a w h => h) (by simpa using hsel) (T.plan id) _ s a { w with drawn := w.drawn + 1 } ops.size hlen (by simpa using hp) (fun k ok _ hl => by rw [Array.getD_eq_getD_getElem?, Array.getElem?_replicate] at hl; split at hl <;> simp at hl) (h.drawn _) hq
      simpa using this
  | seq x y ih1 ih2 =>
    intro s a w Q h hq
    simp only [awp] at hq
    refine wpIn_seq (wpIn_mono (ih1 h hq) fun e a' w' hl => ?_)
    obtain ⟨s', h1, h2⟩ := hl
    cases e <;> first | exact ih2 h1 h2 | exact ⟨s', h1, h2⟩
  | cond c x y ih1 ih2 =>
    intro s a w Q h hq
    simp only [awp] at hq
    split at hq
    · rename_i b hb
      obtain ⟨hc, h1, h2⟩ := hq
      exact wpIn_cond_split (h.bool hc hb) (fun e => ih1 h (h1 e)) fun e => ih2 h (h2 e)
    · exact hq.elim
  | block id x ih =>
    intro s a w Q h hq
    simp only [awp] at hq
    refine wpIn_block (wpIn_mono (ih h hq) fun e a' w' hl => ?_)
    obtain ⟨s', h1, h2⟩ := hl
    cases e with
    | exit i =>
      simp only [blockQ] at h2
      simp only [Exit.inBlock]
      split <;> rename_i hi
      · rw [if_pos hi] at h2; exact ⟨s', h1, h2⟩
      · rw [if_neg hi] at h2; exact ⟨s', h1, h2⟩
    | _ => exact ⟨s', h1, h2⟩
  | exit id => intro s a w Q h hq; exact wpIn_exit ⟨s, h, hq⟩
  | label l => intro s a w Q h hq; exact wpIn_label ⟨s, h, hq⟩
  | goto l => intro s a w Q h hq; exact wpIn_goto ⟨s, h, hq⟩
  | ret => intro s a w Q h hq; exact wpIn_ret ⟨s, h, hq⟩
  | _ => intro s a w Q h hq; exact other h hq

end
end Go.Proofs.Ytniaeiikdgbnfaa.AW
