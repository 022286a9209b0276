/- Parts AW9, AW10, AW11, AW12, AW13. No condition of its own. -/
import Derived.Test.YtniaeiikdgbnfaaDoorSD2
import Derived.Laws.IdiomCopy

namespace Go.Proofs.YtniaeiikdgbnfaaDoor.AW
open Go Go.RowKit
set_option linter.unusedSectionVars false
variable [Globs]
set_option linter.unusedSimpArgs false

mutual
def flatD : D → List D
  | .agg ds => flatDs ds
  | d => [d]
def flatDs : List D → List D
  | [] => []
  | d :: ds => flatD d ++ flatDs ds
end

/-- Cells put together by a type. -/
def asm (P : Program) : Nat → TypeId → List D → D
  | 0, _, _ => .nilp
  | n + 1, t, ds =>
    match P.underlying t with
    | some (.struct fs) => .agg (fs.toList.map fun f => asm P n f.type ((ds.drop f.offset).take ((szT P f.type).getD 0)))
    | some (.array len e) => .agg ((List.range len).map fun i => asm P n e ((ds.drop (i * (szT P e).getD 0)).take ((szT P e).getD 0)))
    | _ => ds.headD .nilp

/-- The cells of a value. -/
def cellsV : AVal → Option (List AVal)
  | .d x => some ((flatD x).map .d)
  | .ag _ cs => some cs
  | .tup _ => none
  | .un => none
  | .any => none
  | v => some [v]

def AState.newO : AState → Ob → AState
  | ⟨n, fr, st, nx⟩, o => ⟨n, fr, (nx, o) :: st, nx + 1⟩
/-- A new object, and its number. -/
def AState.new : AState → Ob → (AState → Nat → Prop) → Prop
  | ⟨n, fr, st, nx⟩, o, K => K ⟨n, fr, (nx, o) :: st, nx + 1⟩ nx

/-- The fence that keeps nobody out, in a round or not. -/
def fence (rd : Option Nat) : Fence := { Fence.wide with round := rd }

/-- Semantics: one operation, a piece of code, a call. -/
structure AWp (P : Program) (C : Ctx) (c : Code) (s : AState) (Q : Exit → AState → Prop) : Prop where
  run : ∀ a w, ARel C s a w → c.wpIn (fence C.rd) 0 P (fun e a' w' => ∃ s', ARel C s' a' w' ∧ Q e s') a w

def Enters (P : Program) (f : FuncId) : Prop := ∃ fn, P.funcs[f]? = some fn ∧ fn.body.isNone = false ∧ (fn.name == "runtime.NumGoroutine") = false

def eStore (P : Program) (s : AState) (t : TypeId) (x v : AVal) (K : AState → Prop) : Prop :=
  match x with
  | .optr j off =>
    match getO s.st j with
    | some (.row k e xs) =>
      (match v with
      | .d (.int k' n) => k' = k ∧ szT P t = some 1 ∧ off < xs.length ∧ K (s.withSt (setO j (.row k e (xs.set off n)) s.st))
      | .d (.agg ds) => ∃ ns : List Int, ds = ns.map (D.int k) ∧ szT P t = some ns.length ∧ 0 < ns.length ∧ off + ns.length ≤ xs.length ∧ K (s.withSt (setO j (.row k e (xs.take off ++ ns ++ xs.drop (off + ns.length))) s.st))
      | _ => False)
    | some (.rowD e sz es) =>
      (match dv v with
      | some y => sz = 1 ∧ szT P t = some 1 ∧ y.isAgg = false ∧ off < es.length ∧ K (s.withSt (setO j (.rowD e sz (es.set off y)) s.st))
      | none => False)
    | some (.cell e cs) =>
      (match cellsV v with
      | some us => szT P t = some us.length ∧ off + us.length ≤ cs.length ∧ K (s.withSt (setO j (.cell e (cs.take off ++ us ++ cs.drop (off + us.length))) s.st))
      | none => False)
    | none => False
  | _ => False

def intsOf (k : IntKind) : List D → Option (List Int)
  | [] => some []
  | .int k' n :: r => if k' = k then (match intsOf k r with
    | some ns => some (n :: ns)
    | none => none) else none
  | _ => none

def zeroD (P : Program) (e : TypeId) : D := constT P 6 e ((((P.info? e).bind (·.zero)).map (·.cells.toList)).getD [])

def eMake (P : Program) (s : AState) (t : TypeId) (l c : AVal) (K : AState → AVal → Prop) : Prop :=
  match P.underlying t, l, c with
  | some (.slice e), .d (.int _ n), .d (.int _ m) => n = m ∧ 0 ≤ n ∧ n ≤ 1073741824 ∧
    (match P.info? e with
    | some i => i.bytes ≤ 256 ∧
      (match P.underlying e with
      | some (.int k) => i.zero = some (.int k 0) ∧ i.size = 1 ∧ (s.new (.row k e (List.replicate n.toNat 0)) fun s' j => K s' (.own j))
      | _ =>
        match i.zero with
        | some z => 0 < i.size ∧ (zeroD P e).size = i.size ∧ z.cells.size = i.size ∧ repCB (zeroD P e) z.cells.toList = true ∧ (s.new (.rowD e i.size (List.replicate n.toNat (zeroD P e))) fun s' j => K s' (.own j))
        | none => False)
    | none => False)
  | _, _, _ => False

theorem madeCells_one (z : Value) (n : Nat) : (madeCells #[z] n).toList = List.replicate n z := by
  unfold madeCells
  apply List.ext_getElem?
  intro i
  simp only [Array.toList_map, Array.toList_range, List.getElem?_map, List.getElem?_replicate]
  by_cases h : i < n <;> simp [h, Nat.mod_one]

theorem madeCells_many (z : Array Value) : ∀ (n : Nat), 0 < z.size → (madeCells z (n * z.size)).toList = (List.replicate n z.toList).flatten
  | 0, _ => by simp [madeCells]
  | n + 1, hz => by
    have ih := madeCells_many z n hz
    unfold madeCells at ih ⊢
    simp only [Array.toList_map, Array.toList_range] at ih ⊢
    rw [show (n + 1) * z.size = z.size + n * z.size by rw [Nat.add_mul]; omega, List.range_add, List.map_append, List.map_map, List.replicate_succ, List.flatten_cons, ← ih]
    congr 1
    · apply List.ext_getElem?
      intro i
      by_cases h : i < z.size
      · simp [h, Nat.mod_eq_of_lt h]
      · simp [h]
    · apply List.map_congr_left
      intro i _
      simp

theorem RepAll_replicate {w : World} {S : Nat → Prop} {d : D} {cs : List Value} (h : Rep w S d cs) : ∀ n, RepAll w S (List.replicate n d) (List.replicate n cs).flatten
  | 0 => by simp [RepAll]
  | n + 1 => by
    simp only [List.replicate_succ, List.flatten_cons, RepAll]
    exact ⟨_, _, rfl, h, RepAll_replicate h n⟩

section
variable {P : Program} {C : Ctx} {s : AState} {β : Nat → Option Value} {S : Nat → Prop} {a : Act} {w : World}

theorem grown_alloc (w : World) (o : Obj) : w.grownBy (w.alloc o) none :=
  ⟨rfl, rfl, rfl, by simp, fun k hk _ => Below.heap_alloc _ _ _ hk⟩

/-- A new block of cells is a new owned object. -/
theorem ARelB.alloc_row (h : ARelB C s β S a w) {k : IntKind} {e : TypeId} {xs : List Int} {n cap : Nat} {cur : Array Value} (hx : xs.length = n) (hc : n ≤ cap) (hm : cap ≤ maxLen) (hL : n ≤ LIM) (hcur : cur.size = cap)
    (htake : cur.toList.take n = xs.map (Value.int k)) (hwf : ∀ x ∈ xs, k.wrap x = x) :
    ARelB C (s.newO (.row k e xs)) (updO β s.nx (.slice (some ⟨w.heap.size, 0, none⟩) n cap)) S a (w.alloc (.cells cur e)) := by
  refine h.fresh (grown_alloc _ _) (fun b hb => ?_) ?_
  · simp only [blk] at hb
    split at hb
    · cases hb
    · injection hb with hb; subst hb; simp
  · simp only [ORel]
    refine ⟨?_, hwf, by omega⟩
    by_cases h0 : cap = 0
    · refine .inl ⟨some ⟨w.heap.size, 0, none⟩, ?_, by omega, ?_⟩
      · rw [h0]; congr 1; omega
      · have : xs = [] := List.eq_nil_of_length_eq_zero (by omega)
        simp [this]
    · refine .inr ⟨w.heap.size, cap, cur, by rw [hx], by omega, heap_alloc_new w _, by omega, hm, by simpa using hcur, by simp, ?_⟩
      rw [hx]; simpa using htake

/-- What a step that may change the world comes to. -/
def Does (P : Program) (C : Ctx) (a : Act) (w : World) (m : Sem Value) (K : AState → AVal → Prop) : Prop :=
  ∃ v w' s' r β', m.run P w = .ok v w' ∧ ∃ S', ARelB C s' β' S' a w' ∧ VRel w' β' S' r v ∧ K s' r

/-- The same, where nothing that stood there is turned. -/
def DoesX (P : Program) (C : Ctx) (a : Act) (w : World) (m : Sem Value) (K : AState → AVal → Prop) : Prop :=
  ∃ v w' s' r β', m.run P w = .ok v w' ∧ Ext w w' ∧ ∃ S', ARelB C s' β' S' a w' ∧ VRel w' β' S' r v ∧ K s' r
theorem Ext.alloc (w : World) (o : Obj) : Ext w (w.alloc o) := fun _ h => Below.heap_alloc _ _ _ h

theorem eMake_sound (h : ARelB C s β S a w) {t : TypeId} {l c : AVal} {lv cv : Value} {K : AState → AVal → Prop} (hl : VRel w β S l lv) (hc : VRel w β S c cv) (hq : eMake P s t l c K) :
    DoesX P C a w (Instr.makeSlice t lv cv) K := by
  unfold eMake at hq
  split at hq
  · rename_i e k n k' m hu
    obtain ⟨rfl, h0, hn, hq⟩ := hq
    obtain ⟨rfl, _⟩ := d_int hl
    obtain ⟨rfl, _⟩ := d_int hc
    split at hq
    · rename_i i hi
      obtain ⟨hb, hq⟩ := hq
      have hbytes : (i.bytes : Int) * n ≤ 281474976710656 := by
        have h1 : (i.bytes : Int) ≤ 256 := by omega
        have h2 : (i.bytes : Int) * n ≤ 256 * n := Int.mul_le_mul_of_nonneg_right h1 h0
        omega
      have hmax : n.toNat ≤ maxLen := by unfold maxLen; omega
      have hlim : n.toNat ≤ LIM := by unfold LIM; omega
      split at hq
      · rename_i k0 hk
        obtain ⟨hz, hsz, hK⟩ := hq
        have hrun := run_make (P := P) w t e i (.int k0 0) hu hi hz k k' n n h0 (Int.le_refl _) hbytes (by omega)
        rw [hsz, Nat.mul_one] at hrun
        have hmc := madeCells_one (.int k0 0) n.toNat
        refine ⟨_, _, _, .own s.nx, updO β s.nx (.slice (some ⟨w.heap.size, 0, none⟩) n.toNat n.toNat), hrun, Ext.alloc _ _, S, ?_, ?_, hK⟩
        · refine h.alloc_row (k := k0) (e := e) (xs := List.replicate n.toNat 0) (by simp) (Nat.le_refl _) hmax hlim ?_ ?_ ?_
          · exact size_madeCells _ _
          · simp only [Value.cells, hmc]; simp
          · intro x hx; rw [(List.mem_replicate.1 hx).2, wrap_in]; cases k0 <;> simp [loK, hiK]
        · simp only [VRel, updO, if_true]
      · split at hq
        · rename_i z hz
          obtain ⟨hpos, hds, hzs, hrep, hK⟩ := hq
          replace hrep := repCB_ok _ _ hrep
          have hrun := run_make (P := P) w t e i z hu hi hz k k' n n h0 (Int.le_refl _) hbytes (by omega)
          rw [← hzs] at hrun hpos hds
          have hmc := madeCells_many z.cells n.toNat hpos
          have hlen : (madeCells z.cells (n.toNat * z.cells.size)).size = n.toNat * z.cells.size := size_madeCells _ _
          refine ⟨_, _, _, .own s.nx, updO β s.nx (.slice (some ⟨w.heap.size, 0, none⟩) n.toNat n.toNat), hrun, Ext.alloc _ _, S, ?_, ?_, hK⟩
          · refine h.fresh (grown_alloc _ _) (fun b hb => ?_) ?_
            · simp only [blk] at hb
              split at hb
              · cases hb
              · injection hb with hb; subst hb; simp
            · simp only [ORel, ← hzs]
              refine ⟨(madeCells z.cells (n.toNat * z.cells.size)).toList, ?_, ?_, fun e he => ?_, by simpa using hlim, hpos⟩
              · by_cases h00 : n.toNat = 0
                · exact .inl ⟨some ⟨w.heap.size, 0, none⟩, by rw [h00], by simp [h00], by simp [h00, madeCells]⟩
                · refine .inr ⟨w.heap.size, n.toNat, _, by simp, by omega, heap_alloc_new w _, by simp, hmax, hlen, by simp [hlen], ?_⟩
                  rw [List.take_of_length_le (by simp [hlen])]
              · rw [hmc]; exact RepAll_replicate (RepC.rep _ _ hrep) _
              · rw [(List.mem_replicate.1 he).2]; exact hds
          · simp only [VRel, updO, if_true]
        · exact hq.elim
    · exact hq.elim
  · exact hq.elim

/-! ### Stores -/
theorem storeAt_run {w : World} {t : TypeId} {b o : Nat} {v u : Value} (h1 : v.oneCell' = true) (hc : v.cells = #[v]) (hsz : szT P t = some 1) (hcell : w.cell? ⟨b, o, none⟩ = some u) (hf : w.frozen? ⟨b, o, none⟩ = false) :
    (Instr.storeAt t (.pointer (some ⟨b, o, none⟩)) v).run P w = .ok () (w.setCell ⟨b, o, none⟩ v) := by
  simp only [Instr.storeAt, Instr.sureAddr, Sem.run_bind, Sem.run_pure, Result.andThen_ok, storeVar, run_sizeT hsz, hc, List.size_toArray, List.length_cons, List.length_nil]
  simp only [Nat.zero_add, ne_eq, not_true_eq_false, if_false, storeCells, Sem.run_bind, addr_add, Nat.add_zero, run_store _ _ _ _ _ h1, stored, hcell, hf]
  simp

theorem grown_set (w : World) (b o : Nat) (v : Value) : w.grownBy (w.setCell ⟨b, o, none⟩ v) (some b) :=
  ⟨rfl, rfl, rfl, by simp [World.setCell], fun k _ hne => Below.heap_setCell _ _ _ _ (fun e => hne (by rw [e]))⟩

theorem heap_set {w : World} {b o : Nat} {v : Value} {cur : Array Value} {t : TypeId} {fz : Nat × Nat} (h : w.heap[b]? = some (.cells cur t fz)) :
    (w.setCell ⟨b, o, none⟩ v).heap[b]? = some (.cells (cur.setIfInBounds o v) t fz) := by
  simp [World.setCell, Array.getElem?_modify, h]

theorem take_set_lt {l : List Value} {i n : Nat} {v : Value} : (l.set i v).take n = (l.take n).set i v := by
  rw [List.take_set]

theorem ownsV_store {w : World} {t : TypeId} {v : Value} {n : Nat} {vs : List Value} (h : OwnsV w t 1 v n vs) {i : Nat} (hi : i < n) (u : Value) :
    ∃ g cap cur, v = .slice (some ⟨g, 0, none⟩) n cap ∧ blk v = some g ∧ w.heap[g]? = some (.cells cur t (0, 0)) ∧ i < cur.size ∧ OwnsV (w.setCell ⟨g, i, none⟩ u) t 1 v n (vs.set i u) := by
  rcases h with ⟨A, _, h0, _⟩ | ⟨g, cap, cur, e, hc, hh, hle, hm, hz, hl, ht⟩
  · omega
  · refine ⟨g, cap, cur, e, by rw [e]; simp [blk]; omega, hh, by omega, .inr ⟨g, cap, cur.setIfInBounds i u, e, hc, heap_set hh, hle, hm, by simpa using hz, by simpa using hl, ?_⟩⟩
    rw [Array.toList_setIfInBounds, take_set_lt, ht]

theorem ownsV_many {w w' : World} {t : TypeId} {v : Value} {n o : Nat} {vs us : List Value} {g : Nat} {cur cur' : Array Value} (h : OwnsV w t 1 v n vs) (hg : blk v = some g) (hn : n = vs.length) (hh : w.heap[g]? = some (.cells cur t (0, 0)))
    (hh' : w'.heap[g]? = some (.cells cur' t (0, 0))) (hs : cur'.size = cur.size) (hl : cur'.toList = cur.toList.take o ++ us ++ cur.toList.drop (o + us.length)) (hle : o + us.length ≤ n) :
    OwnsV w' t 1 v n (vs.take o ++ us ++ vs.drop (o + us.length)) := by
  rcases h with ⟨A, rfl, _⟩ | ⟨g2, cap, cur2, e, hc, hh2, hle2, hm, hz, hl2, ht⟩
  · cases A <;> simp [blk] at hg
  · subst e
    have : g2 = g := by
      simp only [blk] at hg
      rw [if_neg (by omega)] at hg
      injection hg
    subst this
    rw [hh] at hh2
    injection hh2 with hh2
    injection hh2 with hh2
    subst hh2
    refine .inr ⟨g2, cap, cur', rfl, hc, hh', hle2, hm, by rw [hs]; exact hz, ?_, ?_⟩
    · simp; omega
    · rw [Nat.mul_one] at ht ⊢
      rw [hl, ← ht]
      have hcl : cur.toList.length = cap := by simpa using hz
      have a1 : (cur.toList.take o ++ us).length = o + us.length := by simp; omega
      rw [List.take_append, a1, List.take_of_length_le (l := cur.toList.take o ++ us) (by omega), List.take_take, Nat.min_eq_left (by omega), List.drop_take]

theorem cell_of {w : World} {g i : Nat} {cur : Array Value} {t : TypeId} {fz : Nat × Nat} (h : w.heap[g]? = some (.cells cur t fz)) (hi : i < cur.size) : ∃ u, w.cell? ⟨g, i, none⟩ = some u :=
  ⟨cur[i], by simp [World.cell?, h, hi]⟩

theorem unfrozen {w : World} {g i : Nat} {cur : Array Value} {t : TypeId} (h : w.heap[g]? = some (.cells cur t (0, 0))) : w.frozen? ⟨g, i, none⟩ = false := by simp [World.frozen?, h]

theorem rep_oneCell {w : World} {S : Nat → Prop} {y : D} {cs : List Value} (h : Rep w S y cs) (hy : y.isAgg = false) : ∃ u, cs = [u] ∧ u.oneCell' = true ∧ u.cells = #[u] := by
  cases y <;> simp only [Rep, D.isAgg] at h hy
  case int k n => exact ⟨_, h.1, rfl, rfl⟩
  case bool b => exact ⟨_, h, rfl, rfl⟩
  case str xs => obtain ⟨s, h, _⟩ := h; exact ⟨_, h, rfl, rfl⟩
  case raw v =>
    obtain ⟨h1, h2⟩ := h
    refine ⟨_, h1, ?_, ?_⟩ <;> cases v <;> simp_all [plainV, Value.oneCell', Value.cells]
  case ints k xs => obtain ⟨A, c, h, _⟩ := h; exact ⟨_, h, rfl, rfl⟩
  case sl sz es => obtain ⟨A, c, h, _⟩ := h; exact ⟨_, h, rfl, rfl⟩
  case ptr d => obtain ⟨b, o, h, _⟩ := h; exact ⟨_, h, rfl, rfl⟩
  case nilp => exact ⟨_, h, rfl, rfl⟩
  case agg ds => cases hy
  case fn f caps => obtain ⟨vs, h, _⟩ := h; exact ⟨_, h, rfl, rfl⟩

theorem RepAll_set {w : World} {S : Nat → Prop} : ∀ {es : List D} {vs : List Value} {i : Nat} {y : D} {u : Value}, (∀ e ∈ es, e.size = 1) → RepAll w S es vs → Rep w S y [u] → RepAll w S (es.set i y) (vs.set i u)
  | [], vs, i, y, u, _, h, hy => by simp only [RepAll] at h; subst h; simp [RepAll]
  | e :: es, vs, i, y, u, h1, h, hy => by
    simp only [RepAll] at h
    obtain ⟨c1, c2, rfl, h2, h3⟩ := h
    have hs := Rep.size _ _ h2
    rw [h1 e (by simp)] at hs
    match c1, hs with
    | [x], _ =>
      cases i with
      | zero => simp only [List.set_cons_zero, List.cons_append, List.nil_append, RepAll]; exact ⟨[u], c2, rfl, hy, h3⟩
      | succ i =>
        simp only [List.set_cons_succ, List.cons_append, List.nil_append, RepAll]
        exact ⟨[x], _, rfl, h2, RepAll_set (fun a ha => h1 a (List.mem_cons_of_mem _ ha)) h3 hy⟩

/-- What a store comes to. -/
def DoesU (P : Program) (C : Ctx) (a : Act) (w : World) (m : Sem Unit) (K : AState → Prop) : Prop :=
  ∃ w' s', m.run P w = .ok () w' ∧ ARel C s' a w' ∧ K s'

theorem VAll.append {w : World} {β : Nat → Option Value} {S : Nat → Prop} : ∀ {xs ys : List AVal} {as bs : List Value}, VAll w β S xs as → VAll w β S ys bs → VAll w β S (xs ++ ys) (as ++ bs)
  | [], ys, as, bs, h1, h2 => by simp only [VAll] at h1; subst h1; simpa using h2
  | x :: xs, ys, as, bs, h1, h2 => by
    simp only [VAll] at h1
    obtain ⟨v, r, rfl, h3, h4⟩ := h1
    simp only [List.cons_append, VAll]
    exact ⟨v, _, rfl, h3, VAll.append h4 h2⟩

theorem VAll.splice {w : World} {β : Nat → Option Value} {S : Nat → Prop} {cs us : List AVal} {vs ws : List Value} (h : VAll w β S cs vs) (hu : VAll w β S us ws) (off : Nat) :
    VAll w β S (cs.take off ++ us ++ cs.drop (off + us.length)) (vs.take off ++ ws ++ vs.drop (off + us.length)) := by
  have h1 : VAll w β S (cs.take off) (vs.take off) := by simpa using VAll.sub cs vs h 0 off
  have h2 : VAll w β S (cs.drop (off + us.length)) (vs.drop (off + us.length)) := by
    have := VAll.sub cs vs h (off + us.length) cs.length
    rwa [List.take_of_length_le (by simp), List.take_of_length_le (by simp [VAll.length _ _ h])] at this
  exact VAll.append (VAll.append h1 hu) h2

theorem one_rep {w : World} {β : Nat → Option Value} {S : Nat → Prop} {d : D} {cs : List Value} (h : Rep w S d cs) (hd : d.isAgg = false) (hf : flatD d = [d]) : VAll w β S ((flatD d).map .d) cs := by
  obtain ⟨u, rfl, _⟩ := rep_oneCell h hd
  rw [hf]
  simp only [List.map_cons, List.map_nil, VAll, VRel]
  exact ⟨u, [], rfl, ⟨[u], h, by rw [packD_one hd]; rfl⟩, rfl⟩

mutual
theorem flat_rep {w : World} {β : Nat → Option Value} {S : Nat → Prop} : ∀ (d : D) (cs : List Value), Rep w S d cs → VAll w β S ((flatD d).map .d) cs
  | .agg ds, cs, h => by simp only [Rep] at h; simp only [flatD]; exact flats_rep ds cs h
  | .int k n, cs, h => one_rep h rfl rfl
  | .bool b, cs, h => one_rep h rfl rfl
  | .str xs, cs, h => one_rep h rfl rfl
  | .raw v, cs, h => one_rep h rfl rfl
  | .ints k xs, cs, h => one_rep h rfl rfl
  | .sl sz es, cs, h => one_rep h rfl rfl
  | .ptr d, cs, h => one_rep h rfl rfl
  | .nilp, cs, h => one_rep h rfl rfl
  | .fn f caps, cs, h => one_rep h rfl rfl
theorem flats_rep {w : World} {β : Nat → Option Value} {S : Nat → Prop} : ∀ (ds : List D) (cs : List Value), RepAll w S ds cs → VAll w β S ((flatDs ds).map .d) cs
  | [], cs, h => by simp only [RepAll] at h; simp only [flatDs, List.map_nil, VAll]; exact h
  | d :: ds, cs, h => by
    simp only [RepAll] at h
    obtain ⟨c1, c2, rfl, h1, h2⟩ := h
    have e1 := flat_rep (β := β) d c1 h1
    have e2 := flats_rep (β := β) ds c2 h2
    simp only [flatDs, List.map_append]
    exact VAll.append e1 e2
end
end
end Go.Proofs.YtniaeiikdgbnfaaDoor.AW
namespace Go.Proofs.YtniaeiikdgbnfaaDoor.AW
open Go Go.RowKit
set_option linter.unusedSectionVars false
variable [Globs]

def oneV (st : List (Nat × Ob)) : AVal → Bool
  | .d x => !x.isAgg
  | .em _ | .nls _ | .view .. | .optr .. | .ofn .. => true
  | .own j => (getO st j).isSome
  | _ => false

section
variable {P : Program} {C : Ctx} {s : AState} {β : Nat → Option Value} {S : Nat → Prop} {a : Act} {w : World}

theorem ownsV_slice {w : World} {t : TypeId} {sz : Nat} {v : Value} {n : Nat} {vs : List Value} (h : OwnsV w t sz v n vs) : ∃ A c, v = .slice A n c := by
  rcases h with ⟨A, e1, e2, _⟩ | ⟨g, cap, cur, e1, _⟩
  · exact ⟨A, 0, by rw [e1, e2]⟩
  · exact ⟨_, cap, e1⟩

theorem oneV_cell (h : ARelB C s β S a w) {x : AVal} {v : Value} (hx : VRel w β S x v) (h1 : oneV s.st x = true) : v.oneCell' = true ∧ v.cells = #[v] := by
  cases x <;> simp only [oneV] at h1
  case d y =>
    simp only [VRel] at hx
    obtain ⟨cs, hr, rfl⟩ := hx
    have hy : y.isAgg = false := by simpa using h1
    obtain ⟨u, rfl, h2, h3⟩ := rep_oneCell hr hy
    rw [packD_one hy]
    exact ⟨h2, h3⟩
  case em y => simp only [VRel] at hx; obtain ⟨⟨A, rfl⟩, _⟩ := hx; exact ⟨rfl, rfl⟩
  case nls y => simp only [VRel] at hx; obtain ⟨rfl, _⟩ := hx; exact ⟨rfl, rfl⟩
  case own j =>
    obtain ⟨o, ho⟩ := Option.isSome_iff_exists.1 h1
    obtain ⟨bv, hβ0, hob⟩ := h.st.obj j _ (getO_mem ho)
    simp only [VRel] at hx
    rw [hβ0] at hx; injection hx with hx; subst hx
    cases o <;> simp only [ORel] at hob
    · obtain ⟨A, c, rfl⟩ := ownsV_slice hob.1; exact ⟨rfl, rfl⟩
    · obtain ⟨vs, hv, _⟩ := hob; obtain ⟨A, c, rfl⟩ := ownsV_slice hv; exact ⟨rfl, rfl⟩
    · obtain ⟨b, vs, rfl, _⟩ := hob; exact ⟨rfl, rfl⟩
  case view j o l => simp only [VRel] at hx; obtain ⟨A, c, rfl, _⟩ := hx; exact ⟨rfl, rfl⟩
  case optr j o => simp only [VRel] at hx; obtain ⟨b, _, rfl⟩ := hx; exact ⟨rfl, rfl⟩
  case ofn f cs => simp only [VRel] at hx; obtain ⟨vs, rfl, _⟩ := hx; exact ⟨rfl, rfl⟩
  all_goals cases h1

theorem oneV_cells (h : ARelB C s β S a w) : ∀ {xs : List AVal} {vs : List Value}, VAll w β S xs vs → xs.all (oneV s.st) = true → ∀ v ∈ vs, v.oneCell' = true
  | [], vs, hx, _ => by simp only [VAll] at hx; subst hx; simp
  | x :: xs, vs, hx, h1 => by
    simp only [VAll] at hx
    obtain ⟨v, r, rfl, h2, h3⟩ := hx
    simp only [List.all_cons, Bool.and_eq_true] at h1
    intro u hu
    rcases List.mem_cons.1 hu with rfl | hu
    · exact (oneV_cell h h2 h1.1).1
    · exact oneV_cells h h3 h1.2 u hu

/-- A value's cells. -/
theorem cellsV_rel (h : ARelB C s β S a w) {x : AVal} {v : Value} (hx : VRel w β S x v) {us : List AVal} (hc : cellsV x = some us) (h1 : us.all (oneV s.st) = true) : VAll w β S us v.cells.toList := by
  cases x <;> simp only [cellsV] at hc
  case d y =>
    injection hc with hc; subst hc
    simp only [VRel] at hx
    obtain ⟨cs, hr, rfl⟩ := hx
    cases hy : y.isAgg with
    | true =>
      cases y <;> simp [D.isAgg] at hy
      simpa [packD, Value.cells] using flat_rep (β := β) _ _ hr
    | false =>
      obtain ⟨u, rfl, _, h3⟩ := rep_oneCell hr hy
      rw [packD_one hy]
      simp only [List.headD_cons, h3]
      exact flat_rep (β := β) _ _ hr
  case ag _ cs =>
    injection hc with hc; subst hc
    simp only [VRel] at hx
    obtain ⟨vs, rfl, hv⟩ := hx
    exact hv
  all_goals first
    | (injection hc with hc; subst hc
       simp only [List.all_cons, List.all_nil, Bool.and_true] at h1
       rw [(oneV_cell h hx h1).2]
       simp only [VAll]
       exact ⟨_, _, rfl, hx, rfl⟩)
    | (cases hc)

theorem heap_setCells {b : Nat} {t : TypeId} {fz : Nat × Nat} : ∀ (vs : List Value) (o : Nat) (w : World) (cur : Array Value), w.heap[b]? = some (.cells cur t fz) → o + vs.length ≤ cur.size →
    ∃ cur' : Array Value, (w.setCells b o vs).heap[b]? = some (.cells cur' t fz) ∧ cur'.toList = cur.toList.take o ++ vs ++ cur.toList.drop (o + vs.length) ∧ cur'.size = cur.size
  | [], o, w, cur, h, _ => ⟨cur, h, by simp, rfl⟩
  | v :: vs, o, w, cur, h, hl => by
    simp only [List.length_cons] at hl
    obtain ⟨cur', h1, h2, h3⟩ := heap_setCells vs (o + 1) (w.setCell ⟨b, o, none⟩ v) (cur.setIfInBounds o v) (heap_set h) (by simp; omega)
    refine ⟨cur', h1, ?_, by simpa using h3⟩
    rw [h2, Array.toList_setIfInBounds]
    have hlt : o < cur.toList.length := by simp; omega
    rw [List.drop_set_of_lt (by omega)]
    have : (cur.toList.set o v).take (o + 1) = cur.toList.take o ++ [v] := by
      rw [List.take_set, List.take_succ_eq_append_getElem hlt, List.set_append_right _ _ (by simp; omega)]
      have : o - min o cur.size = 0 := by simp at hlt; omega
      simp [this]
    rw [this]
    simp only [List.length_cons, List.append_assoc, List.cons_append, List.nil_append]
    rw [show o + 1 + vs.length = o + (vs.length + 1) by omega]

theorem grown_setCells (b : Nat) : ∀ (vs : List Value) (o : Nat) (w : World), w.grownBy (w.setCells b o vs) (some b)
  | [], o, w => World.grownBy.refl w _
  | v :: vs, o, w => by
    have h1 := grown_set w b o v
    have h2 := grown_setCells b vs (o + 1) (w.setCell ⟨b, o, none⟩ v)
    exact ⟨h2.os.trans h1.os, h2.tape.trans h1.tape, h2.output.trans h1.output, Nat.le_trans h1.size h2.size, fun k hk hne => (h2.block k (Nat.lt_of_lt_of_le hk h1.size) hne).trans (h1.block k hk hne)⟩

theorem storeCells_run {w : World} {b o : Nat} {vs : List Value} {cur : Array Value} {t : TypeId} (h : w.heap[b]? = some (.cells cur t (0, 0))) (hl : o + vs.length ≤ cur.size) (h1 : ∀ v ∈ vs, v.oneCell' = true) :
    (storeCells ⟨b, o, none⟩ vs).run P w = .ok () (w.setCells b o vs) := by
  have := run_storeCells_cells (P := P) b o vs 0 w (fun j hj => ?_) (fun j _ => unfrozen h) h1
  · simpa using this
  · obtain ⟨u, hu⟩ := cell_of h (i := o + 0 + j) (by omega)
    rw [hu]; rfl

theorem repInts_inv {w : World} {S : Nat → Prop} {k : IntKind} : ∀ {xs : List Int} {cs : List Value}, RepAll w S (xs.map (D.int k)) cs → cs = xs.map (Value.int k) ∧ ∀ x ∈ xs, k.wrap x = x
  | [], cs, h => by simp only [List.map_nil, RepAll] at h; exact ⟨by simpa using h, by simp⟩
  | x :: xs, cs, h => by
    simp only [List.map_cons, RepAll, Rep] at h
    obtain ⟨c1, c2, rfl, ⟨rfl, h2⟩, h3⟩ := h
    have ih := repInts_inv h3
    refine ⟨by simp [ih.1], fun y hy => ?_⟩
    rcases List.mem_cons.1 hy with rfl | hy
    · exact h2
    · exact ih.2 y hy

theorem eStore_sound (h : ARelB C s β S a w) {t : TypeId} {x y : AVal} {u v : Value} {K : AState → Prop} (hx : VRel w β S x u) (hy : VRel w β S y v)
    (hone : ∀ us, cellsV y = some us → us.all (oneV s.st) = true) (hq : eStore P s t x y K) : DoesU P C a w (Instr.storeAt t u v) K := by
  unfold eStore at hq
  split at hq
  · rename_i j off
    simp only [VRel] at hx
    obtain ⟨b, hb, rfl⟩ := hx
    split at hq
    · rename_i k e xs ho
      obtain ⟨bv, hβ0, hob⟩ := h.st.obj j _ (getO_mem ho)
      simp only [ORel] at hob
      split at hq
      · rename_i k' n
        obtain ⟨rfl, hsz, hlt, hK⟩ := hq
        obtain ⟨rfl, hwn⟩ := d_int hy
        obtain ⟨g, cap, cur, e1, hbg, hh, hi, hown'⟩ := ownsV_store hob.1 hlt (.int k' n)
        rw [hβ0, Option.bind_some, hbg] at hb; injection hb with hb; subst hb
        obtain ⟨c, hc⟩ := cell_of hh hi
        refine ⟨_, _, storeAt_run rfl rfl hsz hc (unfrozen hh), ⟨β, S, h.touch (o' := .row k' e (xs.set off n)) (getO_mem ho) hβ0 (by rw [hbg]; exact grown_set _ _ _ _) ?_⟩, hK⟩
        simp only [ORel]
        refine ⟨by simpa using hown', fun z hz => ?_, by simpa using hob.2.2⟩
        rcases List.mem_or_eq_of_mem_set hz with hz | rfl
        · exact hob.2.1 z hz
        · exact hwn
      · rename_i ds
        obtain ⟨ns, rfl, hsz, hpos, hle, hK⟩ := hq
        simp only [VRel, Rep] at hy
        obtain ⟨cs, hall, rfl⟩ := hy
        obtain ⟨rfl, hwn⟩ := repInts_inv hall
        obtain ⟨g, cap, cur, e1, hbg, hh, hi, _⟩ := ownsV_store hob.1 (show 0 < xs.length by omega) (.int k 0)
        rw [hβ0, Option.bind_some, hbg] at hb; injection hb with hb; subst hb
        have hcap : xs.length ≤ cur.size := by
          rcases hob.1 with ⟨A, e2, h0, _⟩ | ⟨g2, cap2, cur2, e2, hc, hh2, hle2, hm, hz, hl2, ht⟩
          · omega
          · rw [e1] at e2
            injection e2 with e2 e3 e4
            injection e2 with e2
            injection e2 with e2
            subst e2
            rw [hh] at hh2
            injection hh2 with hh2
            injection hh2 with hh2
            subst hh2
            omega
        have hfit : off + (ns.map (Value.int k)).length ≤ cur.size := by simp; omega
        obtain ⟨v, hv⟩ : ∃ v, v = packD (.agg (ns.map (D.int k))) (ns.map (Value.int k)) := ⟨_, rfl⟩
        have hcs : v.cells.toList = ns.map (Value.int k) := by rw [hv]; simp [packD, Value.cells]
        have hrun : (Instr.storeAt t (.pointer (some ⟨g, off, none⟩)) v).run P w = .ok () (w.setCells g off (ns.map (Value.int k))) := by
          rw [← hcs] at hfit ⊢
          simp only [Instr.storeAt, Instr.sureAddr, Sem.run_bind, Sem.run_pure, Result.andThen_ok, storeVar, run_sizeT hsz]
          rw [if_neg (by have := congrArg List.length hcs; simpa using this)]
          exact storeCells_run hh hfit (fun v hv => by
            rw [hcs] at hv
            obtain ⟨n, _, rfl⟩ := List.mem_map.1 hv
            rfl)
        rw [hv] at hrun
        obtain ⟨cur', hh', hl', hs'⟩ := heap_setCells (ns.map (Value.int k)) off w cur hh hfit
        refine ⟨_, _, hrun, ⟨β, S, h.touch (o' := .row k e (xs.take off ++ ns ++ xs.drop (off + ns.length))) (getO_mem ho) hβ0 (by rw [hbg]; exact grown_setCells _ _ _ _) ?_⟩, hK⟩
        simp only [ORel]
        refine ⟨?_, fun z hz => ?_, by have := hob.2.2; simp; omega⟩
        · have := ownsV_many hob.1 hbg (by simp) hh hh' hs' hl' (by simpa using hle)
          have el : (xs.take off ++ ns ++ xs.drop (off + ns.length)).length = xs.length := by simp; omega
          rw [el]
          simpa [List.map_take, List.map_drop] using this
        · rcases List.mem_append.1 hz with hz | hz
          · rcases List.mem_append.1 hz with hz | hz
            · exact hob.2.1 z (List.mem_of_mem_take hz)
            · exact hwn z hz
          · exact hob.2.1 z (List.mem_of_mem_drop hz)
      · exact hq.elim
    · rename_i e sz es ho
      obtain ⟨bv, hβ0, hob⟩ := h.st.obj j _ (getO_mem ho)
      simp only [ORel] at hob
      obtain ⟨vs, hown, hall, hsizes, hlim, _⟩ := hob
      split at hq
      · rename_i y' hd
        obtain ⟨rfl, hsz, hagg, hlt, hK⟩ := hq
        obtain ⟨cs, hr, rfl⟩ := dv_rel hy hd
        obtain ⟨uu, rfl, ho1, ho2⟩ := rep_oneCell hr hagg
        rw [packD_one hagg]
        obtain ⟨g, cap, cur, e1, hbg, hh, hi, hown'⟩ := ownsV_store hown hlt uu
        rw [hβ0, Option.bind_some, hbg] at hb; injection hb with hb; subst hb
        obtain ⟨c, hc⟩ := cell_of hh hi
        have hg : w.grownBy (w.setCell ⟨g, off, none⟩ uu) (blk bv) := by rw [hbg]; exact grown_set _ _ _ _
        refine ⟨_, _, storeAt_run ho1 ho2 hsz hc (unfrozen hh), ⟨β, S, h.touch (o' := .rowD e 1 (es.set off y')) (getO_mem ho) hβ0 hg ?_⟩, hK⟩
        have himm := h.imm hg (fun g e => ⟨j, _, getO_mem ho, by rw [hβ0]; exact e⟩)
        simp only [ORel]
        refine ⟨vs.set off uu, by simpa using hown', RepAll.keep himm _ _ (RepAll_set hsizes hall hr), fun z hz => ?_, by simpa using hlim, by omega⟩
        rcases List.mem_or_eq_of_mem_set hz with hz | rfl
        · exact hsizes z hz
        · have := Rep.size _ _ hr; simpa using this.symm
      · exact hq.elim
    · rename_i e cs ho
      obtain ⟨bv, hβ0, hob⟩ := h.st.obj j _ (getO_mem ho)
      simp only [ORel] at hob
      obtain ⟨g, vs, hbv, hh, hall⟩ := hob
      split at hq
      · rename_i us hus
        obtain ⟨hsz, hle, hK⟩ := hq
        have hone' := hone us hus
        have hcells := cellsV_rel h hy hus hone'
        have hlen := VAll.length _ _ hcells
        have hlen2 := VAll.length _ _ hall
        have hbg : blk bv = some g := by rw [hbv]; rfl
        rw [hβ0, Option.bind_some, hbg] at hb; injection hb with hb; subst hb
        have hfit : off + v.cells.toList.length ≤ vs.size := by rw [hlen]; simp at hlen2; omega
        have hrun : (Instr.storeAt t (.pointer (some ⟨g, off, none⟩)) v).run P w = .ok () (w.setCells g off v.cells.toList) := by
          simp only [Instr.storeAt, Instr.sureAddr, Sem.run_bind, Sem.run_pure, Result.andThen_ok, storeVar, run_sizeT hsz]
          rw [if_neg (by simpa using hlen)]
          exact storeCells_run hh hfit (oneV_cells h hcells hone')
        obtain ⟨cur', hh', hl', hs'⟩ := heap_setCells v.cells.toList off w vs hh hfit
        have hg : w.grownBy (w.setCells g off v.cells.toList) (blk bv) := by rw [hbg]; exact grown_setCells _ _ _ _
        refine ⟨_, _, hrun, ⟨β, S, h.touch (o' := .cell e (cs.take off ++ us ++ cs.drop (off + us.length))) (getO_mem ho) hβ0 hg ?_⟩, hK⟩
        have himm := h.imm hg (fun g e => ⟨j, _, getO_mem ho, by rw [hβ0]; exact e⟩)
        simp only [ORel]
        refine ⟨g, cur', hbv, hh', ?_⟩
        rw [hl', hlen]
        exact VAll.keep himm (fun _ _ e => e) _ _ (VAll.splice hall hcells off)
      · exact hq.elim
    · exact hq.elim
  · exact hq.elim

end

def allDv : List AVal → Option (List D)
  | [] => some []
  | x :: r => match dv x, allDv r with
    | some y, some ys => some (y :: ys)
    | _, _ => none

/-- A value as a deep one. -/
def qToD (P : Program) (x : AVal) (K : D → Prop) : Prop :=
  match x with
  | .d y => K y
  | .em y => K y
  | .nls y => K y
  | .ag t cs =>
    match allDv cs with
    | some ds => flatD (asm P 6 t ds) = ds ∧ (asm P 6 t ds).isAgg = true ∧ K (asm P 6 t ds)
    | none => False
  | _ => False

def qToDs (P : Program) : List AVal → (List D → Prop) → Prop
  | [], K => K []
  | x :: r, K => qToD P x fun y => qToDs P r fun ys => K (y :: ys)

/-- A constant's cell, as a slot holds it. -/
def zV : D → AVal
  | .ints k [] => .nls (.ints k [])
  | .sl n [] => .nls (.sl n [])
  | x => .d x

/-- A long array of integers: kept as a row. -/
def longArr (P : Program) (e : TypeId) : Option (IntKind × Nat) :=
  match P.underlying e with
  | some (.array n t) => (match P.underlying t with
    | some (.int k) => if 9 ≤ n then some (k, n) else none
    | _ => none)
  | _ => none

def eAlloc (P : Program) (s : AState) (e : TypeId) (K : AState → AVal → Prop) : Prop :=
  match P.info? e with
  | some i =>
    match i.zero with
    | some z =>
      (match longArr P e with
      | some (k, n) => z.cells.toList = List.replicate n (.int k 0) ∧ 0 < n ∧ n ≤ 1000000 ∧ (s.new (.row k e (List.replicate n 0)) fun s' j => K s' (.optr j 0))
      | none => repCB (zeroD P e) z.cells.toList = true ∧ (s.new (.cell e ((flatD (zeroD P e)).map zV)) fun s' j => K s' (.optr j 0)))
    | none => False
  | none => False

def eBox (s : AState) (e : TypeId) (x : AVal) (K : AState → AVal → Prop) : Prop :=
  match cellsV x with
  | some us => us.all (oneV s.st) = true ∧ (s.new (.cell e us) fun s' j => K s' (.optr j 0))
  | none => False

/-- What an append or a copy reads. -/
inductive Src where
  | i (k : IntKind) (xs : List Int)
  | r (sz : Nat) (es : List D)

def srcD : D → Option Src
  | .ints k xs => some (.i k xs)
  | .sl sz es => some (.r sz es)
  | _ => none

def srcOf (s : AState) : AVal → Option Src
  | .d x => srcD x
  | .em x => srcD x
  | .nls x => srcD x
  | .own j =>
    match getO s.st j with
    | some (.row k _ xs) => some (.i k xs)
    | some (.rowD _ sz es) => some (.r sz es)
    | _ => none
  | .view j off len =>
    match getO s.st j with
    | some (.row k _ xs) => if off + len ≤ xs.length then some (.i k ((xs.drop off).take len)) else none
    | _ => none
  | _ => none

/-- What is read, with what that asks. -/
def qSrc (s : AState) (x : AVal) (K : Src → Prop) : Prop :=
  match x with
  | .d (.ints k xs) => K (.i k xs)
  | .d (.sl sz es) => K (.r sz es)
  | .em (.ints k xs) => K (.i k xs)
  | .em (.sl sz es) => K (.r sz es)
  | .nls (.ints k xs) => K (.i k xs)
  | .nls (.sl sz es) => K (.r sz es)
  | .own j =>
    (match getO s.st j with
    | some (.row k _ xs) => K (.i k xs)
    | some (.rowD _ sz es) => K (.r sz es)
    | _ => False)
  | .view j off len =>
    (match getO s.st j with
    | some (.row k _ xs) => off + len ≤ xs.length ∧ K (.i k ((xs.drop off).take len))
    | _ => False)
  | _ => False

theorem qSrc_spec {s : AState} {x : AVal} {K : Src → Prop} (h : qSrc s x K) : ∃ src, srcOf s x = some src ∧ K src := by
  unfold qSrc at h
  split at h
  · exact ⟨_, rfl, h⟩
  · exact ⟨_, rfl, h⟩
  · exact ⟨_, rfl, h⟩
  · exact ⟨_, rfl, h⟩
  · exact ⟨_, rfl, h⟩
  · exact ⟨_, rfl, h⟩
  · split at h
    · rename_i e; exact ⟨_, by simp only [srcOf, e], h⟩
    · rename_i e; exact ⟨_, by simp only [srcOf, e], h⟩
    · exact h.elim
  · split at h
    · rename_i e; exact ⟨_, by simp only [srcOf, e]; rw [if_pos h.1], h.2⟩
    · exact h.elim
  · exact h.elim

def isEmp : AVal → Bool
  | .em _ | .nls _ => true
  | _ => false

def AState.moved : AState → Nat → Ob → AState
  | ⟨n, fr, st, nx⟩, j, o => ⟨n, fun t => dropV j (fr t), setOd j o st, nx⟩

def eAppend (P : Program) (m : Nat) (s : AState) (t t2 : TypeId) (x y : AVal) (K : AState → AVal → Prop) : Prop :=
  match P.underlying t, P.underlying t2 with
  | some (.slice e), some (.slice _) =>
    (match P.info? e with
    | some i =>
      (match i.zero with
      | some z =>
        z.cells.size = i.size ∧ 1 ≤ i.bytes ∧
        (qSrc s y fun src => match src with
        | .i k ys => i.size = 1 ∧
          (match x with
          | .em _ | .nls _ => ys.length * i.bytes ≤ 140737488355328 ∧ (s.new (.row k e ys) fun s' j => K s' (.own j))
          | .own j =>
            (match getO s.st j with
            | some (.row k' e' xs) => m ≤ j ∧ k' = k ∧ e' = e ∧ (xs.length + ys.length) * i.bytes ≤ 140737488355328 ∧
                K (s.moved j (.row k e (xs ++ ys))) (.own j)
            | _ => False)
          | _ => False)
        | .r sz ys => i.size = sz ∧ 0 < sz ∧ (ys.all fun d => d.size == sz) = true ∧
          (match x with
          | .em _ | .nls _ => ys.length * i.bytes ≤ 140737488355328 ∧ (s.new (.rowD e sz ys) fun s' j => K s' (.own j))
          | .own j =>
            (match getO s.st j with
            | some (.rowD e' sz' xs) => m ≤ j ∧ sz' = sz ∧ e' = e ∧ (xs.length + ys.length) * i.bytes ≤ 140737488355328 ∧
                K (s.moved j (.rowD e sz (xs ++ ys))) (.own j)
            | _ => False)
          | _ => False))
      | none => False)
    | none => False)
  | _, _ => False

def eCopy (P : Program) (s : AState) (t : TypeId) (x y : AVal) (K : AState → AVal → Prop) : Prop :=
  match P.underlying t with
  | some (.slice e) => szT P e = some 1 ∧
    (qSrc s y fun src => match src with
    | .i k ys =>
      (match x with
      | .own j =>
        (match getO s.st j with
        | some (.row k' e' xs) => k' = k ∧
            K (s.withSt (setO j (.row k e' (ys.take xs.length ++ xs.drop ys.length)) s.st)) (.d (.int .i64 (min ys.length xs.length : Nat)))
        | _ => False)
      | .view j off len =>
        (match getO s.st j with
        | some (.row k' e' xs) => k' = k ∧ off + len ≤ xs.length ∧
            K (s.withSt (setO j (.row k e' (xs.take off ++ ys.take len ++ xs.drop (off + min ys.length len))) s.st)) (.d (.int .i64 (min ys.length len : Nat)))
        | _ => False)
      | _ => False)
    | _ => False)
  | _ => False

section
variable {P : Program} {C : Ctx} {s : AState} {β : Nat → Option Value} {S : Nat → Prop} {a : Act} {w : World}

theorem VAll.split : ∀ {xs ys : List AVal} {vs : List Value}, VAll w β S (xs ++ ys) vs → ∃ a b, vs = a ++ b ∧ VAll w β S xs a ∧ VAll w β S ys b
  | [], ys, vs, h => ⟨[], vs, rfl, by simp only [VAll], h⟩
  | x :: xs, ys, vs, h => by
    simp only [List.cons_append, VAll] at h
    obtain ⟨v, r, rfl, h1, h2⟩ := h
    obtain ⟨a, b, rfl, h3, h4⟩ := VAll.split h2
    exact ⟨v :: a, b, rfl, by simp only [VAll]; exact ⟨v, a, rfl, h1, h3⟩, h4⟩

theorem rep_leaf {d : D} {cs : List Value} (h : VAll w β S ((flatD d).map .d) cs) (hd : d.isAgg = false) (hf : flatD d = [d]) : Rep w S d cs := by
  rw [hf] at h
  simp only [List.map_cons, List.map_nil, VAll, VRel] at h
  obtain ⟨v, r, rfl, ⟨cs', hr, rfl⟩, rfl⟩ := h
  obtain ⟨u, rfl, _⟩ := rep_oneCell hr hd
  rw [packD_one hd]
  exact hr

inductive All2 {α β : Type} (R : α → β → Prop) : List α → List β → Prop
  | nil : All2 R [] []
  | cons {x y xs ys} : R x y → All2 R xs ys → All2 R (x :: xs) (y :: ys)

mutual
theorem rep_of_flat : ∀ (d : D) (cs : List Value), VAll w β S ((flatD d).map .d) cs → Rep w S d cs
  | .agg ds, cs, h => by simp only [flatD] at h; simp only [Rep]; exact reps_of_flat ds cs h
  | .int k n, cs, h => rep_leaf h rfl rfl
  | .bool b, cs, h => rep_leaf h rfl rfl
  | .str xs, cs, h => rep_leaf h rfl rfl
  | .raw v, cs, h => rep_leaf h rfl rfl
  | .ints k xs, cs, h => rep_leaf h rfl rfl
  | .sl sz es, cs, h => rep_leaf h rfl rfl
  | .ptr d, cs, h => rep_leaf h rfl rfl
  | .nilp, cs, h => rep_leaf h rfl rfl
  | .fn f caps, cs, h => rep_leaf h rfl rfl
theorem reps_of_flat : ∀ (ds : List D) (cs : List Value), VAll w β S ((flatDs ds).map .d) cs → RepAll w S ds cs
  | [], cs, h => by simp only [flatDs, List.map_nil, VAll] at h; simp only [RepAll]; exact h
  | d :: ds, cs, h => by
    simp only [flatDs, List.map_append] at h
    obtain ⟨c1, c2, rfl, h1, h2⟩ := VAll.split h
    simp only [RepAll]
    exact ⟨c1, c2, rfl, rep_of_flat d c1 h1, reps_of_flat ds c2 h2⟩
end

theorem allDv_rel : ∀ {xs : List AVal} {ds : List D} {vs : List Value}, allDv xs = some ds → VAll w β S xs vs → VAll w β S (ds.map .d) vs
  | [], ds, vs, h, hv => by simp [allDv] at h; subst h; simpa using hv
  | x :: r, ds, vs, h, hv => by
    simp only [VAll] at hv
    obtain ⟨v, q, rfl, h1, h2⟩ := hv
    simp only [allDv] at h
    split at h
    · rename_i y ys e1 e2
      injection h with h; subst h
      simp only [List.map_cons, VAll]
      exact ⟨v, q, rfl, by simp only [VRel]; exact dv_rel h1 e1, allDv_rel e2 h2⟩
    · cases h

theorem qToD_sound {x : AVal} {v : Value} {K : D → Prop} (hx : VRel w β S x v) (hq : qToD P x K) : ∃ y cs, Rep w S y cs ∧ v = packD y cs ∧ K y := by
  unfold qToD at hq
  split at hq
  · obtain ⟨cs, h1, h2⟩ := dv_rel hx rfl; exact ⟨_, cs, h1, h2, hq⟩
  · obtain ⟨cs, h1, h2⟩ := dv_rel hx rfl; exact ⟨_, cs, h1, h2, hq⟩
  · obtain ⟨cs, h1, h2⟩ := dv_rel hx rfl; exact ⟨_, cs, h1, h2, hq⟩
  · rename_i t cs
    split at hq
    · rename_i ds hd
      obtain ⟨h1, h2, hK⟩ := hq
      simp only [VRel] at hx
      obtain ⟨vs, rfl, hv⟩ := hx
      have hall := allDv_rel hd hv
      rw [← h1] at hall
      refine ⟨asm P 6 t ds, vs.toList, rep_of_flat _ _ hall, ?_, hK⟩
      have agg : ∀ (y : D), y.isAgg = true → Value.agg vs = packD y vs.toList := fun y hy => by cases y <;> simp_all [D.isAgg, packD]
      exact agg _ h2
    · exact hq.elim
  · exact hq.elim

theorem qToDs_sound : ∀ {xs : List AVal} {vs : List Value} {K : List D → Prop}, VAll w β S xs vs → qToDs P xs K → ∃ ys css, All2 (fun y cs => Rep w S y cs) ys css ∧ vs = List.zipWith packD ys css ∧ K ys
  | [], vs, K, h, hq => by simp only [VAll] at h; subst h; exact ⟨[], [], .nil, rfl, hq⟩
  | x :: r, vs, K, h, hq => by
    simp only [VAll] at h
    obtain ⟨v, q, rfl, h1, h2⟩ := h
    simp only [qToDs] at hq
    obtain ⟨y, cs, e1, rfl, hq⟩ := qToD_sound h1 hq
    obtain ⟨ys, css, e3, rfl, hK⟩ := qToDs_sound h2 hq
    exact ⟨y :: ys, cs :: css, .cons e1 e3, rfl, hK⟩

end

section
variable {P : Program} {C : Ctx} {s : AState} {β : Nat → Option Value} {S : Nat → Prop} {a : Act} {w : World}

theorem zV_leaf {d : D} {cs : List Value} (h : RepC d cs) (hd : d.isAgg = false) (hf : flatD d = [d]) (hz : zV d = .d d) : VAll w β S ((flatD d).map zV) cs := by
  have hr := RepC.rep (w := w) (S := S) _ _ h
  obtain ⟨u, rfl, _⟩ := rep_oneCell hr hd
  rw [hf]
  simp only [List.map_cons, List.map_nil, hz, VAll, VRel]
  exact ⟨u, [], rfl, ⟨[u], hr, by rw [packD_one hd]; rfl⟩, rfl⟩

/-- A new block of cells. -/
theorem new_cell (h : ARelB C s β S a w) {e : TypeId} {us : List AVal} {cs : Array Value} (hc : VAll w β S us cs.toList) :
    ARelB C (s.newO (.cell e us)) (updO β s.nx (.pointer (some ⟨w.heap.size, 0, none⟩))) S a (w.alloc (.cells cs e)) := by
  refine h.fresh (grown_alloc _ _) (fun b hb => ?_) ?_
  · simp only [blk] at hb
    injection hb with hb; subst hb; simp
  · simp only [ORel]
    refine ⟨w.heap.size, cs, rfl, heap_alloc_new w _, VAll.keep (fun b hb => ⟨hb, Below.heap_alloc _ _ _ (h.st.inS b hb)⟩) (fun j u e => ?_) _ _ hc⟩
    unfold updO
    rw [if_neg]
    · exact e
    · rintro rfl; rw [h.nx _ (Nat.le_refl _)] at e; cases e

mutual
theorem zV_rel : ∀ (d : D) (cs : List Value), RepC d cs → VAll w β S ((flatD d).map zV) cs
  | .agg ds, cs, h => by simp only [RepC] at h; simp only [flatD]; exact zVs_rel ds cs h
  | .int k n, cs, h => zV_leaf h rfl rfl rfl
  | .bool b, cs, h => zV_leaf h rfl rfl rfl
  | .str xs, cs, h => zV_leaf h rfl rfl rfl
  | .raw v, cs, h => zV_leaf h rfl rfl rfl
  | .ints k xs, cs, h => by
    simp only [RepC] at h
    obtain ⟨rfl, rfl⟩ := h
    simp [flatD, zV, VAll, VRel, emptyD]
  | .sl sz es, cs, h => by
    simp only [RepC] at h
    obtain ⟨rfl, rfl⟩ := h
    simp [flatD, zV, VAll, VRel, emptyD]
  | .ptr d, cs, h => zV_leaf h rfl rfl rfl
  | .nilp, cs, h => zV_leaf h rfl rfl rfl
  | .fn f caps, cs, h => zV_leaf h rfl rfl rfl
theorem zVs_rel : ∀ (ds : List D) (cs : List Value), RepCs ds cs → VAll w β S ((flatDs ds).map zV) cs
  | [], cs, h => by simp only [RepCs] at h; simp only [flatDs, List.map_nil, VAll]; exact h
  | d :: ds, cs, h => by
    simp only [RepCs] at h
    have e1 := zV_rel d _ h.1
    have e2 := zVs_rel ds _ h.2
    simp only [flatDs, List.map_append]
    have := VAll.append e1 e2
    rwa [List.take_append_drop] at this
end

theorem eAlloc_sound (h : ARelB C s β S a w) {e : TypeId} {K : AState → AVal → Prop} (hq : eAlloc P s e K) : DoesX P C a w (Instr.alloc e true (.tuple #[])) K := by
  unfold eAlloc at hq
  split at hq
  · rename_i i hi
    split at hq
    · rename_i z hz
      split at hq
      · rename_i k n hla
        obtain ⟨hzc, hn0, hn1, hK⟩ := hq
        have hrun : (Instr.alloc e true (.tuple #[])).run P w = .ok (.pointer (some ⟨w.heap.size, 0, none⟩)) (w.alloc (.cells z.cells e)) := by
          simp only [Instr.alloc, Sem.run_bind, zeroValue, typeInfo, run_program, Result.andThen_ok, hi, Sem.run_pure, hz, newVar, newRow]
          rfl
        have hsz : z.cells.size = n := by
          have := congrArg List.length hzc
          simpa using this
        have hrow := h.alloc_row (k := k) (e := e) (xs := List.replicate n 0) (n := n) (cap := n) (cur := z.cells) (by simp) (Nat.le_refl _) (by unfold maxLen; omega) (by unfold LIM; omega) hsz
          (by rw [hzc]; simp) (fun x hx => by rw [List.eq_of_mem_replicate hx]; cases k <;> rfl)
        refine ⟨_, _, _, .optr s.nx 0, _, hrun, Ext.alloc _ _, S, hrow, ?_, hK⟩
        simp only [VRel, updO, if_true]
        refine ⟨w.heap.size, ?_, rfl⟩
        simp only [Option.bind_some, blk]
        rw [if_neg (by omega)]
      obtain ⟨hr, hK⟩ := hq
      have hrun : (Instr.alloc e true (.tuple #[])).run P w = .ok (.pointer (some ⟨w.heap.size, 0, none⟩)) (w.alloc (.cells z.cells e)) := by
        simp only [Instr.alloc, Sem.run_bind, zeroValue, typeInfo, run_program, Result.andThen_ok, hi, Sem.run_pure, hz, newVar, newRow]
        rfl
      refine ⟨_, _, _, .optr s.nx 0, updO β s.nx (.pointer (some ⟨w.heap.size, 0, none⟩)), hrun, Ext.alloc _ _, S, ?_, ?_, hK⟩
      · exact new_cell h (zV_rel _ _ (repCB_ok _ _ hr))
      · simp only [VRel, updO, if_true]; exact ⟨w.heap.size, rfl, rfl⟩
    · exact hq.elim
  · exact hq.elim

theorem eBox_sound (h : ARelB C s β S a w) {e : TypeId} {x : AVal} {v : Value} {K : AState → AVal → Prop} (hx : VRel w β S x v) (hq : eBox s e x K) : DoesX P C a w (Instr.box e v) K := by
  unfold eBox at hq
  split at hq
  · rename_i us hus
    obtain ⟨h1, hK⟩ := hq
    have hcells := cellsV_rel h hx hus h1
    have hrun : (Instr.box e v).run P w = .ok (.pointer (some ⟨w.heap.size, 0, none⟩)) (w.alloc (.cells v.cells e)) := by
      simp only [Instr.box, Sem.run_bind, newVar, newRow]
      rfl
    refine ⟨_, _, _, .optr s.nx 0, updO β s.nx (.pointer (some ⟨w.heap.size, 0, none⟩)), hrun, Ext.alloc _ _, S, new_cell h hcells, ?_, hK⟩
    simp only [VRel, updO, if_true]; exact ⟨w.heap.size, rfl, rfl⟩
  · exact hq.elim

/-! ### Appends -/
theorem ownsV_of {w : World} {base : Nat} {e : TypeId} {sz : Nat} {v : Value} {n : Nat} {xs : List Value} (h : w.ownsRow base e sz v n xs) : OwnsV w e sz v n xs := by
  obtain ⟨hl, h⟩ := h
  rcases h with ⟨e1, e2⟩ | ⟨g, cap, cur, e1, _, hh, hle, hm, hz, ht⟩
  · refine .inl ⟨none, e1, e2, ?_⟩
    subst e2; simpa using hl
  · by_cases hc : cap = 0
    · refine .inl ⟨some ⟨g, 0, none⟩, ?_, by omega, ?_⟩
      · rw [e1, hc]; congr 1; omega
      · have : n = 0 := by omega
        subst this; simpa using hl
    · exact .inr ⟨g, cap, cur, e1, by omega, hh, hle, hm, hz, hl, ht⟩

theorem append_zero_run {w : World} {t t2 ty e e2 : TypeId} {i : TypeInfo} (ht : P.underlying t = some (.slice e)) (ht2 : P.underlying t2 = some (.slice e2)) (hi : P.info? e = some i) {A A' : Option Addr} {n c c' : Nat} (hn : n ≤ c) :
    (Builtin.append_ #[t, t2] ty #[.slice A n c, .slice A' 0 c']).run P w = .ok (.slice A n c) w := by
  cases A' with
  | none => cases A <;> simp [Builtin.append_, run_underlying ht, run_underlying ht2, sizeOf, typeInfo, hi, Builtin.lenOf, Builtin.firstCells, hn, storeCells]
  | some a' =>
    have hl : ∀ w', (loadCells a' 0).run P w' = .ok #[] w' := fun w' => by simpa using run_loadCells_list (P := P) w' a' [] (by simp)
    cases A <;> simp [Builtin.append_, run_underlying ht, run_underlying ht2, sizeOf, typeInfo, hi, Builtin.lenOf, Builtin.firstCells, hn, storeCells, hl]

theorem append_types {w : World} {t t2 ty e e2 : TypeId} {i : TypeInfo} (ht : P.underlying t = some (.slice e)) (ht2 : P.underlying t2 = some (.slice e2)) (hi : P.info? e = some i) (A A' : Option Addr) (n c m c' : Nat) :
    (Builtin.append_ #[t, t2] ty #[.slice A n c, .slice A' m c']).run P w = (Builtin.append_ #[t, t] ty #[.slice A n c, .slice A' m c']).run P w := by
  simp [Builtin.append_, run_underlying ht, run_underlying ht2, sizeOf, typeInfo, hi, Builtin.lenOf]

/-- A slice without capacity: as nil. -/
theorem append_nocap {w : World} {t ty e : TypeId} {i : TypeInfo} (ht : P.underlying t = some (.slice e)) (hi : P.info? e = some i) {b : Addr} {A' : Option Addr} {m c' : Nat} (hm : 0 < m) (hb : m * i.bytes ≤ 140737488355328) :
    (Builtin.append_ #[t, t] ty #[.slice (some b) 0 0, .slice A' m c']).run P w = (Builtin.append_ #[t, t] ty #[.slice none 0 0, .slice A' m c']).run P w := by
  have hl : ∀ w', (loadCells b 0).run P w' = .ok #[] w' := fun w' => by simpa using run_loadCells_list (P := P) w' b [] (by simp)
  have hcap : Builtin.nextslicecap m 0 = m := by simp [Builtin.nextslicecap, hm]
  have hbig : ¬ (281474976710656 < m * i.bytes) := by omega
  have hm0 : m ≠ 0 := by omega
  simp [Builtin.append_, run_underlying ht, sizeOf, typeInfo, hi, Builtin.lenOf, Builtin.firstCells, hcap, hbig, hm0, hl]

/-- What an append comes to. -/
theorem append_run {t t2 ty e e2 : TypeId} {i : TypeInfo} {z : Value} (ht : P.underlying t = some (.slice e)) (ht2 : P.underlying t2 = some (.slice e2)) (hi : P.info? e = some i) (hz : i.zero = some z)
    (hzs : z.cells.size = i.size) (hsz : 0 < i.size) (hby : 1 ≤ i.bytes) {v : Value} {n : Nat} {xs : List Value} (hown : OwnsV w e i.size v n xs) {A' : Option Addr} {m c' : Nat} {news : List Value} (hl : news.length = m * i.size)
    (hne : 0 < m → ∃ b o, A' = some ⟨b, o, none⟩ ∧ Cells w b o news) (h1 : ∀ u ∈ news, u.oneCell' = true) (hbytes : (n + m) * i.bytes ≤ 140737488355328) :
    ∃ v' w', (Builtin.append_ #[t, t2] ty #[v, .slice A' m c']).run P w = .ok v' w' ∧ OwnsV w' e i.size v' (n + m) (xs ++ news) ∧ w.grownBy w' (blk v) ∧
      ∀ b, blk v' = some b → (blk v = some b ∨ (w.heap.size ≤ b ∧ b < w'.heap.size)) := by
  rcases Nat.eq_zero_or_pos m with h0 | h0
  · subst h0
    have : news = [] := List.eq_nil_of_length_eq_zero (by simpa using hl)
    subst this
    obtain ⟨A, c, rfl⟩ := ownsV_slice hown
    have hle : n ≤ c := by
      rcases hown with ⟨A, e1, e2, _⟩ | ⟨g, cap, cur, e1, _, _, hle, _⟩
      · omega
      · injection e1 with _ _ e3; omega
    exact ⟨_, _, append_zero_run ht ht2 hi hle, by simpa using hown, World.grownBy.refl w _, fun b hb => .inl hb⟩
  · obtain ⟨b, o, rfl, hc⟩ := hne h0
    have hnm : n + m ≤ 140737488355328 := Nat.le_trans (Nat.le_mul_of_pos_right _ hby) hbytes
    have hmax : n + m ≤ maxLen := by unfold maxLen; omega
    have core : ∀ {v : Value} {n : Nat} {xs : List Value}, w.ownsRow 0 e i.size v n xs → (n + m) * i.bytes ≤ 140737488355328 → n + m ≤ maxLen → ∃ v' w', (Builtin.append_ #[t, t] ty #[v, .slice (some ⟨b, o, none⟩) m c']).run P w = .ok v' w' ∧
        w'.ownsRow 0 e i.size v' (n + m) (xs ++ news) ∧ w.grownBy w' v.ownBlock ∧ (v'.ownBlock = v.ownBlock ∨ v'.ownBlock = some w.heap.size) := fun {v n xs} hrow hb hm' => by
      obtain ⟨v', w', h2, h3, h4, _, h6⟩ := run_append_own_at (P := P) w 0 t ty e i z i.size i.bytes ht hi hz rfl rfl hzs hsz v n xs hrow ⟨b, o, none⟩ m c' news hl (fun j u hu => by rw [addr_add]; exact hc j u hu) h1 hm' hb (Nat.zero_le _)
      exact ⟨v', w', h2, h3, h4, h6⟩
    have blkOf : ∀ {w' : World} {v' : Value} {k : Nat} {ys : List Value} {b : Nat}, w'.ownsRow 0 e i.size v' k ys → blk v' = some b → v'.ownBlock = some b ∧ b < w'.heap.size := fun {w' v' k ys b} hrow hb => by
      rcases hrow.2 with ⟨e1, _⟩ | ⟨g, cap, cur, e1, _, hh, _⟩
      · rw [e1] at hb; simp [blk] at hb
      · rw [e1] at hb ⊢
        simp only [blk] at hb
        split at hb
        · cases hb
        · injection hb with hb
          subst hb
          refine ⟨rfl, ?_⟩
          rcases Nat.lt_or_ge g w'.heap.size with h | h
          · exact h
          · rw [Array.getElem?_eq_none h] at hh; cases hh
    rcases hown with ⟨A, rfl, rfl, rfl⟩ | ⟨g, cap, cur, rfl, hcp, hh, hle, hm, hzz, hxl, htk⟩
    · obtain ⟨v', w', h2, h3, h4, h6⟩ := core (v := .slice none 0 0) (n := 0) (xs := []) ⟨by simp, .inl ⟨rfl, rfl⟩⟩ hbytes hmax
      refine ⟨v', w', ?_, ownsV_of h3, ?_, fun bb hbb => ?_⟩
      · rw [append_types ht ht2 hi]
        cases A with
        | none => exact h2
        | some A => rw [append_nocap ht hi h0 (by simpa using hbytes)]; exact h2
      · have : blk (.slice A 0 0) = none := by cases A <;> simp [blk]
        rw [this]; exact h4
      · obtain ⟨e1, e2⟩ := blkOf h3 hbb
        rcases h6 with h6 | h6
        · rw [e1] at h6; simp [Value.ownBlock] at h6
        · rw [e1] at h6; injection h6 with h6; subst h6; exact .inr ⟨Nat.le_refl _, e2⟩
    · obtain ⟨v', w', h2, h3, h4, h6⟩ := core (v := .slice (some ⟨g, 0, none⟩) n cap) (n := n) (xs := xs) ⟨hxl, .inr ⟨g, cap, cur, rfl, Nat.zero_le _, hh, hle, hm, hzz, htk⟩⟩ hbytes hmax
      have hbv : blk (.slice (some ⟨g, 0, none⟩) n cap) = some g := by simp [blk]; omega
      refine ⟨v', w', by rw [append_types ht ht2 hi]; exact h2, ownsV_of h3, by rw [hbv]; exact h4, fun bb hbb => ?_⟩
      obtain ⟨e1, e2⟩ := blkOf h3 hbb
      rcases h6 with h6 | h6
      · rw [e1] at h6; exact .inl (by rw [hbv]; exact h6.symm)
      · rw [e1] at h6; injection h6 with h6; subst h6; exact .inr ⟨Nat.le_refl _, e2⟩

end

section
variable {P : Program} {C : Ctx} {s : AState} {β : Nat → Option Value} {S : Nat → Prop} {a : Act} {w : World}

theorem leaf_ones {d : D} {cs : List Value} (h : Rep w S d cs) (hd : d.isAgg = false) : ∀ v ∈ cs, v.oneCell' = true := by
  obtain ⟨u, rfl, h1, _⟩ := rep_oneCell h hd
  intro v hv
  simp at hv; subst hv; exact h1

mutual
theorem rep_ones : ∀ (d : D) (cs : List Value), Rep w S d cs → ∀ v ∈ cs, v.oneCell' = true
  | .agg ds, cs, h => by simp only [Rep] at h; exact reps_ones ds cs h
  | .int k n, cs, h => leaf_ones h rfl
  | .bool b, cs, h => leaf_ones h rfl
  | .str xs, cs, h => leaf_ones h rfl
  | .raw v, cs, h => leaf_ones h rfl
  | .ints k xs, cs, h => leaf_ones h rfl
  | .sl sz es, cs, h => leaf_ones h rfl
  | .ptr d, cs, h => leaf_ones h rfl
  | .nilp, cs, h => leaf_ones h rfl
  | .fn f caps, cs, h => leaf_ones h rfl
theorem reps_ones : ∀ (ds : List D) (cs : List Value), RepAll w S ds cs → ∀ v ∈ cs, v.oneCell' = true
  | [], cs, h => by simp only [RepAll] at h; subst h; simp
  | d :: ds, cs, h => by
    simp only [RepAll] at h
    obtain ⟨c1, c2, rfl, h1, h2⟩ := h
    intro v hv
    rcases List.mem_append.1 hv with hv | hv
    · exact rep_ones d c1 h1 v hv
    · exact reps_ones ds c2 h2 v hv
end

theorem Cells.append {b o : Nat} {xs ys : List Value} (h1 : Cells w b o xs) (h2 : Cells w b (o + xs.length) ys) : Cells w b o (xs ++ ys) := by
  intro i v hv
  rcases Nat.lt_or_ge i xs.length with h | h
  · rw [List.getElem?_append_left h] at hv; exact h1 i v hv
  · rw [List.getElem?_append_right h] at hv
    have := h2 (i - xs.length) v hv
    rwa [show o + xs.length + (i - xs.length) = o + i by omega] at this

theorem RepRow.cells {sz : Nat} : ∀ (es : List D) (b o : Nat), RepRow w S sz es b o → ∃ vs, Cells w b o vs ∧ RepAll w S es vs ∧ vs.length = es.length * sz ∧ ∀ e ∈ es, e.size = sz
  | [], b, o, _ => ⟨[], fun i v h => by simp at h, by simp only [RepAll], by simp, by simp⟩
  | e :: es, b, o, h => by
    simp only [RepRow] at h
    obtain ⟨⟨vs, hl, hc, hr⟩, h2⟩ := h
    obtain ⟨ws, h3, h4, h5, h6⟩ := RepRow.cells es b (o + sz) h2
    refine ⟨vs ++ ws, hc.append (by rw [hl]; exact h3), ?_, ?_, fun x hx => ?_⟩
    · simp only [RepAll]; exact ⟨vs, ws, rfl, hr, h4⟩
    · simp [hl, h5, Nat.add_mul]; omega
    · rcases List.mem_cons.1 hx with rfl | hx
      · exact (Rep.size _ _ hr).symm.trans hl
      · exact h6 x hx

/-- What a source stands for. -/
def SrcRel (w : World) (S : Nat → Prop) (v : Value) : Src → Prop
  | .i k xs => ∃ A c, v = .slice A xs.length c ∧ xs.length ≤ LIM ∧ (∀ x ∈ xs, k.wrap x = x) ∧ (0 < xs.length → ∃ b o, A = some ⟨b, o, none⟩ ∧ Cells w b o (xs.map (Value.int k)))
  | .r sz es => ∃ A c, v = .slice A es.length c ∧ es.length ≤ LIM ∧ ∃ vs, RepAll w S es vs ∧ vs.length = es.length * sz ∧ (0 < es.length → (∃ b o, A = some ⟨b, o, none⟩ ∧ Cells w b o vs) ∧ ∀ e ∈ es, e.size = sz)

theorem srcD_rel {x : D} {cs : List Value} {src : Src} (h : Rep w S x cs) (hs : srcD x = some src) : SrcRel w S (packD x cs) src := by
  cases x <;> simp only [srcD] at hs
  case ints k xs =>
    injection hs with hs; subst hs
    simp only [Rep] at h
    obtain ⟨A, c, rfl, _, hl, hwf, hne⟩ := h
    refine ⟨A, c, rfl, hl, hwf, fun hp => ?_⟩
    obtain ⟨b, o, e, _, hc⟩ := hne (by intro e; subst e; simp at hp)
    exact ⟨b, o, e, hc⟩
  case sl sz es =>
    injection hs with hs; subst hs
    simp only [Rep] at h
    obtain ⟨A, c, rfl, _, hl, hne⟩ := h
    by_cases he : es = []
    · subst he
      exact ⟨A, c, rfl, by simp, [], by simp only [RepAll], by simp, fun hp => by simp at hp⟩
    · obtain ⟨b, o, e, _, hrow⟩ := hne he
      obtain ⟨vs, h1, h2, h3, h4⟩ := RepRow.cells es b o hrow
      exact ⟨A, c, rfl, hl, vs, h2, h3, fun _ => ⟨⟨b, o, e, h1⟩, h4⟩⟩
  all_goals cases hs

theorem srcOf_rel (h : ARelB C s β S a w) {x : AVal} {v : Value} {src : Src} (hx : VRel w β S x v) (hs : srcOf s x = some src) : SrcRel w S v src := by
  unfold srcOf at hs
  split at hs
  · obtain ⟨cs, h1, rfl⟩ := dv_rel hx rfl; exact srcD_rel h1 hs
  · obtain ⟨cs, h1, rfl⟩ := dv_rel hx rfl; exact srcD_rel h1 hs
  · obtain ⟨cs, h1, rfl⟩ := dv_rel hx rfl; exact srcD_rel h1 hs
  · rename_i j
    split at hs
    · rename_i k t xs ho
      injection hs with hs; subst hs
      obtain ⟨bv, hβ0, hob⟩ := h.st.obj j _ (getO_mem ho)
      simp only [ORel] at hob
      simp only [VRel] at hx
      rw [hβ0] at hx; injection hx with hx; subst hx
      obtain ⟨A, c, e⟩ := ownsV_slice hob.1
      refine ⟨A, c, e, hob.2.2, hob.2.1, fun hp => ?_⟩
      obtain ⟨g, cap, e1, _, _, hc, _⟩ := ownsV_cell hob.1 hp
      rw [e] at e1
      injection e1 with e1 _ _
      exact ⟨g, 0, e1, hc⟩
    · rename_i t sz es ho
      injection hs with hs; subst hs
      obtain ⟨bv, hβ0, hob⟩ := h.st.obj j _ (getO_mem ho)
      simp only [ORel] at hob
      obtain ⟨vs, hown, hall, hsizes, hlim, _⟩ := hob
      simp only [VRel] at hx
      rw [hβ0] at hx; injection hx with hx; subst hx
      obtain ⟨A, c, e⟩ := ownsV_slice hown
      refine ⟨A, c, e, hlim, vs, hall, ?_, fun hp => ⟨?_, hsizes⟩⟩
      · rcases hown with ⟨_, _, e2, e3⟩ | ⟨g, cap, cur, _, _, _, _, _, _, hl, _⟩
        · rw [e2, e3]; simp
        · exact hl
      · obtain ⟨g, cap, e1, _, _, hc, _⟩ := ownsV_cell hown hp
        rw [e] at e1
        injection e1 with e1 _ _
        exact ⟨g, 0, e1, hc⟩
    · cases hs
  · rename_i j off len
    split at hs
    · rename_i k t xs ho
      split at hs
      · rename_i hle
        injection hs with hs; subst hs
        obtain ⟨bv, hβ0, hob⟩ := h.st.obj j _ (getO_mem ho)
        simp only [ORel] at hob
        simp only [VRel] at hx
        obtain ⟨A, c, rfl, _, hA⟩ := hx
        have hlen : ((xs.drop off).take len).length = len := by simp; omega
        refine ⟨A, c, by rw [hlen], by rw [hlen]; have := hob.2.2; omega, fun z hz => hob.2.1 z (List.mem_of_mem_drop (List.mem_of_mem_take hz)), fun hp => ?_⟩
        rw [hlen] at hp
        obtain ⟨b, hb, rfl⟩ := hA hp
        obtain ⟨g, cap, e1, hbg, _, hc, _⟩ := ownsV_cell hob.1 (by omega)
        rw [hβ0, Option.bind_some, hbg] at hb; injection hb with hb; subst hb
        refine ⟨g, off, rfl, ?_⟩
        have := hc.sub off len
        simpa [List.map_take, List.map_drop] using this
      · cases hs
    · cases hs
  · cases hs

theorem ones_ints (k : IntKind) (xs : List Int) : ∀ u ∈ xs.map (Value.int k), u.oneCell' = true := by
  intro u hu
  obtain ⟨n, _, rfl⟩ := List.mem_map.1 hu
  rfl

theorem RepAll.append : ∀ {xs ys : List D} {as bs : List Value}, RepAll w S xs as → RepAll w S ys bs → RepAll w S (xs ++ ys) (as ++ bs)
  | [], ys, as, bs, h1, h2 => by simp only [RepAll] at h1; subst h1; simpa using h2
  | x :: xs, ys, as, bs, h1, h2 => by
    simp only [RepAll] at h1
    obtain ⟨c1, c2, rfl, h3, h4⟩ := h1
    simp only [List.cons_append, RepAll]
    exact ⟨c1, c2 ++ bs, by simp, h3, RepAll.append h4 h2⟩

theorem emp_value {x : AVal} {v : Value} (hx : VRel w β S x v) (he : isEmp x = true) : ∃ A, v = .slice A 0 0 := by
  cases x <;> simp [isEmp] at he
  · simp only [VRel] at hx; exact hx.1
  · simp only [VRel] at hx; exact ⟨none, hx.1⟩

theorem blk_empty (A : Option Addr) : blk (.slice A 0 0) = none := by cases A <;> simp [blk]

theorem eAppend_sound (h : ARelB C s β S a w) {t t2 ty : TypeId} {x y : AVal} {u v : Value} {K : AState → AVal → Prop} (hx : VRel w β S x u) (hy : VRel w β S y v) (hq : eAppend P C.m s t t2 x y K) :
    Does P C a w (Builtin.append_ #[t, t2] ty #[u, v]) K := by
  unfold eAppend at hq
  split at hq
  · rename_i e e2 ht ht2
    split at hq
    · rename_i i hi
      split at hq
      · rename_i z hz
        obtain ⟨hzs, hby, hq⟩ := hq
        replace hq := qSrc_spec hq; obtain ⟨src, hsrc, hq⟩ := hq
        cases src with
        | i k ys =>
          obtain ⟨hsz1, hq⟩ := hq
          obtain ⟨A, c, rfl, hlim, hwf, hne⟩ := srcOf_rel h hy hsrc
          have fresh : ∀ {A0 : Option Addr}, u = .slice A0 0 0 → ys.length * i.bytes ≤ 140737488355328 → K (s.newO (.row k e ys)) (.own s.nx) → Does P C a w (Builtin.append_ #[t, t2] ty #[u, .slice A ys.length c]) K := fun {A0} e0 hb hK => by
            subst e0
            obtain ⟨v', w', h1, h2, h3, h4⟩ := append_run (ty := ty) (w := w) ht ht2 hi hz hzs (by omega) hby (v := .slice A0 0 0) (n := 0) (xs := []) (.inl ⟨A0, rfl, rfl, rfl⟩) (A' := A) (m := ys.length) (c' := c) (news := ys.map (Value.int k)) (by simp [hsz1]) hne (ones_ints k ys) (by simpa using hb)
            rw [blk_empty] at h3 h4
            refine ⟨v', w', _, .own s.nx, updO β s.nx v', h1, S, h.fresh h3 (fun b hb => by rcases h4 b hb with h | h; cases h; exact h) ?_, by simp only [VRel, updO, if_true], hK⟩
            simp only [ORel]
            rw [hsz1] at h2
            exact ⟨by simpa using h2, hwf, hlim⟩
          split at hq
          · obtain ⟨A0, e0⟩ := emp_value hx rfl; exact fresh e0 hq.1 hq.2
          · obtain ⟨A0, e0⟩ := emp_value hx rfl; exact fresh e0 hq.1 hq.2
          · rename_i j
            split at hq
            · rename_i k' e' xs ho
              obtain ⟨hjm, rfl, rfl, hb, hK⟩ := hq
              obtain ⟨bv, hβ0, hob⟩ := h.st.obj j _ (getO_mem ho)
              simp only [ORel] at hob
              simp only [VRel] at hx
              rw [hβ0] at hx; injection hx with hx; subst hx
              obtain ⟨v', w', h1, h2, h3, h4⟩ := append_run (ty := ty) (w := w) ht ht2 hi hz hzs (by omega) hby (by rw [hsz1]; exact hob.1) (A' := A) (m := ys.length) (c' := c) (news := ys.map (Value.int k')) (by simp [hsz1]) hne (ones_ints k' ys) hb
              refine ⟨v', w', _, .own j, updO β j v', h1, S, h.move hjm (o' := .row k' e' (xs ++ ys)) (getO_mem ho) hβ0 h3 h4 ?_, by simp only [VRel, updO, if_true], hK⟩
              simp only [ORel]
              rw [hsz1] at h2
              refine ⟨by simpa using h2, fun z hz => ?_, ?_⟩
              · rcases List.mem_append.1 hz with hz | hz
                · exact hob.2.1 z hz
                · exact hwf z hz
              · have : xs.length + ys.length ≤ 140737488355328 := Nat.le_trans (Nat.le_mul_of_pos_right _ hby) hb
                simpa [LIM] using this
            · exact hq.elim
          · exact hq.elim
        | r sz ys =>
          obtain ⟨hszz, hpos, hys0, hq⟩ := hq
          have hys : ∀ d ∈ ys, d.size = sz := fun y hy => by simpa using List.all_eq_true.1 hys0 y hy
          obtain ⟨A, c, rfl, hlim, vs, hall, hvl, hne⟩ := srcOf_rel h hy hsrc
          subst hszz
          have fresh : ∀ {A0 : Option Addr}, u = .slice A0 0 0 → ys.length * i.bytes ≤ 140737488355328 → K (s.newO (.rowD e i.size ys)) (.own s.nx) → Does P C a w (Builtin.append_ #[t, t2] ty #[u, .slice A ys.length c]) K := fun {A0} e0 hb hK => by
            subst e0
            obtain ⟨v', w', h1, h2, h3, h4⟩ := append_run (ty := ty) (w := w) ht ht2 hi hz hzs hpos hby (v := .slice A0 0 0) (n := 0) (xs := []) (.inl ⟨A0, rfl, rfl, rfl⟩) (A' := A) (m := ys.length) (c' := c) (news := vs) hvl (fun hp => (hne hp).1) (reps_ones _ _ hall) (by simpa using hb)
            rw [blk_empty] at h3 h4
            refine ⟨v', w', _, .own s.nx, updO β s.nx v', h1, S, h.fresh h3 (fun b hb => by rcases h4 b hb with h | h; cases h; exact h) ?_, by simp only [VRel, updO, if_true], hK⟩
            simp only [ORel]
            exact ⟨vs, by simpa using h2, RepAll.keep (h.imm h3 (by simp)) _ _ hall, hys, hlim, hpos⟩
          split at hq
          · obtain ⟨A0, e0⟩ := emp_value hx rfl; exact fresh e0 hq.1 hq.2
          · obtain ⟨A0, e0⟩ := emp_value hx rfl; exact fresh e0 hq.1 hq.2
          · rename_i j
            split at hq
            · rename_i e' sz' xs ho
              obtain ⟨hjm, rfl, rfl, hb, hK⟩ := hq
              obtain ⟨bv, hβ0, hob⟩ := h.st.obj j _ (getO_mem ho)
              simp only [ORel] at hob
              obtain ⟨us, hown, hall0, hsizes, hlim0, _⟩ := hob
              simp only [VRel] at hx
              rw [hβ0] at hx; injection hx with hx; subst hx
              obtain ⟨v', w', h1, h2, h3, h4⟩ := append_run (ty := ty) (w := w) ht ht2 hi hz hzs hpos hby hown (A' := A) (m := ys.length) (c' := c) (news := vs) hvl (fun hp => (hne hp).1) (reps_ones _ _ hall) hb
              have himm := h.imm h3 (fun g e => ⟨j, _, getO_mem ho, by rw [hβ0]; exact e⟩)
              refine ⟨v', w', _, .own j, updO β j v', h1, S, h.move hjm (o' := .rowD e' i.size (xs ++ ys)) (getO_mem ho) hβ0 h3 h4 ?_, by simp only [VRel, updO, if_true], hK⟩
              simp only [ORel]
              refine ⟨us ++ vs, by simpa using h2, RepAll.append (RepAll.keep himm _ _ hall0) (RepAll.keep himm _ _ hall), fun z hz => ?_, ?_, hpos⟩
              · rcases List.mem_append.1 hz with hz | hz
                · exact hsizes z hz
                · exact hys z hz
              · have : xs.length + ys.length ≤ 140737488355328 := Nat.le_trans (Nat.le_mul_of_pos_right _ hby) hb
                simpa [LIM] using this
            · exact hq.elim
          · exact hq.elim
      · exact hq.elim
    · exact hq.elim
  · exact hq.elim

theorem splice_take (cur us : List Value) (o n : Nat) (h : o + us.length ≤ n) (hn : n ≤ cur.length) : (cur.take o ++ us ++ cur.drop (o + us.length)).take n = (cur.take n).take o ++ us ++ (cur.take n).drop (o + us.length) := by
  apply List.ext_getElem?
  intro i
  simp only [List.getElem?_take, List.getElem?_append, List.getElem?_drop, List.length_append, List.length_take]
  by_cases h1 : i < n
  · simp only [h1, if_true]
    by_cases h2 : i < min o cur.length + us.length
    · have h2' : i < min o (min n cur.length) + us.length := by omega
      simp only [h2, h2', if_true]
      by_cases h3 : i < min o cur.length
      · have h3' : i < min o (min n cur.length) := by omega
        simp only [h3, h3', if_true]
      · have h3' : ¬ i < min o (min n cur.length) := by omega
        simp only [h3, h3', if_false]
        congr 1; omega
    · have h2' : ¬ i < min o (min n cur.length) + us.length := by omega
      simp only [h2, h2', if_false]
      have e1 : o + us.length + (i - (min o cur.length + us.length)) = i := by omega
      have e2 : o + us.length + (i - (min o (min n cur.length) + us.length)) = i := by omega
      simp [e1, e2, h1]
  · have h2' : ¬ i < min o (min n cur.length) + us.length := by omega
    have e2 : o + us.length + (i - (min o (min n cur.length) + us.length)) = i := by omega
    simp [h1, h2', e2]

theorem ownsV_setCells {w : World} {t : TypeId} {v : Value} {n : Nat} {vs : List Value} (h : OwnsV w t 1 v n vs) {us : List Value} {o : Nat} (hle : o + us.length ≤ n) (hn : 0 < n) :
    ∃ g cap cur, v = .slice (some ⟨g, 0, none⟩) n cap ∧ blk v = some g ∧ w.heap[g]? = some (.cells cur t (0, 0)) ∧ o + us.length ≤ cur.size ∧ OwnsV (w.setCells g o us) t 1 v n (vs.take o ++ us ++ vs.drop (o + us.length)) := by
  rcases h with ⟨A, _, h0, _⟩ | ⟨g, cap, cur, e, hc, hh, hl, hm, hz, hvl, ht⟩
  · omega
  · obtain ⟨cur', h1, h2, h3⟩ := heap_setCells us o w cur hh (by omega)
    refine ⟨g, cap, cur, e, by rw [e]; simp [blk]; omega, hh, by omega, .inr ⟨g, cap, cur', e, hc, h1, hl, hm, by rw [h3]; exact hz, ?_, ?_⟩⟩
    · simp at hvl ⊢; omega
    · rw [Nat.mul_one] at ht ⊢
      rw [h2, splice_take _ _ _ _ hle (by simp; omega), ht]

theorem eCopy_sound (h : ARelB C s β S a w) {t t2 ty : TypeId} {x y : AVal} {u v : Value} {K : AState → AVal → Prop} (hx : VRel w β S x u) (hy : VRel w β S y v) (hq : eCopy P s t x y K) :
    Does P C a w (Builtin.copy_ #[t, t2] ty #[u, v]) K := by
  unfold eCopy at hq
  split at hq
  · rename_i e ht
    obtain ⟨hsz, hq⟩ := hq
    have hsz' : (P.info? e).map (·.size) = some 1 := hsz
    replace hq := qSrc_spec hq; obtain ⟨src, hsrc, hq⟩ := hq
    cases src with
    | i k ys =>
      dsimp only at hq
      obtain ⟨A, c, rfl, hlim, hwf, hne⟩ := srcOf_rel h hy hsrc
      -- a copy into a stretch of an owned row
      have core : ∀ {j : Nat} {e' : TypeId} {xs : List Int} {off len : Nat} {A' : Option Addr} {c' : Nat}, getO s.st j = some (.row k e' xs) → off + len ≤ xs.length → (0 < len → ∃ b, (β j).bind blk = some b ∧ A' = some ⟨b, off, none⟩) →
          K (s.withSt (setO j (.row k e' (xs.take off ++ ys.take len ++ xs.drop (off + min ys.length len))) s.st)) (.d (.int .i64 (min ys.length len : Nat))) →
          Does P C a w (Builtin.copy_ #[t, t2] ty #[.slice A' len c', .slice A ys.length c]) K := fun {j e' xs off len A' c'} ho hle hA hK => by
        obtain ⟨bv, hβ0, hob⟩ := h.st.obj j _ (getO_mem ho)
        simp only [ORel] at hob
        have hmin : IntKind.i64.wrap ((min ys.length len : Nat) : Int) = (min ys.length len : Nat) := len_wrap (by omega)
        rcases Nat.eq_zero_or_pos (min ys.length len) with h0 | h0
        · have hrun := run_copy_none (P := P) w t t2 ty e A' A len c' ys.length c ht hsz' h0
          have e0 : xs.take off ++ ys.take len ++ xs.drop (off + min ys.length len) = xs := by
            have : ys.take len = [] := by
              apply List.eq_nil_of_length_eq_zero; rw [List.length_take, Nat.min_comm]; exact h0
            rw [this, h0]; simp
          rw [e0] at hK
          refine ⟨.int .i64 ((min ys.length len : Nat) : Int), w, _, _, β, by rw [h0]; exact hrun, S, ?_, vrel_int hmin, hK⟩
          exact h.touch (getO_mem ho) hβ0 (World.grownBy.refl w _) (by simp only [ORel]; exact hob)
        · obtain ⟨b, hb, rfl⟩ := hA (by omega)
          obtain ⟨b2, o2, rfl, hc⟩ := hne (by omega)
          have hul : ((ys.take len).map (Value.int k)).length = min ys.length len := by simp; omega
          obtain ⟨g, cap, cur, e1, hbg, hh, hfit, hown'⟩ := ownsV_setCells (us := (ys.take len).map (Value.int k)) (o := off) hob.1 (by rw [hul]; omega) (by omega)
          rw [hβ0, Option.bind_some, hbg] at hb; injection hb with hb; subst hb
          have hcells : ∀ j v, ((ys.take len).map (Value.int k))[j]? = some v → w.cell? ((⟨b2, o2, none⟩ : Addr).add j) = some v := fun j v hv => by
            rw [addr_add]
            refine hc j v ?_
            have hj : j < len := by
              have := (List.getElem?_eq_some_iff.1 hv).1
              simp at this; omega
            rw [List.map_take, List.getElem?_take_of_lt hj] at hv
            exact hv
          have hrun := run_copy_cells (P := P) w t t2 ty e g off len c' ⟨b2, o2, none⟩ ys.length c ((ys.take len).map (Value.int k)) ht hsz' (by rw [hul]) hcells
            (fun j hj => by obtain ⟨u, hu⟩ := cell_of hh (i := off + j) (by omega); rw [hu]; rfl) (fun j _ => unfrozen hh) (ones_ints k _)
          rw [hul] at hrun
          refine ⟨.int .i64 ((min ys.length len : Nat) : Int), _, _, _, β, hrun, S, h.touch (o' := .row k e' (xs.take off ++ ys.take len ++ xs.drop (off + min ys.length len))) (getO_mem ho) hβ0 (by rw [hbg]; exact grown_setCells _ _ _ _) ?_, vrel_int hmin, hK⟩
          have hxl : (xs.take off ++ ys.take len ++ xs.drop (off + min ys.length len)).length = xs.length := by simp; omega
          simp only [ORel]
          refine ⟨?_, fun z hz => ?_, by rw [hxl]; exact hob.2.2⟩
          · rw [hxl]
            rw [hul] at hown'
            simpa [List.map_take, List.map_drop] using hown'
          · simp only [List.append_assoc, List.mem_append] at hz
            rcases hz with hz | hz | hz
            · exact hob.2.1 z (List.mem_of_mem_take hz)
            · exact hwf z (List.mem_of_mem_take hz)
            · exact hob.2.1 z (List.mem_of_mem_drop hz)
      split at hq
      · rename_i j
        split at hq
        · rename_i k' e' xs ho
          obtain ⟨rfl, hK⟩ := hq
          obtain ⟨bv, hβ0, hob⟩ := h.st.obj j _ (getO_mem ho)
          simp only [ORel] at hob
          simp only [VRel] at hx
          rw [hβ0] at hx; injection hx with hx; subst hx
          obtain ⟨A', c', e1⟩ := ownsV_slice hob.1
          rw [e1]
          refine core (off := 0) ho (by omega) (fun hp => ?_) ?_
          · obtain ⟨g, cap, e2, hbg, _⟩ := ownsV_cell hob.1 hp
            rw [e1] at e2
            injection e2 with e2 _ _
            exact ⟨g, by rw [hβ0]; exact hbg, e2⟩
          · have e0 : xs.take 0 ++ ys.take xs.length ++ xs.drop (0 + min ys.length xs.length) = ys.take xs.length ++ xs.drop ys.length := by
              simp only [List.take_zero, List.nil_append, Nat.zero_add]
              rcases Nat.le_total ys.length xs.length with hh | hh
              · rw [Nat.min_eq_left hh]
              · rw [Nat.min_eq_right hh, List.drop_eq_nil_of_le hh, List.drop_eq_nil_of_le (Nat.le_refl _)]
            rw [e0]; exact hK
        · exact hq.elim
      · rename_i j off len
        split at hq
        · rename_i k' e' xs ho
          obtain ⟨rfl, hle, hK⟩ := hq
          simp only [VRel] at hx
          obtain ⟨A', c', rfl, _, hA⟩ := hx
          exact core ho hle hA hK
        · exact hq.elim
      · exact hq.elim
    | r sz ys => exact hq.elim
  · exact hq.elim

end
end Go.Proofs.YtniaeiikdgbnfaaDoor.AW
