/- The abstract walker, part 9: operations that write or make memory; the walk itself. -/
import Derived.Test.YtniaeiikdgbnfaaAW8
namespace Go.Proofs.Ytniaeiikdgbnfaa.AW
open Go Go.RowKit
set_option linter.unusedSimpArgs false

mutual
def flatD : D → List D
  | .agg ds => flatDs ds
  | d => [d]
def flatDs : List D → List D
  | [] => []
  | d :: ds => flatD d ++ flatDs ds
end

/-- Cells put together by a type. -/
def asm (P : Program) : Nat → TypeId → List D → D
  | 0, _, _ => .nilp
  | n + 1, t, ds =>
    match P.underlying t with
    | some (.struct fs) => .agg (fs.toList.map fun f => asm P n f.type ((ds.drop f.offset).take ((szT P f.type).getD 0)))
    | some (.array len e) => .agg ((List.range len).map fun i => asm P n e ((ds.drop (i * (szT P e).getD 0)).take ((szT P e).getD 0)))
    | _ => ds.headD .nilp

/-- The cells of a value. -/
def cellsV : AVal → Option (List AVal)
  | .d x => some ((flatD x).map .d)
  | .ag _ cs => some cs
  | .tup _ => none
  | .un => none
  | .any => none
  | v => some [v]

def AState.newO : AState → Ob → AState
  | ⟨n, fr, st, nx⟩, o => ⟨n, fr, (nx, o) :: st, nx + 1⟩
/-- A new object, and its number. -/
def AState.new : AState → Ob → (AState → Nat → Prop) → Prop
  | ⟨n, fr, st, nx⟩, o, K => K ⟨n, fr, (nx, o) :: st, nx + 1⟩ nx

/-- The fence that keeps nobody out, in a round or not. -/
def fence (rd : Option Nat) : Fence := { Fence.wide with round := rd }

/-- Semantics: one operation, a piece of code, a call. -/
structure AWp (P : Program) (C : Ctx) (c : Code) (s : AState) (Q : Exit → AState → Prop) : Prop where
  run : ∀ a w, ARel C s a w → c.wpIn (fence C.rd) 0 P (fun e a' w' => ∃ s', ARel C s' a' w' ∧ Q e s') a w

def Enters (P : Program) (f : FuncId) : Prop := ∃ fn, P.funcs[f]? = some fn ∧ fn.body.isNone = false ∧ (fn.name == "runtime.NumGoroutine") = false

def eStore (P : Program) (s : AState) (t : TypeId) (x v : AVal) (K : AState → Prop) : Prop :=
  match x with
  | .optr j off =>
    match getO s.st j with
    | some (.row k e xs) =>
      (match v with
      | .d (.int k' n) => k' = k ∧ szT P t = some 1 ∧ off < xs.length ∧ K (s.withSt (setO j (.row k e (xs.set off n)) s.st))
      | _ => False)
    | some (.rowD e sz es) =>
      (match dv v with
      | some y => sz = 1 ∧ szT P t = some 1 ∧ y.isAgg = false ∧ off < es.length ∧ K (s.withSt (setO j (.rowD e sz (es.set off y)) s.st))
      | none => False)
    | some (.cell e cs) =>
      (match cellsV v with
      | some us => szT P t = some us.length ∧ off + us.length ≤ cs.length ∧ K (s.withSt (setO j (.cell e (cs.take off ++ us ++ cs.drop (off + us.length))) s.st))
      | none => False)
    | none => False
  | _ => False

def intsOf (k : IntKind) : List D → Option (List Int)
  | [] => some []
  | .int k' n :: r => if k' = k then (match intsOf k r with
    | some ns => some (n :: ns)
    | none => none) else none
  | _ => none

def zeroD (P : Program) (e : TypeId) : D := constT P 6 e ((((P.info? e).bind (·.zero)).map (·.cells.toList)).getD [])

def eMake (P : Program) (s : AState) (t : TypeId) (l c : AVal) (K : AState → AVal → Prop) : Prop :=
  match P.underlying t, l, c with
  | some (.slice e), .d (.int _ n), .d (.int _ m) => n = m ∧ 0 ≤ n ∧ n ≤ 1073741824 ∧
    (match P.info? e with
    | some i => i.bytes ≤ 256 ∧
      (match P.underlying e with
      | some (.int k) => i.zero = some (.int k 0) ∧ i.size = 1 ∧ (s.new (.row k e (List.replicate n.toNat 0)) fun s' j => K s' (.own j))
      | _ =>
        match i.zero with
        | some z => 0 < i.size ∧ (zeroD P e).size = i.size ∧ z.cells.size = i.size ∧ repCB (zeroD P e) z.cells.toList = true ∧ (s.new (.rowD e i.size (List.replicate n.toNat (zeroD P e))) fun s' j => K s' (.own j))
        | none => False)
    | none => False)
  | _, _, _ => False

theorem madeCells_one (z : Value) (n : Nat) : (madeCells #[z] n).toList = List.replicate n z := by
  unfold madeCells
  apply List.ext_getElem?
  intro i
  simp only [Array.toList_map, Array.toList_range, List.getElem?_map, List.getElem?_replicate]
  by_cases h : i < n <;> simp [h, Nat.mod_one]

theorem madeCells_many (z : Array Value) : ∀ (n : Nat), 0 < z.size → (madeCells z (n * z.size)).toList = (List.replicate n z.toList).flatten
  | 0, _ => by simp [madeCells]
  | n + 1, hz => by
    have ih := madeCells_many z n hz
    unfold madeCells at ih ⊢
    simp only [Array.toList_map, Array.toList_range] at ih ⊢
    rw [show (n + 1) * z.size = z.size + n * z.size by rw [Nat.add_mul]; omega, List.range_add, List.map_append, List.map_map, List.replicate_succ, List.flatten_cons, ← ih]
    congr 1
    · apply List.ext_getElem?
      intro i
      by_cases h : i < z.size
      · simp [h, Nat.mod_eq_of_lt h]
      · simp [h]
    · apply List.map_congr_left
      intro i _
      simp

theorem RepAll_replicate {w : World} {S : Nat → Prop} {d : D} {cs : List Value} (h : Rep w S d cs) : ∀ n, RepAll w S (List.replicate n d) (List.replicate n cs).flatten
  | 0 => by simp [RepAll]
  | n + 1 => by
    simp only [List.replicate_succ, List.flatten_cons, RepAll]
    exact ⟨_, _, rfl, h, RepAll_replicate h n⟩

section
variable {P : Program} {C : Ctx} {s : AState} {β : Nat → Option Value} {S : Nat → Prop} {a : Act} {w : World}

theorem grown_alloc (w : World) (o : Obj) : w.grownBy (w.alloc o) none :=
  ⟨rfl, rfl, rfl, by simp, fun k hk _ => Below.heap_alloc _ _ _ hk⟩

/-- A new block of cells is a new owned object. -/
theorem ARelB.alloc_row (h : ARelB C s β S a w) {k : IntKind} {e : TypeId} {xs : List Int} {n cap : Nat} {cur : Array Value} (hx : xs.length = n) (hc : n ≤ cap) (hm : cap ≤ maxLen) (hL : n ≤ LIM) (hcur : cur.size = cap)
    (htake : cur.toList.take n = xs.map (Value.int k)) (hwf : ∀ x ∈ xs, k.wrap x = x) :
    ARelB C (s.newO (.row k e xs)) (updO β s.nx (.slice (some ⟨w.heap.size, 0, none⟩) n cap)) S a (w.alloc (.cells cur e)) := by
  refine h.fresh (grown_alloc _ _) (fun b hb => ?_) ?_
  · simp only [blk] at hb
    split at hb
    · cases hb
    · injection hb with hb; subst hb; simp
  · simp only [ORel]
    refine ⟨?_, hwf, by omega⟩
    by_cases h0 : cap = 0
    · refine .inl ⟨some ⟨w.heap.size, 0, none⟩, ?_, by omega, ?_⟩
      · rw [h0]; congr 1; omega
      · have : xs = [] := List.eq_nil_of_length_eq_zero (by omega)
        simp [this]
    · refine .inr ⟨w.heap.size, cap, cur, by rw [hx], by omega, heap_alloc_new w _, by omega, hm, by simpa using hcur, by simp, ?_⟩
      rw [hx]; simpa using htake

/-- What a step that may change the world comes to. -/
def Does (P : Program) (C : Ctx) (a : Act) (w : World) (m : Sem Value) (K : AState → AVal → Prop) : Prop :=
  ∃ v w' s' r β', m.run P w = .ok v w' ∧ ∃ S', ARelB C s' β' S' a w' ∧ VRel w' β' S' r v ∧ K s' r

/-- The same, where nothing that stood there is turned. -/
def DoesX (P : Program) (C : Ctx) (a : Act) (w : World) (m : Sem Value) (K : AState → AVal → Prop) : Prop :=
  ∃ v w' s' r β', m.run P w = .ok v w' ∧ Ext w w' ∧ ∃ S', ARelB C s' β' S' a w' ∧ VRel w' β' S' r v ∧ K s' r
theorem Ext.alloc (w : World) (o : Obj) : Ext w (w.alloc o) := fun _ h => Below.heap_alloc _ _ _ h

theorem eMake_sound (h : ARelB C s β S a w) {t : TypeId} {l c : AVal} {lv cv : Value} {K : AState → AVal → Prop} (hl : VRel w β S l lv) (hc : VRel w β S c cv) (hq : eMake P s t l c K) :
    DoesX P C a w (Instr.makeSlice t lv cv) K := by
  unfold eMake at hq
  split at hq
  · rename_i e k n k' m hu
    obtain ⟨rfl, h0, hn, hq⟩ := hq
    obtain ⟨rfl, _⟩ := d_int hl
    obtain ⟨rfl, _⟩ := d_int hc
    split at hq
    · rename_i i hi
      obtain ⟨hb, hq⟩ := hq
      have hbytes : (i.bytes : Int) * n ≤ 281474976710656 := by
        have h1 : (i.bytes : Int) ≤ 256 := by omega
        have h2 : (i.bytes : Int) * n ≤ 256 * n := Int.mul_le_mul_of_nonneg_right h1 h0
        omega
      have hmax : n.toNat ≤ maxLen := by unfold maxLen; omega
      have hlim : n.toNat ≤ LIM := by unfold LIM; omega
      split at hq
      · rename_i k0 hk
        obtain ⟨hz, hsz, hK⟩ := hq
        have hrun := run_make (P := P) w t e i (.int k0 0) hu hi hz k k' n n h0 (Int.le_refl _) hbytes (by omega)
        rw [hsz, Nat.mul_one] at hrun
        have hmc := madeCells_one (.int k0 0) n.toNat
        refine ⟨_, _, _, .own s.nx, updO β s.nx (.slice (some ⟨w.heap.size, 0, none⟩) n.toNat n.toNat), hrun, Ext.alloc _ _, S, ?_, ?_, hK⟩
        · refine h.alloc_row (k := k0) (e := e) (xs := List.replicate n.toNat 0) (by simp) (Nat.le_refl _) hmax hlim ?_ ?_ ?_
          · exact size_madeCells _ _
          · simp only [Value.cells, hmc]; simp
          · intro x hx; rw [(List.mem_replicate.1 hx).2, wrap_in]; cases k0 <;> simp [loK, hiK]
        · simp only [VRel, updO, if_true]
      · split at hq
        · rename_i z hz
          obtain ⟨hpos, hds, hzs, hrep, hK⟩ := hq
          replace hrep := repCB_ok _ _ hrep
          have hrun := run_make (P := P) w t e i z hu hi hz k k' n n h0 (Int.le_refl _) hbytes (by omega)
          rw [← hzs] at hrun hpos hds
          have hmc := madeCells_many z.cells n.toNat hpos
          have hlen : (madeCells z.cells (n.toNat * z.cells.size)).size = n.toNat * z.cells.size := size_madeCells _ _
          refine ⟨_, _, _, .own s.nx, updO β s.nx (.slice (some ⟨w.heap.size, 0, none⟩) n.toNat n.toNat), hrun, Ext.alloc _ _, S, ?_, ?_, hK⟩
          · refine h.fresh (grown_alloc _ _) (fun b hb => ?_) ?_
            · simp only [blk] at hb
              split at hb
              · cases hb
              · injection hb with hb; subst hb; simp
            · simp only [ORel, ← hzs]
              refine ⟨(madeCells z.cells (n.toNat * z.cells.size)).toList, ?_, ?_, fun e he => ?_, by simpa using hlim, hpos⟩
              · by_cases h00 : n.toNat = 0
                · exact .inl ⟨some ⟨w.heap.size, 0, none⟩, by rw [h00], by simp [h00], by simp [h00, madeCells]⟩
                · refine .inr ⟨w.heap.size, n.toNat, _, by simp, by omega, heap_alloc_new w _, by simp, hmax, hlen, by simp [hlen], ?_⟩
                  rw [List.take_of_length_le (by simp [hlen])]
              · rw [hmc]; exact RepAll_replicate (RepC.rep _ _ hrep) _
              · rw [(List.mem_replicate.1 he).2]; exact hds
          · simp only [VRel, updO, if_true]
        · exact hq.elim
    · exact hq.elim
  · exact hq.elim

/-! ### Stores -/
theorem oneCell_int (k : IntKind) (n : Int) : (Value.int k n).oneCell' = true := rfl

theorem storeAt_run {w : World} {t : TypeId} {b o : Nat} {v u : Value} (h1 : v.oneCell' = true) (hc : v.cells = #[v]) (hsz : szT P t = some 1) (hcell : w.cell? ⟨b, o, none⟩ = some u) (hf : w.frozen? ⟨b, o, none⟩ = false) :
    (Instr.storeAt t (.pointer (some ⟨b, o, none⟩)) v).run P w = .ok () (w.setCell ⟨b, o, none⟩ v) := by
  simp only [Instr.storeAt, Instr.sureAddr, Sem.run_bind, Sem.run_pure, Result.andThen_ok, storeVar, run_sizeT hsz, hc, List.size_toArray, List.length_cons, List.length_nil]
  simp only [Nat.zero_add, ne_eq, not_true_eq_false, if_false, storeCells, Sem.run_bind, addr_add, Nat.add_zero, run_store _ _ _ _ _ h1, stored, hcell, hf]
  simp

theorem grown_set (w : World) (b o : Nat) (v : Value) : w.grownBy (w.setCell ⟨b, o, none⟩ v) (some b) :=
  ⟨rfl, rfl, rfl, by simp [World.setCell], fun k _ hne => Below.heap_setCell _ _ _ _ (fun e => hne (by rw [e]))⟩

theorem heap_set {w : World} {b o : Nat} {v : Value} {cur : Array Value} {t : TypeId} {fz : Nat × Nat} (h : w.heap[b]? = some (.cells cur t fz)) :
    (w.setCell ⟨b, o, none⟩ v).heap[b]? = some (.cells (cur.setIfInBounds o v) t fz) := by
  simp [World.setCell, Array.getElem?_modify, h]

theorem take_set_lt {l : List Value} {i n : Nat} {v : Value} : (l.set i v).take n = (l.take n).set i v := by
  rw [List.take_set]

theorem ownsV_store {w : World} {t : TypeId} {v : Value} {n : Nat} {vs : List Value} (h : OwnsV w t 1 v n vs) {i : Nat} (hi : i < n) (u : Value) :
    ∃ g cap cur, v = .slice (some ⟨g, 0, none⟩) n cap ∧ blk v = some g ∧ w.heap[g]? = some (.cells cur t (0, 0)) ∧ i < cur.size ∧ OwnsV (w.setCell ⟨g, i, none⟩ u) t 1 v n (vs.set i u) := by
  rcases h with ⟨A, _, h0, _⟩ | ⟨g, cap, cur, e, hc, hh, hle, hm, hz, hl, ht⟩
  · omega
  · refine ⟨g, cap, cur, e, by rw [e]; simp [blk]; omega, hh, by omega, .inr ⟨g, cap, cur.setIfInBounds i u, e, hc, heap_set hh, hle, hm, by simpa using hz, by simpa using hl, ?_⟩⟩
    rw [Array.toList_setIfInBounds, take_set_lt, ht]

theorem cell_of {w : World} {g i : Nat} {cur : Array Value} {t : TypeId} {fz : Nat × Nat} (h : w.heap[g]? = some (.cells cur t fz)) (hi : i < cur.size) : ∃ u, w.cell? ⟨g, i, none⟩ = some u :=
  ⟨cur[i], by simp [World.cell?, h, hi]⟩

theorem unfrozen {w : World} {g i : Nat} {cur : Array Value} {t : TypeId} (h : w.heap[g]? = some (.cells cur t (0, 0))) : w.frozen? ⟨g, i, none⟩ = false := by simp [World.frozen?, h]

theorem rep_oneCell {w : World} {S : Nat → Prop} {y : D} {cs : List Value} (h : Rep w S y cs) (hy : y.isAgg = false) : ∃ u, cs = [u] ∧ u.oneCell' = true ∧ u.cells = #[u] := by
  cases y <;> simp only [Rep, D.isAgg] at h hy
  case int k n => exact ⟨_, h.1, rfl, rfl⟩
  case bool b => exact ⟨_, h, rfl, rfl⟩
  case str xs => obtain ⟨s, h, _⟩ := h; exact ⟨_, h, rfl, rfl⟩
  case raw v =>
    obtain ⟨h1, h2⟩ := h
    refine ⟨_, h1, ?_, ?_⟩ <;> cases v <;> simp_all [plainV, Value.oneCell', Value.cells]
  case ints k xs => obtain ⟨A, c, h, _⟩ := h; exact ⟨_, h, rfl, rfl⟩
  case sl sz es => obtain ⟨A, c, h, _⟩ := h; exact ⟨_, h, rfl, rfl⟩
  case ptr d => obtain ⟨b, o, h, _⟩ := h; exact ⟨_, h, rfl, rfl⟩
  case nilp => exact ⟨_, h, rfl, rfl⟩
  case agg ds => cases hy
  case fn f caps => obtain ⟨vs, h, _⟩ := h; exact ⟨_, h, rfl, rfl⟩

theorem RepAll_set {w : World} {S : Nat → Prop} : ∀ {es : List D} {vs : List Value} {i : Nat} {y : D} {u : Value}, (∀ e ∈ es, e.size = 1) → RepAll w S es vs → Rep w S y [u] → RepAll w S (es.set i y) (vs.set i u)
  | [], vs, i, y, u, _, h, hy => by simp only [RepAll] at h; subst h; simp [RepAll]
  | e :: es, vs, i, y, u, h1, h, hy => by
    simp only [RepAll] at h
    obtain ⟨c1, c2, rfl, h2, h3⟩ := h
    have hs := Rep.size _ _ h2
    rw [h1 e (by simp)] at hs
    match c1, hs with
    | [x], _ =>
      cases i with
      | zero => simp only [List.set_cons_zero, List.cons_append, List.nil_append, RepAll]; exact ⟨[u], c2, rfl, hy, h3⟩
      | succ i =>
        simp only [List.set_cons_succ, List.cons_append, List.nil_append, RepAll]
        exact ⟨[x], _, rfl, h2, RepAll_set (fun a ha => h1 a (List.mem_cons_of_mem _ ha)) h3 hy⟩

/-- What a store comes to. -/
def DoesU (P : Program) (C : Ctx) (a : Act) (w : World) (m : Sem Unit) (K : AState → Prop) : Prop :=
  ∃ w' s', m.run P w = .ok () w' ∧ ARel C s' a w' ∧ K s'

theorem VAll.append {w : World} {β : Nat → Option Value} {S : Nat → Prop} : ∀ {xs ys : List AVal} {as bs : List Value}, VAll w β S xs as → VAll w β S ys bs → VAll w β S (xs ++ ys) (as ++ bs)
  | [], ys, as, bs, h1, h2 => by simp only [VAll] at h1; subst h1; simpa using h2
  | x :: xs, ys, as, bs, h1, h2 => by
    simp only [VAll] at h1
    obtain ⟨v, r, rfl, h3, h4⟩ := h1
    simp only [List.cons_append, VAll]
    exact ⟨v, _, rfl, h3, VAll.append h4 h2⟩

theorem VAll.splice {w : World} {β : Nat → Option Value} {S : Nat → Prop} {cs us : List AVal} {vs ws : List Value} (h : VAll w β S cs vs) (hu : VAll w β S us ws) (off : Nat) :
    VAll w β S (cs.take off ++ us ++ cs.drop (off + us.length)) (vs.take off ++ ws ++ vs.drop (off + us.length)) := by
  have h1 : VAll w β S (cs.take off) (vs.take off) := by simpa using VAll.sub cs vs h 0 off
  have h2 : VAll w β S (cs.drop (off + us.length)) (vs.drop (off + us.length)) := by
    have := VAll.sub cs vs h (off + us.length) cs.length
    rwa [List.take_of_length_le (by simp), List.take_of_length_le (by simp [VAll.length _ _ h])] at this
  exact VAll.append (VAll.append h1 hu) h2

theorem one_rep {w : World} {β : Nat → Option Value} {S : Nat → Prop} {d : D} {cs : List Value} (h : Rep w S d cs) (hd : d.isAgg = false) (hf : flatD d = [d]) : VAll w β S ((flatD d).map .d) cs := by
  obtain ⟨u, rfl, _⟩ := rep_oneCell h hd
  rw [hf]
  simp only [List.map_cons, List.map_nil, VAll, VRel]
  exact ⟨u, [], rfl, ⟨[u], h, by rw [packD_one hd]; rfl⟩, rfl⟩

mutual
theorem flat_rep {w : World} {β : Nat → Option Value} {S : Nat → Prop} : ∀ (d : D) (cs : List Value), Rep w S d cs → VAll w β S ((flatD d).map .d) cs
  | .agg ds, cs, h => by simp only [Rep] at h; simp only [flatD]; exact flats_rep ds cs h
  | .int k n, cs, h => one_rep h rfl rfl
  | .bool b, cs, h => one_rep h rfl rfl
  | .str xs, cs, h => one_rep h rfl rfl
  | .raw v, cs, h => one_rep h rfl rfl
  | .ints k xs, cs, h => one_rep h rfl rfl
  | .sl sz es, cs, h => one_rep h rfl rfl
  | .ptr d, cs, h => one_rep h rfl rfl
  | .nilp, cs, h => one_rep h rfl rfl
  | .fn f caps, cs, h => one_rep h rfl rfl
theorem flats_rep {w : World} {β : Nat → Option Value} {S : Nat → Prop} : ∀ (ds : List D) (cs : List Value), RepAll w S ds cs → VAll w β S ((flatDs ds).map .d) cs
  | [], cs, h => by simp only [RepAll] at h; simp only [flatDs, List.map_nil, VAll]; exact h
  | d :: ds, cs, h => by
    simp only [RepAll] at h
    obtain ⟨c1, c2, rfl, h1, h2⟩ := h
    have e1 := flat_rep (β := β) d c1 h1
    have e2 := flats_rep (β := β) ds c2 h2
    simp only [flatDs, List.map_append]
    exact VAll.append e1 e2
end
end
end Go.Proofs.Ytniaeiikdgbnfaa.AW
