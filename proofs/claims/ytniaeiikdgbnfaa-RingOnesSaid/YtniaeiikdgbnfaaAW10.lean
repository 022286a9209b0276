/- The abstract walker, part 10: stores, new variables, copies, appends. -/
import Derived.Test.YtniaeiikdgbnfaaAW9
import Derived.Laws.IdiomCopy
namespace Go.Proofs.Ytniaeiikdgbnfaa.AW
open Go Go.RowKit

def oneV (st : List (Nat × Ob)) : AVal → Bool
  | .d x => !x.isAgg
  | .em _ | .nls _ | .view .. | .optr .. | .ofn .. => true
  | .own j => (getO st j).isSome
  | _ => false

section
variable {P : Program} {C : Ctx} {s : AState} {β : Nat → Option Value} {S : Nat → Prop} {a : Act} {w : World}

theorem ownsV_slice {w : World} {t : TypeId} {sz : Nat} {v : Value} {n : Nat} {vs : List Value} (h : OwnsV w t sz v n vs) : ∃ A c, v = .slice A n c := by
  rcases h with ⟨A, e1, e2, _⟩ | ⟨g, cap, cur, e1, _⟩
  · exact ⟨A, 0, by rw [e1, e2]⟩
  · exact ⟨_, cap, e1⟩

theorem oneV_cell (h : ARelB C s β S a w) {x : AVal} {v : Value} (hx : VRel w β S x v) (h1 : oneV s.st x = true) : v.oneCell' = true ∧ v.cells = #[v] := by
  cases x <;> simp only [oneV] at h1
  case d y =>
    simp only [VRel] at hx
    obtain ⟨cs, hr, rfl⟩ := hx
    have hy : y.isAgg = false := by simpa using h1
    obtain ⟨u, rfl, h2, h3⟩ := rep_oneCell hr hy
    rw [packD_one hy]
    exact ⟨h2, h3⟩
  case em y => simp only [VRel] at hx; obtain ⟨⟨A, rfl⟩, _⟩ := hx; exact ⟨rfl, rfl⟩
  case nls y => simp only [VRel] at hx; obtain ⟨rfl, _⟩ := hx; exact ⟨rfl, rfl⟩
  case own j =>
    obtain ⟨o, ho⟩ := Option.isSome_iff_exists.1 h1
    obtain ⟨bv, hβ0, hob⟩ := h.st.obj j _ (getO_mem ho)
    simp only [VRel] at hx
    rw [hβ0] at hx; injection hx with hx; subst hx
    cases o <;> simp only [ORel] at hob
    · obtain ⟨A, c, rfl⟩ := ownsV_slice hob.1; exact ⟨rfl, rfl⟩
    · obtain ⟨vs, hv, _⟩ := hob; obtain ⟨A, c, rfl⟩ := ownsV_slice hv; exact ⟨rfl, rfl⟩
    · obtain ⟨b, vs, rfl, _⟩ := hob; exact ⟨rfl, rfl⟩
  case view j o l => simp only [VRel] at hx; obtain ⟨A, c, rfl, _⟩ := hx; exact ⟨rfl, rfl⟩
  case optr j o => simp only [VRel] at hx; obtain ⟨b, _, rfl⟩ := hx; exact ⟨rfl, rfl⟩
  case ofn f cs => simp only [VRel] at hx; obtain ⟨vs, rfl, _⟩ := hx; exact ⟨rfl, rfl⟩
  all_goals cases h1

theorem oneV_cells (h : ARelB C s β S a w) : ∀ {xs : List AVal} {vs : List Value}, VAll w β S xs vs → xs.all (oneV s.st) = true → ∀ v ∈ vs, v.oneCell' = true
  | [], vs, hx, _ => by simp only [VAll] at hx; subst hx; simp
  | x :: xs, vs, hx, h1 => by
    simp only [VAll] at hx
    obtain ⟨v, r, rfl, h2, h3⟩ := hx
    simp only [List.all_cons, Bool.and_eq_true] at h1
    intro u hu
    rcases List.mem_cons.1 hu with rfl | hu
    · exact (oneV_cell h h2 h1.1).1
    · exact oneV_cells h h3 h1.2 u hu

/-- A value's cells. -/
theorem cellsV_rel (h : ARelB C s β S a w) {x : AVal} {v : Value} (hx : VRel w β S x v) {us : List AVal} (hc : cellsV x = some us) (h1 : us.all (oneV s.st) = true) : VAll w β S us v.cells.toList := by
  cases x <;> simp only [cellsV] at hc
  case d y =>
    injection hc with hc; subst hc
    simp only [VRel] at hx
    obtain ⟨cs, hr, rfl⟩ := hx
    cases hy : y.isAgg with
    | true =>
      cases y <;> simp [D.isAgg] at hy
      simpa [packD, Value.cells] using flat_rep (β := β) _ _ hr
    | false =>
      obtain ⟨u, rfl, _, h3⟩ := rep_oneCell hr hy
      rw [packD_one hy]
      simp only [List.headD_cons, h3]
      exact flat_rep (β := β) _ _ hr
  case ag _ cs =>
    injection hc with hc; subst hc
    simp only [VRel] at hx
    obtain ⟨vs, rfl, hv⟩ := hx
    exact hv
  all_goals first
    | (injection hc with hc; subst hc
       simp only [List.all_cons, List.all_nil, Bool.and_true] at h1
       rw [(oneV_cell h hx h1).2]
       simp only [VAll]
       exact ⟨_, _, rfl, hx, rfl⟩)
    | (cases hc)

theorem heap_setCells {b : Nat} {t : TypeId} {fz : Nat × Nat} : ∀ (vs : List Value) (o : Nat) (w : World) (cur : Array Value), w.heap[b]? = some (.cells cur t fz) → o + vs.length ≤ cur.size →
    ∃ cur' : Array Value, (w.setCells b o vs).heap[b]? = some (.cells cur' t fz) ∧ cur'.toList = cur.toList.take o ++ vs ++ cur.toList.drop (o + vs.length) ∧ cur'.size = cur.size
  | [], o, w, cur, h, _ => ⟨cur, h, by simp, rfl⟩
  | v :: vs, o, w, cur, h, hl => by
    simp only [List.length_cons] at hl
    obtain ⟨cur', h1, h2, h3⟩ := heap_setCells vs (o + 1) (w.setCell ⟨b, o, none⟩ v) (cur.setIfInBounds o v) (heap_set h) (by simp; omega)
    refine ⟨cur', h1, ?_, by simpa using h3⟩
    rw [h2, Array.toList_setIfInBounds]
    have hlt : o < cur.toList.length := by simp; omega
    rw [List.drop_set_of_lt (by omega)]
    have : (cur.toList.set o v).take (o + 1) = cur.toList.take o ++ [v] := by
      rw [List.take_set, List.take_succ_eq_append_getElem hlt, List.set_append_right _ _ (by simp; omega)]
      have : o - min o cur.size = 0 := by simp at hlt; omega
      simp [this]
    rw [this]
    simp only [List.length_cons, List.append_assoc, List.cons_append, List.nil_append]
    rw [show o + 1 + vs.length = o + (vs.length + 1) by omega]

theorem grown_setCells (b : Nat) : ∀ (vs : List Value) (o : Nat) (w : World), w.grownBy (w.setCells b o vs) (some b)
  | [], o, w => World.grownBy.refl w _
  | v :: vs, o, w => by
    have h1 := grown_set w b o v
    have h2 := grown_setCells b vs (o + 1) (w.setCell ⟨b, o, none⟩ v)
    exact ⟨h2.os.trans h1.os, h2.tape.trans h1.tape, h2.output.trans h1.output, Nat.le_trans h1.size h2.size, fun k hk hne => (h2.block k (Nat.lt_of_lt_of_le hk h1.size) hne).trans (h1.block k hk hne)⟩

theorem storeCells_run {w : World} {b o : Nat} {vs : List Value} {cur : Array Value} {t : TypeId} (h : w.heap[b]? = some (.cells cur t (0, 0))) (hl : o + vs.length ≤ cur.size) (h1 : ∀ v ∈ vs, v.oneCell' = true) :
    (storeCells ⟨b, o, none⟩ vs).run P w = .ok () (w.setCells b o vs) := by
  have := run_storeCells_cells (P := P) b o vs 0 w (fun j hj => ?_) (fun j _ => unfrozen h) h1
  · simpa using this
  · obtain ⟨u, hu⟩ := cell_of h (i := o + 0 + j) (by omega)
    rw [hu]; rfl

theorem eStore_sound (h : ARelB C s β S a w) {t : TypeId} {x y : AVal} {u v : Value} {K : AState → Prop} (hx : VRel w β S x u) (hy : VRel w β S y v)
    (hone : ∀ us, cellsV y = some us → us.all (oneV s.st) = true) (hq : eStore P s t x y K) : DoesU P C a w (Instr.storeAt t u v) K := by
  unfold eStore at hq
  split at hq
  · rename_i j off
    simp only [VRel] at hx
    obtain ⟨b, hb, rfl⟩ := hx
    split at hq
    · rename_i k e xs ho
      obtain ⟨bv, hβ0, hob⟩ := h.st.obj j _ (getO_mem ho)
      simp only [ORel] at hob
      split at hq
      · rename_i k' n
        obtain ⟨rfl, hsz, hlt, hK⟩ := hq
        obtain ⟨rfl, hwn⟩ := d_int hy
        obtain ⟨g, cap, cur, e1, hbg, hh, hi, hown'⟩ := ownsV_store hob.1 hlt (.int k' n)
        rw [hβ0, Option.bind_some, hbg] at hb; injection hb with hb; subst hb
        obtain ⟨c, hc⟩ := cell_of hh hi
        refine ⟨_, _, storeAt_run rfl rfl hsz hc (unfrozen hh), ⟨β, S, h.touch (o' := .row k' e (xs.set off n)) (getO_mem ho) hβ0 (by rw [hbg]; exact grown_set _ _ _ _) ?_⟩, hK⟩
        simp only [ORel]
        refine ⟨by simpa using hown', fun z hz => ?_, by simpa using hob.2.2⟩
        rcases List.mem_or_eq_of_mem_set hz with hz | rfl
        · exact hob.2.1 z hz
        · exact hwn
      · exact hq.elim
    · rename_i e sz es ho
      obtain ⟨bv, hβ0, hob⟩ := h.st.obj j _ (getO_mem ho)
      simp only [ORel] at hob
      obtain ⟨vs, hown, hall, hsizes, hlim, _⟩ := hob
      split at hq
      · rename_i y' hd
        obtain ⟨rfl, hsz, hagg, hlt, hK⟩ := hq
        obtain ⟨cs, hr, rfl⟩ := dv_rel hy hd
        obtain ⟨uu, rfl, ho1, ho2⟩ := rep_oneCell hr hagg
        rw [packD_one hagg]
        obtain ⟨g, cap, cur, e1, hbg, hh, hi, hown'⟩ := ownsV_store hown hlt uu
        rw [hβ0, Option.bind_some, hbg] at hb; injection hb with hb; subst hb
        obtain ⟨c, hc⟩ := cell_of hh hi
        have hg : w.grownBy (w.setCell ⟨g, off, none⟩ uu) (blk bv) := by rw [hbg]; exact grown_set _ _ _ _
        refine ⟨_, _, storeAt_run ho1 ho2 hsz hc (unfrozen hh), ⟨β, S, h.touch (o' := .rowD e 1 (es.set off y')) (getO_mem ho) hβ0 hg ?_⟩, hK⟩
        have himm := h.imm hg (fun g e => ⟨j, _, getO_mem ho, by rw [hβ0]; exact e⟩)
        simp only [ORel]
        refine ⟨vs.set off uu, by simpa using hown', RepAll.keep himm _ _ (RepAll_set hsizes hall hr), fun z hz => ?_, by simpa using hlim, by omega⟩
        rcases List.mem_or_eq_of_mem_set hz with hz | rfl
        · exact hsizes z hz
        · have := Rep.size _ _ hr; simpa using this.symm
      · exact hq.elim
    · rename_i e cs ho
      obtain ⟨bv, hβ0, hob⟩ := h.st.obj j _ (getO_mem ho)
      simp only [ORel] at hob
      obtain ⟨g, vs, hbv, hh, hall⟩ := hob
      split at hq
      · rename_i us hus
        obtain ⟨hsz, hle, hK⟩ := hq
        have hone' := hone us hus
        have hcells := cellsV_rel h hy hus hone'
        have hlen := VAll.length _ _ hcells
        have hlen2 := VAll.length _ _ hall
        have hbg : blk bv = some g := by rw [hbv]; rfl
        rw [hβ0, Option.bind_some, hbg] at hb; injection hb with hb; subst hb
        have hfit : off + v.cells.toList.length ≤ vs.size := by rw [hlen]; simp at hlen2; omega
        have hrun : (Instr.storeAt t (.pointer (some ⟨g, off, none⟩)) v).run P w = .ok () (w.setCells g off v.cells.toList) := by
          simp only [Instr.storeAt, Instr.sureAddr, Sem.run_bind, Sem.run_pure, Result.andThen_ok, storeVar, run_sizeT hsz]
          rw [if_neg (by simpa using hlen)]
          exact storeCells_run hh hfit (oneV_cells h hcells hone')
        obtain ⟨cur', hh', hl', hs'⟩ := heap_setCells v.cells.toList off w vs hh hfit
        have hg : w.grownBy (w.setCells g off v.cells.toList) (blk bv) := by rw [hbg]; exact grown_setCells _ _ _ _
        refine ⟨_, _, hrun, ⟨β, S, h.touch (o' := .cell e (cs.take off ++ us ++ cs.drop (off + us.length))) (getO_mem ho) hβ0 hg ?_⟩, hK⟩
        have himm := h.imm hg (fun g e => ⟨j, _, getO_mem ho, by rw [hβ0]; exact e⟩)
        simp only [ORel]
        refine ⟨g, cur', hbv, hh', ?_⟩
        rw [hl', hlen]
        exact VAll.keep himm (fun _ _ e => e) _ _ (VAll.splice hall hcells off)
      · exact hq.elim
    · exact hq.elim
  · exact hq.elim

end
end Go.Proofs.Ytniaeiikdgbnfaa.AW
