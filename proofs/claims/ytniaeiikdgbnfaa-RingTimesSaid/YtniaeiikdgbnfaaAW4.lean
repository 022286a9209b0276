/- The abstract walker, part 4: what the operations that leave the world alone come to. -/
import Derived.Test.YtniaeiikdgbnfaaAW3
namespace Go.Proofs.Ytniaeiikdgbnfaa.AW
open Go Go.RowKit

theorem VAll.sub {w : World} {β : Nat → Option Value} {S : Nat → Prop} : ∀ (xs : List AVal) (vs : List Value), VAll w β S xs vs → ∀ off n, VAll w β S ((xs.drop off).take n) ((vs.drop off).take n)
  | [], vs, h, off, n => by simp only [VAll] at h; subst h; simp [VAll]
  | x :: xs, vs, h, off, n => by
    simp only [VAll] at h
    obtain ⟨v, r, rfl, h1, h2⟩ := h
    cases off with
    | succ off => simpa using VAll.sub xs r h2 off n
    | zero =>
      cases n with
      | zero => simp [VAll]
      | succ n =>
        have := VAll.sub xs r h2 0 n
        simp only [List.drop_zero] at this ⊢
        simp only [List.take_succ_cons, VAll]
        exact ⟨v, _, rfl, h1, this⟩

theorem sizes_one : ∀ (es : List D), (∀ e ∈ es, e.size = 1) → D.sizes es = es.length
  | [], _ => by simp [D.sizes]
  | e :: es, h => by simp [D.sizes, h e (by simp), sizes_one es fun x hx => h x (List.mem_cons_of_mem _ hx)]; omega

theorem take_one_drop {α : Type} {l : List α} {i : Nat} (h : i < l.length) : (l.drop i).take 1 = [l[i]] := by
  rw [List.drop_eq_getElem_cons h, List.take_succ_cons, List.take_zero]

section
variable {P : Program} {C : Ctx} {s : AState} {β : Nat → Option Value} {S : Nat → Prop} {a : Act} {w : World}

/-- What an operation comes to, in each world that has all that stood there. -/
def Runs (P : Program) (w : World) (m : Sem Value) (v : Value) : Prop := ∀ w', Ext w w' → m.run P w' = .ok v w'
/-- Whatever the world. -/
def Runs0 (P : Program) (_ : World) (m : Sem Value) (v : Value) : Prop := ∀ w' : World, True → m.run P w' = .ok v w'

theorem Ext.cell {w w' : World} (h : Ext w w') {b o : Nat} (hb : b < w.heap.size) : w'.cell? ⟨b, o, none⟩ = w.cell? ⟨b, o, none⟩ :=
  World.cell?_of_block (a := ⟨b, o, none⟩) (h b hb)

theorem run_isAggT {w : World} {t : TypeId} {b : Bool} (h : aggT P t = some b) : (isAgg t).run P w = .ok b w := by
  unfold aggT at h
  cases hd : P.underlying t with
  | none => simp [hd] at h
  | some d =>
    simp only [isAgg, Sem.run_bind, run_underlying hd, Result.andThen_ok]
    rw [hd] at h
    cases d <;> simp_all [aggD]

theorem run_sizeT {w : World} {t : TypeId} {n : Nat} (h : szT P t = some n) : (sizeOf t).run P w = .ok n w := by
  unfold szT at h
  simp only [sizeOf, typeInfo, Sem.run_bind, run_program, Result.andThen_ok]
  cases hi : P.info? t with
  | none => simp [hi] at h
  | some i => simp [hi] at h; simp [h]

theorem addr_add (b o n : Nat) : (⟨b, o, none⟩ : Addr).add n = ⟨b, o + n, none⟩ := by
  unfold Addr.add; split <;> simp_all

theorem loadCells_run {w : World} {b o : Nat} {cs : List Value} (h : Cells w b o cs) : (loadCells ⟨b, o, none⟩ cs.length).run P w = .ok cs.toArray w := by
  refine run_loadCells_list w ⟨b, o, none⟩ cs ?_
  intro j v hv
  rw [addr_add]
  exact h j v hv

/-- A load out of memory that holds these cells. -/
theorem loadVar_run {w : World} {t : TypeId} {b o : Nat} {x : D} {cs : List Value} (h1 : aggT P t = some x.isAgg) (h2 : x.isAgg = true → szT P t = some x.size)
    (hr : cs.length = x.size) (hc : Cells w b o cs) : (loadVar t ⟨b, o, none⟩).run P w = .ok (packD x cs) w := by
  unfold loadVar
  simp only [Sem.run_bind, run_isAggT h1, Result.andThen_ok]
  cases x with
  | agg ds =>
    have h3 := h2 rfl
    simp only [D.isAgg, if_true, Sem.run_bind, run_sizeT h3, Result.andThen_ok]
    rw [← hr, loadCells_run hc]
    simp [packD]
  | _ =>
    simp only [D.size] at hr
    match cs, hr with
    | [u], _ =>
      have := hc 0 u rfl
      simp only [Nat.add_zero] at this
      simp [D.isAgg, packD, this]

theorem elem_sz {t : TypeId} {n : Nat} (h : szT P t = some n) : (P.info? t).isSome = true := by
  unfold szT at h
  cases hi : P.info? t <;> simp_all

theorem packD_one {x : D} {cs : List Value} (hx : x.isAgg = false) : packD x cs = cs.headD undef := by cases x <;> simp_all [D.isAgg, packD]

theorem ownsV_cell {w : World} {t : TypeId} {sz : Nat} {v : Value} {n : Nat} {vs : List Value} (h : OwnsV w t sz v n vs) (hn : 0 < n) :
    ∃ g cap, v = .slice (some ⟨g, 0, none⟩) n cap ∧ blk v = some g ∧ n ≤ cap ∧ Cells w g 0 vs ∧ vs.length = n * sz ∧ g < w.heap.size ∧ ∀ o, w.frozen? ⟨g, o, none⟩ = false := by
  rcases h with ⟨A, _, h0, _⟩ | ⟨g, cap, cur, e, hc, hh, hle, hm, hz, hl, ht⟩
  · omega
  · refine ⟨g, cap, e, by rw [e]; simp [blk]; omega, hle, ?_, hl, ?_, fun o => by simp [World.frozen?, hh]⟩
    · intro i u hu
      simp only [World.cell?, hh, Option.isSome_none, Bool.false_eq_true, if_false, Nat.zero_add]
      rw [← ht] at hu
      have hi : i < n * sz := by
        have := (List.getElem?_eq_some_iff.1 hu).1
        simp at this; omega
      rw [List.getElem?_take_of_lt hi] at hu
      simpa using hu
    · rcases Nat.lt_or_ge g w.heap.size with h | h
      · exact h
      · rw [Array.getElem?_eq_none h] at hh; cases hh

/-- The block of an object lies in the world. -/
theorem ARelB.blk_lt (h : ARelB C s β S a w) {j : Nat} {o : Ob} (ho : getO s.st j = some o) {b : Nat} (hb : (β j).bind blk = some b) : b < w.heap.size :=
  (h.st.own b ⟨j, o, getO_mem ho, hb⟩).2

theorem qLoad_sound (h : ARelB C s β S a w) {t : TypeId} {x : AVal} {v : Value} {K : AVal → Prop} (hx : VRel w β S x v) (hq : qLoad P s t x K) :
    ∃ u r, Runs P w (Instr.loadAt t v) u ∧ VRel w β S r u ∧ K r := by
  unfold qLoad at hq
  split at hq
  · rename_i y
    obtain ⟨h1, h2, hK⟩ := hq
    simp only [VRel, Rep] at hx
    obtain ⟨cs, ⟨b, o, rfl, hb, vs, hc, hr⟩, rfl⟩ := hx
    refine ⟨packD y vs, .d y, fun w' hw => ?_, by simp only [VRel]; exact ⟨vs, hr, rfl⟩, hK⟩
    have hc' : Cells w' b o vs := hc.keep (hw b (h.st.inS b hb))
    simp only [packD, List.headD_cons, Instr.loadAt, Instr.sureAddr, Sem.run_bind, Sem.run_pure, Result.andThen_ok]
    exact loadVar_run h1 h2 (Rep.size _ _ hr) hc'
  · rename_i j off
    split at hq
    · rename_i t' cs ho
      obtain ⟨bv, hβ0, hob⟩ := h.st.obj j _ (getO_mem ho)
      simp only [ORel] at hob
      obtain ⟨g, vs, hβ, hh, hv⟩ := hob
      simp only [VRel] at hx
      obtain ⟨b, hb, rfl⟩ := hx
      have hbg : b = g := by rw [hβ0, hβ] at hb; simpa [blk] using hb.symm
      subst hbg
      have hlt : b < w.heap.size := h.blk_lt ho hb
      have hlen := VAll.length _ _ hv
      split at hq
      · rename_i hagg
        obtain ⟨h1, h2, hK⟩ := hq
        obtain ⟨n, hn⟩ := Option.isSome_iff_exists.1 h2
        rw [hn] at h1 hK
        simp only [Option.getD_some] at h1 hK
        have hcells : Cells w b off ((vs.toList.drop off).take n) := by
          intro i u hu
          simp only [World.cell?, hh, Option.isSome_none, Bool.false_eq_true, if_false]
          have hi : i < n := by
            have := (List.getElem?_eq_some_iff.1 hu).1
            simp at this; omega
          rw [List.getElem?_take_of_lt hi, List.getElem?_drop] at hu
          simpa using hu
        have hl2 : ((vs.toList.drop off).take n).length = n := by simp at hlen ⊢; omega
        refine ⟨.agg ((vs.toList.drop off).take n).toArray, .ag t ((cs.drop off).take n), fun w' hw => ?_, ?_, hK⟩
        · have hc' := hcells.keep (hw b hlt)
          simp only [Instr.loadAt, Instr.sureAddr, Sem.run_bind, Sem.run_pure, Result.andThen_ok, loadVar, run_isAggT hagg, if_true, run_sizeT hn]
          have := loadCells_run (P := P) hc'
          rw [hl2] at this
          rw [this]; rfl
        · simp only [VRel]
          refine ⟨_, rfl, ?_⟩
          exact VAll.sub _ _ hv off n
      · rename_i hagg
        split at hq
        · rename_i u hu
          obtain ⟨val, hval, hr⟩ := VAll.get _ _ hv off u hu
          refine ⟨val, u, fun w' hw => ?_, hr, hq⟩
          have hc : w'.cell? ⟨b, off, none⟩ = some val := by
            rw [hw.cell hlt]
            simp only [World.cell?, hh, Option.isSome_none, Bool.false_eq_true, if_false]
            simpa using hval
          simp only [Instr.loadAt, Instr.sureAddr, Sem.run_bind, Sem.run_pure, Result.andThen_ok, loadVar, run_isAggT hagg, Bool.false_eq_true, if_false]
          simp [hc]
        · exact hq.elim
      · exact hq.elim
    · rename_i k t' xs ho
      obtain ⟨hagg, hlt0, hK⟩ := hq
      obtain ⟨bv, hβ0, hob⟩ := h.st.obj j _ (getO_mem ho)
      simp only [ORel] at hob
      obtain ⟨hown, hwf, _⟩ := hob
      obtain ⟨g, cap, hβ, hbg, hle, hc, hl, hlt, _⟩ := ownsV_cell hown (by omega)
      simp only [VRel] at hx
      obtain ⟨b, hb, rfl⟩ := hx
      rw [hβ0, Option.bind_some, hbg] at hb; injection hb with hb; subst hb
      have hget : xs[off]? = some (xs.getD off 0) := by simp [List.getD, List.getElem?_eq_getElem hlt0]
      refine ⟨.int k (xs.getD off 0), _, fun w' hw => ?_, ?_, hK⟩
      · have hc1 := hc off (.int k (xs.getD off 0)) (by simp [hlt0])
        simp only [Nat.zero_add] at hc1
        rw [← hw.cell hlt] at hc1
        simp only [Instr.loadAt, Instr.sureAddr, Sem.run_bind, Sem.run_pure, Result.andThen_ok, loadVar, run_isAggT hagg, Bool.false_eq_true, if_false]
        simp [hc1]
      · simp only [VRel, Rep]
        exact ⟨_, ⟨rfl, hwf _ (List.mem_of_getElem? hget)⟩, rfl⟩
    · rename_i t' sz es ho
      obtain ⟨rfl, hagg, hlt0, hone, hK⟩ := hq
      obtain ⟨bv, hβ0, hob⟩ := h.st.obj j _ (getO_mem ho)
      simp only [ORel] at hob
      obtain ⟨vs, hown, hall, hsz, _⟩ := hob
      obtain ⟨g, cap, hβ, hbg, hle, hc, hl, hlt, _⟩ := ownsV_cell hown (by omega)
      simp only [VRel] at hx
      obtain ⟨b, hb, rfl⟩ := hx
      rw [hβ0, Option.bind_some, hbg] at hb; injection hb with hb; subst hb
      have hget : es[off]? = some (es.getD off default) := by simp [List.getD, List.getElem?_eq_getElem hlt0]
      have hrep := RepAll.get es vs hall off _ hget
      have hsize1 : ∀ (m : Nat), m ≤ es.length → D.sizes (es.take m) = m := by
        intro m hm
        exact sizes_one (es.take m) (fun e he => hsz e (List.mem_of_mem_take he)) |>.trans (by simp; omega)
      rw [hsize1 off (by omega), hsz _ (List.mem_of_getElem? hget)] at hrep
      have hvl : off < vs.length := by rw [hl]; omega
      rw [take_one_drop hvl] at hrep
      refine ⟨vs[off], _, fun w' hw => ?_, ?_, hK⟩
      · have hc1 := hc off vs[off] (List.getElem?_eq_getElem hvl)
        simp only [Nat.zero_add] at hc1
        rw [← hw.cell hlt] at hc1
        simp only [Instr.loadAt, Instr.sureAddr, Sem.run_bind, Sem.run_pure, Result.andThen_ok, loadVar, run_isAggT hagg, Bool.false_eq_true, if_false]
        simp [hc1]
      · simp only [VRel]
        exact ⟨_, hrep, by rw [packD_one hone]; rfl⟩
    · exact hq.elim
  · exact hq.elim

end
end Go.Proofs.Ytniaeiikdgbnfaa.AW
