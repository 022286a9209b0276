/- The abstract walker, part 5: more of the operations that leave the world alone. -/
import Derived.Test.YtniaeiikdgbnfaaAW4
namespace Go.Proofs.Ytniaeiikdgbnfaa.AW
open Go Go.RowKit

section
variable {P : Program} {C : Ctx} {s : AState} {β : Nat → Option Value} {S : Nat → Prop} {a : Act} {w : World}

theorem RunsP.pure {v : Value} : Runs0 P w (Pure.pure v) v := fun _ _ => rfl

theorem qNil_sound {x : AVal} {v : Value} {K : AVal → Prop} (hx : VRel w β S x v) (hq : qNil x K) {o : Oper} {y : Operand} (ho : o.op = .nilCheck y) (hy : a.eval y = v) :
    ∃ r, (∀ w', (execOp a.eval o).run P w' = .ok (.value v) w') ∧ VRel w β S r v ∧ K r := by
  unfold qNil at hq
  split at hq
  · refine ⟨_, fun w' => ?_, hx, hq⟩
    simp only [VRel, Rep] at hx
    obtain ⟨cs, ⟨b, o', rfl, _⟩, rfl⟩ := hx
    simp [execOp, ho, hy, packD]
  · refine ⟨_, fun w' => ?_, hx, hq⟩
    simp only [VRel, Rep] at hx
    obtain ⟨cs, ⟨vs, rfl, _⟩, rfl⟩ := hx
    simp [execOp, ho, hy, packD]
  · refine ⟨_, fun w' => ?_, hx, hq⟩
    simp only [VRel] at hx
    obtain ⟨b, _, rfl⟩ := hx
    simp [execOp, ho, hy]
  · refine ⟨_, fun w' => ?_, hx, hq⟩
    simp only [VRel] at hx
    obtain ⟨vs, rfl, _⟩ := hx
    simp [execOp, ho, hy]
  · exact hq.elim

theorem part_run {w : World} {t : TypeId} {cs : List Value} {off : Nat} {y : D} (h1 : aggT P t = some y.isAgg) (h2 : y.isAgg = true → szT P t = some y.size)
    (hsz : ((cs.drop off).take y.size).length = y.size) : (part t cs.toArray off).run P w = .ok (packD y ((cs.drop off).take y.size)) w := by
  unfold part
  simp only [Sem.run_bind, run_isAggT h1, Result.andThen_ok]
  cases hy : y.isAgg with
  | true =>
    simp only [if_true, Sem.run_bind, run_sizeT (h2 hy), Result.andThen_ok, Sem.run_pure]
    cases y <;> simp_all [D.isAgg, packD]
  | false =>
    simp only [Bool.false_eq_true, if_false]
    rw [packD_one hy]
    have h1 : y.size = 1 := by cases y <;> simp_all [D.isAgg, D.size]
    rw [h1] at hsz ⊢
    have hlt : off < cs.length := by simp at hsz; omega
    have : cs.toArray[off]? = some cs[off] := by simp [hlt]
    rw [this]
    simp only [Sem.run_pure]
    rw [take_one_drop hlt]
    simp

theorem qField_sound {t : TypeId} {x : AVal} {v : Value} {f : Nat} {K : AVal → Prop} (hx : VRel w β S x v) (hq : qField P t x f K) :
    ∃ u r, (∀ w' : World, True → (Instr.field t v f).run P w' = .ok u w') ∧ VRel w β S r u ∧ K r := by
  unfold qField at hq
  split at hq
  · rename_i fs hu
    split at hq
    · rename_i fd hf
      split at hq
      · rename_i ds
        split at hq
        · rename_i y hy
          obtain ⟨h1, h2, h3, hK⟩ := hq
          simp only [VRel, Rep] at hx
          obtain ⟨cs, hall, rfl⟩ := hx
          have hr := RepAll.get ds cs hall f y hy
          rw [h1] at hr
          refine ⟨packD y ((cs.drop fd.offset).take y.size), .d y, fun w' _ => ?_, by simp only [VRel]; exact ⟨_, hr, rfl⟩, hK⟩
          have h' := part_run (P := P) (w := w') (cs := cs) (off := fd.offset) h2 h3 (Rep.size _ _ hr)
          simp only [Instr.field, Sem.run_bind, run_underlying hu, Result.andThen_ok, hf, packD, asAgg, Sem.run_pure, h']
        · exact hq.elim
      · rename_i cs
        obtain ⟨h1, hq⟩ := hq
        split at hq
        · rename_i r hr
          simp only [VRel] at hx
          obtain ⟨vs, rfl, hall⟩ := hx
          obtain ⟨u, hu', hru⟩ := VAll.get _ _ hall _ _ hr
          refine ⟨u, r, fun w' _ => ?_, hru, hq⟩
          have : vs[fd.offset]? = some u := by simpa using hu'
          simp only [Instr.field, Sem.run_bind, run_underlying hu, Result.andThen_ok, hf, asAgg, Sem.run_pure, part, run_isAggT h1, Bool.false_eq_true, if_false, this]
        · exact hq.elim
      · exact hq.elim
    · exact hq.elim
  · exact hq.elim

theorem Cells.sub {w : World} {b o : Nat} {vs : List Value} (h : Cells w b o vs) (i n : Nat) : Cells w b (o + i) ((vs.drop i).take n) := by
  intro k u hu
  have hk : k < n := by
    have := (List.getElem?_eq_some_iff.1 hu).1
    simp at this; omega
  rw [List.getElem?_take_of_lt hk, List.getElem?_drop] at hu
  rw [Nat.add_assoc]
  exact h _ u hu

theorem qFieldAddr_sound {t : TypeId} {x : AVal} {v : Value} {f : Nat} {K : AVal → Prop} (hx : VRel w β S x v) (hq : qFieldAddr P t x f K) :
    ∃ u r, Runs0 P w (Instr.fieldAt t v f) u ∧ VRel w β S r u ∧ K r := by
  unfold qFieldAddr at hq
  split at hq
  · rename_i fs hu
    split at hq
    · rename_i fd hf
      obtain ⟨hn0, hq⟩ := hq
      obtain ⟨n, hn⟩ := posB_spec hn0
      have hrun : ∀ (b o : Nat) (w' : World), (Instr.fieldAt t (.pointer (some ⟨b, o, none⟩)) f).run P w' = .ok (.pointer (some ⟨b, o + fd.offset, none⟩)) w' := fun b o w' => by
        simp only [Instr.fieldAt, Sem.run_bind, run_underlying hu, Result.andThen_ok, hf, Instr.sureAddr, Sem.run_pure, fieldPlace, run_sizeT hn, Nat.add_eq_zero_iff, Nat.one_ne_zero, and_false, if_false, addr_add]
      split at hq
      · rename_i ds
        split at hq
        · rename_i y hy
          obtain ⟨h1, hK⟩ := hq
          simp only [VRel, Rep] at hx
          obtain ⟨cs, ⟨b, o, rfl, hb, vs, hc, hall⟩, rfl⟩ := hx
          have hr := RepAll.get ds vs hall f y hy
          rw [h1] at hr
          refine ⟨.pointer (some ⟨b, o + fd.offset, none⟩), .d (.ptr y), fun w' _ => by simpa [packD] using hrun b o w', ?_, hK⟩
          simp only [VRel, Rep]
          exact ⟨_, ⟨b, _, rfl, hb, _, hc.sub fd.offset y.size, hr⟩, rfl⟩
        · exact hq.elim
      · rename_i j off
        simp only [VRel] at hx
        obtain ⟨b, hb, rfl⟩ := hx
        exact ⟨_, _, fun w' _ => hrun b off w', by simp only [VRel]; exact ⟨b, hb, rfl⟩, hq⟩
      · exact hq.elim
    · exact hq.elim
  · exact hq.elim

theorem dv_int {x : AVal} {v : Value} {k : IntKind} {n : Int} (hx : VRel w β S x v) (hd : dv x = some (.int k n)) : v = .int k n ∧ k.wrap n = n := by
  obtain ⟨cs, hr, rfl⟩ := dv_rel hx hd
  simp only [Rep] at hr
  obtain ⟨rfl, hw⟩ := hr
  exact ⟨rfl, hw⟩

theorem d_int {v : Value} {k : IntKind} {n : Int} (hx : VRel w β S (.d (.int k n)) v) : v = .int k n ∧ k.wrap n = n := dv_int hx rfl

theorem qIndexAddr_sound (h : ARelB C s β S a w) {t : TypeId} {x i : AVal} {v u : Value} {K : AVal → Prop} (hx : VRel w β S x v) (hi : VRel w β S i u) (hq : qIndexAddr P s t x i K) :
    ∃ y r, Runs0 P w (Instr.indexAt t v u) y ∧ VRel w β S r y ∧ K r := by
  unfold qIndexAddr at hq
  split at hq
  · rename_i k n hd
    obtain ⟨rfl, hkn⟩ := dv_int hi hd
    split at hq
    · rename_i e hu
      have hrun : ∀ (b o len c sz : Nat) (w' : World), szT P e = some sz → 0 ≤ n → n < len →
          (Instr.indexAt t (.slice (some ⟨b, o, none⟩) len c) (.int k n)).run P w' = .ok (.pointer (some ⟨b, o + n.toNat * sz, none⟩)) w' := fun b o len c sz w' hsz h0 h1 => by
        simp only [Instr.indexAt, asIntOf, Sem.run_bind, Sem.run_pure, Result.andThen_ok, run_underlying hu, h0, h1, and_self, if_true, run_sizeT hsz, addr_add]
      split at hq
      · rename_i kk xs
        obtain ⟨h1, h0, hlt, hK⟩ := hq
        simp only [VRel, Rep] at hx
        obtain ⟨cs, ⟨A, c, rfl, _, _, hwf, hne⟩, rfl⟩ := hx
        have hlt' : n.toNat < xs.length := by omega
        obtain ⟨b, o, rfl, hb, hc⟩ := hne (by intro e; subst e; simp at hlt')
        have hget : xs[n.toNat]? = some (xs.getD n.toNat 0) := by simp [List.getD, List.getElem?_eq_getElem hlt']
        refine ⟨.pointer (some ⟨b, o + n.toNat, none⟩), _, fun w' _ => by simpa [packD] using hrun b o xs.length c 1 w' h1 h0 hlt, ?_, hK⟩
        simp only [VRel, Rep]
        refine ⟨[.pointer (some ⟨b, o + n.toNat, none⟩)], ⟨b, o + n.toNat, rfl, hb, [.int kk (xs.getD n.toNat 0)], ?_, rfl, hwf _ (List.mem_of_getElem? hget)⟩, rfl⟩
        intro i w hw
        cases i with
        | zero =>
          simp at hw; subst hw
          simpa using hc n.toNat (.int kk (xs.getD n.toNat 0)) (by simp [hlt'])
        | succ i => simp at hw
      · rename_i sz es
        obtain ⟨h1, h0, hlt, hK⟩ := hq
        simp only [VRel, Rep] at hx
        obtain ⟨cs, ⟨A, c, rfl, _, _, hne⟩, rfl⟩ := hx
        have hlt' : n.toNat < es.length := by omega
        obtain ⟨b, o, rfl, hb, hrow⟩ := hne (by intro e; subst e; simp at hlt')
        have hget : es[n.toNat]? = some (es.getD n.toNat default) := by simp [List.getD, List.getElem?_eq_getElem hlt']
        obtain ⟨vs, hl, hc, hr⟩ := RepRow.get es b o hrow _ _ hget
        refine ⟨.pointer (some ⟨b, o + n.toNat * sz, none⟩), _, fun w' _ => by simpa [packD] using hrun b o es.length c sz w' h1 h0 hlt, ?_, hK⟩
        simp only [VRel, Rep]
        exact ⟨[.pointer (some ⟨b, o + n.toNat * sz, none⟩)], ⟨b, o + n.toNat * sz, rfl, hb, vs, hc, hr⟩, rfl⟩
      · rename_i j
        split at hq
        · rename_i kk t' xs ho
          obtain ⟨h1, h0, hlt, hK⟩ := hq
          obtain ⟨bv, hβ0, hob⟩ := h.st.obj j _ (getO_mem ho)
          simp only [ORel] at hob
          obtain ⟨g, cap, hβ, hbg, _⟩ := ownsV_cell hob.1 (by omega)
          simp only [VRel] at hx
          rw [hβ0] at hx; injection hx with hx; subst hx
          refine ⟨.pointer (some ⟨g, n.toNat, none⟩), _, fun w' _ => ?_, ?_, hK⟩
          · rw [hβ]; simpa using hrun g 0 xs.length cap 1 w' h1 h0 hlt
          · simp only [VRel]; exact ⟨g, by rw [hβ0]; exact hbg, rfl⟩
        · rename_i t' sz es ho
          obtain ⟨h1, h0, hlt, hK⟩ := hq
          obtain ⟨bv, hβ0, hob⟩ := h.st.obj j _ (getO_mem ho)
          simp only [ORel] at hob
          obtain ⟨vs, hown, _⟩ := hob
          obtain ⟨g, cap, hβ, hbg, _⟩ := ownsV_cell hown (by omega)
          simp only [VRel] at hx
          rw [hβ0] at hx; injection hx with hx; subst hx
          refine ⟨.pointer (some ⟨g, n.toNat * sz, none⟩), _, fun w' _ => ?_, ?_, hK⟩
          · rw [hβ]; simpa using hrun g 0 es.length cap sz w' h1 h0 hlt
          · simp only [VRel]; exact ⟨g, by rw [hβ0]; exact hbg, rfl⟩
        · exact hq.elim
      · rename_i j off len
        obtain ⟨h1, h0, hlt, hK⟩ := hq
        simp only [VRel] at hx
        obtain ⟨A, c, rfl, hle, hA⟩ := hx
        obtain ⟨b, hb, rfl⟩ := hA (by omega)
        refine ⟨.pointer (some ⟨b, off + n.toNat, none⟩), _, fun w' _ => by simpa using hrun b off len c 1 w' h1 h0 hlt, ?_, hK⟩
        simp only [VRel]; exact ⟨b, hb, rfl⟩
      · exact hq.elim
    · rename_i len e hu
      split at hq
      · rename_i j off
        obtain ⟨h1, h0, hlt, hK⟩ := hq
        simp only [VRel] at hx
        obtain ⟨b, hb, rfl⟩ := hx
        refine ⟨.pointer (some ⟨b, off + n.toNat, none⟩), _, fun w' _ => ?_, by simp only [VRel]; exact ⟨b, hb, rfl⟩, hK⟩
        simp only [Instr.indexAt, asIntOf, Sem.run_bind, Sem.run_pure, Result.andThen_ok, run_underlying hu, Instr.sureAddr, h0, hlt, and_self, if_true, run_sizeT h1, addr_add, Nat.mul_one]
      · exact hq.elim
    · exact hq.elim
  · exact hq.elim

end
end Go.Proofs.Ytniaeiikdgbnfaa.AW
