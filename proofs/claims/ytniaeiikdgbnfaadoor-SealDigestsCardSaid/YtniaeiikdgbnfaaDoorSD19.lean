/- The abstract walker, part 38: what comes in is a deep value: slices of integers, and slices of these. -/
import Derived.Test.YtniaeiikdgbnfaaDoorSD6
import Derived.ChangeSlices
import Derived.OpenShut
import Derived.ChangeOld
import Derived.SizedLaws
namespace Go.Proofs.YtniaeiikdgbnfaaDoor.AW
open Go Go.RowKit Go.ChangeShapes Go.WideShapes
set_option linter.unusedSectionVars false
set_option linter.unusedVariables false
variable [Globs]
variable {H : Type} {enc : TypeId × Value → H} {P : Program} {w : World} {base : Nat} {spare : Nat → Bool} {held : Bool}

theorem weightsAll_mem {e : TypeId} : ∀ {l : List (DataW H)} {d : DataW H} {n : Nat}, d ∈ l → n ∈ d.weights P e → n ∈ DataW.weightsAll P e l
  | x :: l, d, n, h, hn => by
    simp only [DataW.weightsAll, List.mem_append]
    rcases List.mem_cons.1 h with rfl | h
    · exact .inl hn
    · exact .inr (weightsAll_mem h hn)

theorem lit_wrap {k : IntKind} {n : Int} (h : (Lit.int k n).wf = true) : k.wrap n = n := by
  rw [wrap_in]
  cases k <;> simp [Lit.wf, IntKind.min, IntKind.max, loK, hiK, IntKind.bits, IntKind.signed] at h ⊢ <;> omega

theorem cell_lt {x : Addr} {v : Value} (h : w.cell? x = some v) : x.block < w.heap.size := by
  unfold World.cell? at h
  cases hb : w.heap[x.block]? with
  | none => simp [hb] at h
  | some o => exact (Array.getElem?_eq_some_iff.1 hb).1

theorem ints_in {t e : TypeId} {k : IntKind} {fuel : Nat} {cs : List Value} {x : DataW H × List MemPlace} (ht : P.underlying t = some (.slice e)) (he : P.underlying e = some (.int k)) (hc : P.cellsOf e = 1) (hb : 1 ≤ P.bytesOf e)
    (h : DataW.trod enc P w base spare held fuel t cs = some x) (hwt : ∀ n ∈ x.1.weights P t, n ≤ reachBytes) : ∃ xs : List Int, Rep w (fun b => b < w.heap.size) (.ints k xs) cs := by
  have hr := reachBytes_lt
  rcases open_ints ht he hc h with ⟨rfl, rfl⟩ | ⟨a, len, cap, zs, rfl, hba, hl, hm, hz, rfl, hcell, hwf⟩
  · refine ⟨[], ?_⟩
    simp only [Rep]
    exact ⟨none, 0, rfl, Nat.le_refl _, Nat.zero_le _, by simp, fun h => (h rfl).elim⟩
  · have hlz : len ≤ zs.length := by rw [hz]; split <;> omega
    have hln : (zs.take len).length = len := by rw [List.length_take]; omega
    have hs := hwt (((lits k (zs.take len) : List (DataW H)).length + (lits k (zs.drop len) : List (DataW H)).length) * P.bytesOf e) (by simp [DataW.weights, ht])
    simp only [lits, List.length_map, hln] at hs
    have h3 : len ≤ reachBytes := Nat.le_trans (Nat.le_add_right _ _) (Nat.le_trans (Nat.le_mul_of_pos_right _ hb) hs)
    refine ⟨zs.take len, ?_⟩
    simp only [Rep]
    refine ⟨some a, cap, by rw [hln], by omega, by rw [hln]; unfold LIM; omega, fun z hz' => lit_wrap (hwf z (List.mem_of_mem_take hz')), fun hne => ?_⟩
    have h0 : 0 < len := by
      rcases Nat.eq_zero_or_pos len with h | h
      · subst h; exact (hne rfl).elim
      · exact h
    have hc0 := hcell 0 (by omega)
    obtain ⟨b, off, spot⟩ := a
    have hspot : spot = none := by simpa [Addr.add] using World.cell?_spot hc0
    subst hspot
    refine ⟨b, off, rfl, by have := cell_lt hc0; simpa [Addr.add] using this, fun i v hi => ?_⟩
    rw [List.getElem?_map, List.getElem?_take] at hi
    split at hi
    · rename_i hil
      rw [List.getElem?_eq_getElem (by omega)] at hi
      simp only [Option.map_some, Option.some.injEq] at hi
      subst hi
      have := hcell i (by omega)
      rw [List.getD_eq_getElem?_getD, List.getElem?_eq_getElem (by omega), addr_add] at this
      exact this
    · simp at hi

theorem rows_in {t e b : TypeId} {k : IntKind} {fuel : Nat} {cs : List Value} {x : DataW H × List MemPlace} (ht : P.underlying t = some (.slice e)) (he : P.underlying e = some (.slice b)) (hbk : P.underlying b = some (.int k)) (hc : P.cellsOf e = 1) (hcb : P.cellsOf b = 1) (hb : 1 ≤ P.bytesOf e) (hbb : 1 ≤ P.bytesOf b)
    (h : DataW.trod enc P w base spare held fuel t cs = some x) (hwt : ∀ n ∈ x.1.weights P t, n ≤ reachBytes) : ∃ xss : List (List Int), Rep w (fun b => b < w.heap.size) (.sl 1 (xss.map (D.ints k))) cs := by
  have hr := reachBytes_lt
  rcases DataW.trod_slice ht h with ⟨rfl, rfl⟩ | ⟨a, len, cap, elems, rest, n, rfl, rfl, rfl, hba, hl, hm, hlen, hel, _, _⟩
  · refine ⟨[], ?_⟩
    simp only [List.map_nil, Rep]
    exact ⟨none, 0, rfl, Nat.le_refl _, Nat.zero_le _, fun h => (h rfl).elim⟩
  · have hs := hwt (((elems.map (·.1)).length + (rest.map (·.1)).length) * P.bytesOf e) (by simp [DataW.weights, ht])
    simp only [List.length_map, hlen] at hs
    have h3 : len ≤ reachBytes := Nat.le_trans (Nat.le_add_right _ _) (Nat.le_trans (Nat.le_mul_of_pos_right _ hb) hs)
    have each : ∀ i, i < len → ∃ v xs, w.cell? (a.add i) = some v ∧ Rep w (fun b => b < w.heap.size) (.ints k xs) [v] := fun i hi => by
      have h1 := hel i hi
      rw [hc, Nat.mul_one, List.getElem?_eq_getElem (by omega), Option.bind_eq_some_iff] at h1
      obtain ⟨cs', hcs, hy⟩ := h1
      have hcl := (World.cells?_some hcs).2.1
      obtain ⟨v, rfl⟩ : ∃ v, cs' = [v] := by
        match cs', hcl with
        | [v], _ => exact ⟨v, rfl⟩
      obtain ⟨xs, hxs⟩ := ints_in he hbk hcb hbb hy fun m hm => hwt m (by
        simp only [DataW.weights, ht, List.mem_cons, List.mem_append]
        exact .inr (.inl (weightsAll_mem (List.mem_map.2 ⟨_, List.getElem_mem (by omega), rfl⟩) hm)))
      exact ⟨v, xs, cell_of_cells?_one hcs, hxs⟩
    rcases Nat.eq_zero_or_pos len with h0 | h0
    · subst h0
      refine ⟨[], ?_⟩
      simp only [List.map_nil, Rep]
      exact ⟨some a, cap, rfl, by simp, Nat.zero_le _, fun h => (h rfl).elim⟩
    · obtain ⟨v0, _, hc0, _⟩ := each 0 h0
      obtain ⟨g, off, spot⟩ := a
      have hspot : spot = none := by simpa [Addr.add] using World.cell?_spot hc0
      subst hspot
      have core : ∀ m j, j + m = len → ∃ xss : List (List Int), xss.length = m ∧ RepRow w (fun b => b < w.heap.size) 1 (xss.map (D.ints k)) g (off + j) := by
        intro m
        induction m with
        | zero => exact fun j _ => ⟨[], rfl, by simp only [List.map_nil, RepRow]⟩
        | succ m ih =>
          intro j hj
          obtain ⟨v, xs, hv, hxs⟩ := each j (by omega)
          obtain ⟨xss, hl, hrr⟩ := ih (j + 1) (by omega)
          refine ⟨xs :: xss, by simp [hl], ?_⟩
          simp only [List.map_cons, RepRow]
          refine ⟨⟨[v], rfl, fun i u hu => ?_, hxs⟩, hrr⟩
          have hi : i = 0 := by
            have := (List.getElem?_eq_some_iff.1 hu).1
            simpa using this
          subst hi
          simp only [List.getElem?_cons_zero, Option.some.injEq] at hu
          subst hu
          rw [addr_add] at hv
          exact hv
      obtain ⟨xss, hxl, hrr⟩ := core len 0 (by omega)
      refine ⟨xss, ?_⟩
      simp only [Rep]
      refine ⟨some ⟨g, off, none⟩, cap, by rw [List.length_map, hxl], by rw [List.length_map]; omega, by rw [List.length_map]; unfold LIM; omega, fun _ => ⟨g, off, rfl, ?_, hrr⟩⟩
      have := cell_lt hc0
      simpa [Addr.add] using this

theorem weights_arg {ts : List TypeId} {ds : List (DataW H)} (h : (DataW.weightsEach P ts ds).all (· ≤ reachBytes) = true) {j : Nat} {t : TypeId} {d : DataW H} (ht : ts[j]? = some t) (hd : ds[j]? = some d) : ∀ n ∈ d.weights P t, n ≤ reachBytes := fun n hn => by
  have := List.all_eq_true.1 h _ (DataW.weights_mem_each ht hd n hn)
  simpa using this
end Go.Proofs.YtniaeiikdgbnfaaDoor.AW
