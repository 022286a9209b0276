/- The abstract walker, part 12: what new variables, appends and copies come to. -/
import Derived.Test.YtniaeiikdgbnfaaAW11
namespace Go.Proofs.Ytniaeiikdgbnfaa.AW
open Go Go.RowKit

section
variable {P : Program} {C : Ctx} {s : AState} {β : Nat → Option Value} {S : Nat → Prop} {a : Act} {w : World}

theorem zV_leaf {d : D} {cs : List Value} (h : RepC d cs) (hd : d.isAgg = false) (hf : flatD d = [d]) (hz : zV d = .d d) : VAll w β S ((flatD d).map zV) cs := by
  have hr := RepC.rep (w := w) (S := S) _ _ h
  obtain ⟨u, rfl, _⟩ := rep_oneCell hr hd
  rw [hf]
  simp only [List.map_cons, List.map_nil, hz, VAll, VRel]
  exact ⟨u, [], rfl, ⟨[u], hr, by rw [packD_one hd]; rfl⟩, rfl⟩

/-- A new block of cells. -/
theorem new_cell (h : ARelB C s β S a w) {e : TypeId} {us : List AVal} {cs : Array Value} (hc : VAll w β S us cs.toList) :
    ARelB C (s.newO (.cell e us)) (updO β s.nx (.pointer (some ⟨w.heap.size, 0, none⟩))) S a (w.alloc (.cells cs e)) := by
  refine h.fresh (grown_alloc _ _) (fun b hb => ?_) ?_
  · simp only [blk] at hb
    injection hb with hb; subst hb; simp
  · simp only [ORel]
    refine ⟨w.heap.size, cs, rfl, heap_alloc_new w _, VAll.keep (fun b hb => ⟨hb, Below.heap_alloc _ _ _ (h.st.inS b hb)⟩) (fun j u e => ?_) _ _ hc⟩
    unfold updO
    rw [if_neg]
    · exact e
    · rintro rfl; rw [h.nx _ (Nat.le_refl _)] at e; cases e

mutual
theorem zV_rel : ∀ (d : D) (cs : List Value), RepC d cs → VAll w β S ((flatD d).map zV) cs
  | .agg ds, cs, h => by simp only [RepC] at h; simp only [flatD]; exact zVs_rel ds cs h
  | .int k n, cs, h => zV_leaf h rfl rfl rfl
  | .bool b, cs, h => zV_leaf h rfl rfl rfl
  | .str xs, cs, h => zV_leaf h rfl rfl rfl
  | .raw v, cs, h => zV_leaf h rfl rfl rfl
  | .ints k xs, cs, h => by
    simp only [RepC] at h
    obtain ⟨rfl, rfl⟩ := h
    simp [flatD, zV, VAll, VRel, emptyD]
  | .sl sz es, cs, h => by
    simp only [RepC] at h
    obtain ⟨rfl, rfl⟩ := h
    simp [flatD, zV, VAll, VRel, emptyD]
  | .ptr d, cs, h => zV_leaf h rfl rfl rfl
  | .nilp, cs, h => zV_leaf h rfl rfl rfl
  | .fn f caps, cs, h => zV_leaf h rfl rfl rfl
theorem zVs_rel : ∀ (ds : List D) (cs : List Value), RepCs ds cs → VAll w β S ((flatDs ds).map zV) cs
  | [], cs, h => by simp only [RepCs] at h; simp only [flatDs, List.map_nil, VAll]; exact h
  | d :: ds, cs, h => by
    simp only [RepCs] at h
    have e1 := zV_rel d _ h.1
    have e2 := zVs_rel ds _ h.2
    simp only [flatDs, List.map_append]
    have := VAll.append e1 e2
    rwa [List.take_append_drop] at this
end

theorem eAlloc_sound (h : ARelB C s β S a w) {e : TypeId} {K : AState → AVal → Prop} (hq : eAlloc P s e K) : DoesX P C a w (Instr.alloc e true (.tuple #[])) K := by
  unfold eAlloc at hq
  split at hq
  · rename_i i hi
    split at hq
    · rename_i z hz
      obtain ⟨hr, hK⟩ := hq
      have hrun : (Instr.alloc e true (.tuple #[])).run P w = .ok (.pointer (some ⟨w.heap.size, 0, none⟩)) (w.alloc (.cells z.cells e)) := by
        simp only [Instr.alloc, Sem.run_bind, zeroValue, typeInfo, run_program, Result.andThen_ok, hi, Sem.run_pure, hz, newVar, newRow]
        rfl
      refine ⟨_, _, _, .optr s.nx 0, updO β s.nx (.pointer (some ⟨w.heap.size, 0, none⟩)), hrun, Ext.alloc _ _, S, ?_, ?_, hK⟩
      · exact new_cell h (zV_rel _ _ (repCB_ok _ _ hr))
      · simp only [VRel, updO, if_true]; exact ⟨w.heap.size, rfl, rfl⟩
    · exact hq.elim
  · exact hq.elim

theorem eBox_sound (h : ARelB C s β S a w) {e : TypeId} {x : AVal} {v : Value} {K : AState → AVal → Prop} (hx : VRel w β S x v) (hq : eBox s e x K) : DoesX P C a w (Instr.box e v) K := by
  unfold eBox at hq
  split at hq
  · rename_i us hus
    obtain ⟨h1, hK⟩ := hq
    have hcells := cellsV_rel h hx hus h1
    have hrun : (Instr.box e v).run P w = .ok (.pointer (some ⟨w.heap.size, 0, none⟩)) (w.alloc (.cells v.cells e)) := by
      simp only [Instr.box, Sem.run_bind, newVar, newRow]
      rfl
    refine ⟨_, _, _, .optr s.nx 0, updO β s.nx (.pointer (some ⟨w.heap.size, 0, none⟩)), hrun, Ext.alloc _ _, S, new_cell h hcells, ?_, hK⟩
    simp only [VRel, updO, if_true]; exact ⟨w.heap.size, rfl, rfl⟩
  · exact hq.elim

/-! ### Appends -/
theorem ownsV_of {w : World} {base : Nat} {e : TypeId} {sz : Nat} {v : Value} {n : Nat} {xs : List Value} (h : w.ownsRow base e sz v n xs) : OwnsV w e sz v n xs := by
  obtain ⟨hl, h⟩ := h
  rcases h with ⟨e1, e2⟩ | ⟨g, cap, cur, e1, _, hh, hle, hm, hz, ht⟩
  · refine .inl ⟨none, e1, e2, ?_⟩
    subst e2; simpa using hl
  · by_cases hc : cap = 0
    · refine .inl ⟨some ⟨g, 0, none⟩, ?_, by omega, ?_⟩
      · rw [e1, hc]; congr 1; omega
      · have : n = 0 := by omega
        subst this; simpa using hl
    · exact .inr ⟨g, cap, cur, e1, by omega, hh, hle, hm, hz, hl, ht⟩

theorem append_zero_run {w : World} {t t2 ty e e2 : TypeId} {i : TypeInfo} (ht : P.underlying t = some (.slice e)) (ht2 : P.underlying t2 = some (.slice e2)) (hi : P.info? e = some i) {A A' : Option Addr} {n c c' : Nat} (hn : n ≤ c) :
    (Builtin.append_ #[t, t2] ty #[.slice A n c, .slice A' 0 c']).run P w = .ok (.slice A n c) w := by
  cases A' with
  | none => cases A <;> simp [Builtin.append_, run_underlying ht, run_underlying ht2, sizeOf, typeInfo, hi, Builtin.lenOf, Builtin.firstCells, hn, storeCells]
  | some a' =>
    have hl : ∀ w', (loadCells a' 0).run P w' = .ok #[] w' := fun w' => by simpa using run_loadCells_list (P := P) w' a' [] (by simp)
    cases A <;> simp [Builtin.append_, run_underlying ht, run_underlying ht2, sizeOf, typeInfo, hi, Builtin.lenOf, Builtin.firstCells, hn, storeCells, hl]

theorem append_types {w : World} {t t2 ty e e2 : TypeId} {i : TypeInfo} (ht : P.underlying t = some (.slice e)) (ht2 : P.underlying t2 = some (.slice e2)) (hi : P.info? e = some i) (A A' : Option Addr) (n c m c' : Nat) :
    (Builtin.append_ #[t, t2] ty #[.slice A n c, .slice A' m c']).run P w = (Builtin.append_ #[t, t] ty #[.slice A n c, .slice A' m c']).run P w := by
  simp [Builtin.append_, run_underlying ht, run_underlying ht2, sizeOf, typeInfo, hi, Builtin.lenOf]

/-- A slice without capacity: as nil. -/
theorem append_nocap {w : World} {t ty e : TypeId} {i : TypeInfo} (ht : P.underlying t = some (.slice e)) (hi : P.info? e = some i) {b : Addr} {A' : Option Addr} {m c' : Nat} (hm : 0 < m) (hb : m * i.bytes ≤ 140737488355328) :
    (Builtin.append_ #[t, t] ty #[.slice (some b) 0 0, .slice A' m c']).run P w = (Builtin.append_ #[t, t] ty #[.slice none 0 0, .slice A' m c']).run P w := by
  have hl : ∀ w', (loadCells b 0).run P w' = .ok #[] w' := fun w' => by simpa using run_loadCells_list (P := P) w' b [] (by simp)
  have hcap : Builtin.nextslicecap m 0 = m := by simp [Builtin.nextslicecap, hm]
  have hbig : ¬ (281474976710656 < m * i.bytes) := by omega
  have hm0 : m ≠ 0 := by omega
  simp [Builtin.append_, run_underlying ht, sizeOf, typeInfo, hi, Builtin.lenOf, Builtin.firstCells, hcap, hbig, hm0, hl]

/-- What an append comes to. -/
theorem append_run {t t2 ty e e2 : TypeId} {i : TypeInfo} {z : Value} (ht : P.underlying t = some (.slice e)) (ht2 : P.underlying t2 = some (.slice e2)) (hi : P.info? e = some i) (hz : i.zero = some z)
    (hzs : z.cells.size = i.size) (hsz : 0 < i.size) (hby : 1 ≤ i.bytes) {v : Value} {n : Nat} {xs : List Value} (hown : OwnsV w e i.size v n xs) {A' : Option Addr} {m c' : Nat} {news : List Value} (hl : news.length = m * i.size)
    (hne : 0 < m → ∃ b o, A' = some ⟨b, o, none⟩ ∧ Cells w b o news) (h1 : ∀ u ∈ news, u.oneCell' = true) (hbytes : (n + m) * i.bytes ≤ 140737488355328) :
    ∃ v' w', (Builtin.append_ #[t, t2] ty #[v, .slice A' m c']).run P w = .ok v' w' ∧ OwnsV w' e i.size v' (n + m) (xs ++ news) ∧ w.grownBy w' (blk v) ∧
      ∀ b, blk v' = some b → (blk v = some b ∨ (w.heap.size ≤ b ∧ b < w'.heap.size)) := by
  rcases Nat.eq_zero_or_pos m with h0 | h0
  · subst h0
    have : news = [] := List.eq_nil_of_length_eq_zero (by simpa using hl)
    subst this
    obtain ⟨A, c, rfl⟩ := ownsV_slice hown
    have hle : n ≤ c := by
      rcases hown with ⟨A, e1, e2, _⟩ | ⟨g, cap, cur, e1, _, _, hle, _⟩
      · omega
      · injection e1 with _ _ e3; omega
    exact ⟨_, _, append_zero_run ht ht2 hi hle, by simpa using hown, World.grownBy.refl w _, fun b hb => .inl hb⟩
  · obtain ⟨b, o, rfl, hc⟩ := hne h0
    have hnm : n + m ≤ 140737488355328 := Nat.le_trans (Nat.le_mul_of_pos_right _ hby) hbytes
    have hmax : n + m ≤ maxLen := by unfold maxLen; omega
    have core : ∀ {v : Value} {n : Nat} {xs : List Value}, w.ownsRow 0 e i.size v n xs → (n + m) * i.bytes ≤ 140737488355328 → n + m ≤ maxLen → ∃ v' w', (Builtin.append_ #[t, t] ty #[v, .slice (some ⟨b, o, none⟩) m c']).run P w = .ok v' w' ∧
        w'.ownsRow 0 e i.size v' (n + m) (xs ++ news) ∧ w.grownBy w' v.ownBlock ∧ (v'.ownBlock = v.ownBlock ∨ v'.ownBlock = some w.heap.size) := fun {v n xs} hrow hb hm' => by
      obtain ⟨v', w', h2, h3, h4, _, h6⟩ := run_append_own_at (P := P) w 0 t ty e i z i.size i.bytes ht hi hz rfl rfl hzs hsz v n xs hrow ⟨b, o, none⟩ m c' news hl (fun j u hu => by rw [addr_add]; exact hc j u hu) h1 hm' hb (Nat.zero_le _)
      exact ⟨v', w', h2, h3, h4, h6⟩
    have blkOf : ∀ {w' : World} {v' : Value} {k : Nat} {ys : List Value} {b : Nat}, w'.ownsRow 0 e i.size v' k ys → blk v' = some b → v'.ownBlock = some b ∧ b < w'.heap.size := fun {w' v' k ys b} hrow hb => by
      rcases hrow.2 with ⟨e1, _⟩ | ⟨g, cap, cur, e1, _, hh, _⟩
      · rw [e1] at hb; simp [blk] at hb
      · rw [e1] at hb ⊢
        simp only [blk] at hb
        split at hb
        · cases hb
        · injection hb with hb
          subst hb
          refine ⟨rfl, ?_⟩
          rcases Nat.lt_or_ge g w'.heap.size with h | h
          · exact h
          · rw [Array.getElem?_eq_none h] at hh; cases hh
    rcases hown with ⟨A, rfl, rfl, rfl⟩ | ⟨g, cap, cur, rfl, hcp, hh, hle, hm, hzz, hxl, htk⟩
    · obtain ⟨v', w', h2, h3, h4, h6⟩ := core (v := .slice none 0 0) (n := 0) (xs := []) ⟨by simp, .inl ⟨rfl, rfl⟩⟩ hbytes hmax
      refine ⟨v', w', ?_, ownsV_of h3, ?_, fun bb hbb => ?_⟩
      · rw [append_types ht ht2 hi]
        cases A with
        | none => exact h2
        | some A => rw [append_nocap ht hi h0 (by simpa using hbytes)]; exact h2
      · have : blk (.slice A 0 0) = none := by cases A <;> simp [blk]
        rw [this]; exact h4
      · obtain ⟨e1, e2⟩ := blkOf h3 hbb
        rcases h6 with h6 | h6
        · rw [e1] at h6; simp [Value.ownBlock] at h6
        · rw [e1] at h6; injection h6 with h6; subst h6; exact .inr ⟨Nat.le_refl _, e2⟩
    · obtain ⟨v', w', h2, h3, h4, h6⟩ := core (v := .slice (some ⟨g, 0, none⟩) n cap) (n := n) (xs := xs) ⟨hxl, .inr ⟨g, cap, cur, rfl, Nat.zero_le _, hh, hle, hm, hzz, htk⟩⟩ hbytes hmax
      have hbv : blk (.slice (some ⟨g, 0, none⟩) n cap) = some g := by simp [blk]; omega
      refine ⟨v', w', by rw [append_types ht ht2 hi]; exact h2, ownsV_of h3, by rw [hbv]; exact h4, fun bb hbb => ?_⟩
      obtain ⟨e1, e2⟩ := blkOf h3 hbb
      rcases h6 with h6 | h6
      · rw [e1] at h6; exact .inl (by rw [hbv]; exact h6.symm)
      · rw [e1] at h6; injection h6 with h6; subst h6; exact .inr ⟨Nat.le_refl _, e2⟩

end
end Go.Proofs.Ytniaeiikdgbnfaa.AW
