/- The abstract walker, part 13: appends and copies, from states to states. -/
import Derived.Test.YtniaeiikdgbnfaaAW12
namespace Go.Proofs.Ytniaeiikdgbnfaa.AW
open Go Go.RowKit

section
variable {P : Program} {C : Ctx} {s : AState} {β : Nat → Option Value} {S : Nat → Prop} {a : Act} {w : World}

theorem leaf_ones {d : D} {cs : List Value} (h : Rep w S d cs) (hd : d.isAgg = false) : ∀ v ∈ cs, v.oneCell' = true := by
  obtain ⟨u, rfl, h1, _⟩ := rep_oneCell h hd
  intro v hv
  simp at hv; subst hv; exact h1

mutual
theorem rep_ones : ∀ (d : D) (cs : List Value), Rep w S d cs → ∀ v ∈ cs, v.oneCell' = true
  | .agg ds, cs, h => by simp only [Rep] at h; exact reps_ones ds cs h
  | .int k n, cs, h => leaf_ones h rfl
  | .bool b, cs, h => leaf_ones h rfl
  | .str xs, cs, h => leaf_ones h rfl
  | .raw v, cs, h => leaf_ones h rfl
  | .ints k xs, cs, h => leaf_ones h rfl
  | .sl sz es, cs, h => leaf_ones h rfl
  | .ptr d, cs, h => leaf_ones h rfl
  | .nilp, cs, h => leaf_ones h rfl
  | .fn f caps, cs, h => leaf_ones h rfl
theorem reps_ones : ∀ (ds : List D) (cs : List Value), RepAll w S ds cs → ∀ v ∈ cs, v.oneCell' = true
  | [], cs, h => by simp only [RepAll] at h; subst h; simp
  | d :: ds, cs, h => by
    simp only [RepAll] at h
    obtain ⟨c1, c2, rfl, h1, h2⟩ := h
    intro v hv
    rcases List.mem_append.1 hv with hv | hv
    · exact rep_ones d c1 h1 v hv
    · exact reps_ones ds c2 h2 v hv
end

theorem Cells.append {b o : Nat} {xs ys : List Value} (h1 : Cells w b o xs) (h2 : Cells w b (o + xs.length) ys) : Cells w b o (xs ++ ys) := by
  intro i v hv
  rcases Nat.lt_or_ge i xs.length with h | h
  · rw [List.getElem?_append_left h] at hv; exact h1 i v hv
  · rw [List.getElem?_append_right h] at hv
    have := h2 (i - xs.length) v hv
    rwa [show o + xs.length + (i - xs.length) = o + i by omega] at this

theorem RepRow.cells {sz : Nat} : ∀ (es : List D) (b o : Nat), RepRow w S sz es b o → ∃ vs, Cells w b o vs ∧ RepAll w S es vs ∧ vs.length = es.length * sz ∧ ∀ e ∈ es, e.size = sz
  | [], b, o, _ => ⟨[], fun i v h => by simp at h, by simp only [RepAll], by simp, by simp⟩
  | e :: es, b, o, h => by
    simp only [RepRow] at h
    obtain ⟨⟨vs, hl, hc, hr⟩, h2⟩ := h
    obtain ⟨ws, h3, h4, h5, h6⟩ := RepRow.cells es b (o + sz) h2
    refine ⟨vs ++ ws, hc.append (by rw [hl]; exact h3), ?_, ?_, fun x hx => ?_⟩
    · simp only [RepAll]; exact ⟨vs, ws, rfl, hr, h4⟩
    · simp [hl, h5, Nat.add_mul]; omega
    · rcases List.mem_cons.1 hx with rfl | hx
      · exact (Rep.size _ _ hr).symm.trans hl
      · exact h6 x hx

/-- What a source stands for. -/
def SrcRel (w : World) (S : Nat → Prop) (v : Value) : Src → Prop
  | .i k xs => ∃ A c, v = .slice A xs.length c ∧ xs.length ≤ LIM ∧ (∀ x ∈ xs, k.wrap x = x) ∧ (0 < xs.length → ∃ b o, A = some ⟨b, o, none⟩ ∧ Cells w b o (xs.map (Value.int k)))
  | .r sz es => ∃ A c, v = .slice A es.length c ∧ es.length ≤ LIM ∧ ∃ vs, RepAll w S es vs ∧ vs.length = es.length * sz ∧ (0 < es.length → (∃ b o, A = some ⟨b, o, none⟩ ∧ Cells w b o vs) ∧ ∀ e ∈ es, e.size = sz)

theorem srcD_rel {x : D} {cs : List Value} {src : Src} (h : Rep w S x cs) (hs : srcD x = some src) : SrcRel w S (packD x cs) src := by
  cases x <;> simp only [srcD] at hs
  case ints k xs =>
    injection hs with hs; subst hs
    simp only [Rep] at h
    obtain ⟨A, c, rfl, _, hl, hwf, hne⟩ := h
    refine ⟨A, c, rfl, hl, hwf, fun hp => ?_⟩
    obtain ⟨b, o, e, _, hc⟩ := hne (by intro e; subst e; simp at hp)
    exact ⟨b, o, e, hc⟩
  case sl sz es =>
    injection hs with hs; subst hs
    simp only [Rep] at h
    obtain ⟨A, c, rfl, _, hl, hne⟩ := h
    by_cases he : es = []
    · subst he
      exact ⟨A, c, rfl, by simp, [], by simp only [RepAll], by simp, fun hp => by simp at hp⟩
    · obtain ⟨b, o, e, _, hrow⟩ := hne he
      obtain ⟨vs, h1, h2, h3, h4⟩ := RepRow.cells es b o hrow
      exact ⟨A, c, rfl, hl, vs, h2, h3, fun _ => ⟨⟨b, o, e, h1⟩, h4⟩⟩
  all_goals cases hs

theorem srcOf_rel (h : ARelB C s β S a w) {x : AVal} {v : Value} {src : Src} (hx : VRel w β S x v) (hs : srcOf s x = some src) : SrcRel w S v src := by
  unfold srcOf at hs
  split at hs
  · obtain ⟨cs, h1, rfl⟩ := dv_rel hx rfl; exact srcD_rel h1 hs
  · obtain ⟨cs, h1, rfl⟩ := dv_rel hx rfl; exact srcD_rel h1 hs
  · obtain ⟨cs, h1, rfl⟩ := dv_rel hx rfl; exact srcD_rel h1 hs
  · rename_i j
    split at hs
    · rename_i k t xs ho
      injection hs with hs; subst hs
      obtain ⟨bv, hβ0, hob⟩ := h.st.obj j _ (getO_mem ho)
      simp only [ORel] at hob
      simp only [VRel] at hx
      rw [hβ0] at hx; injection hx with hx; subst hx
      obtain ⟨A, c, e⟩ := ownsV_slice hob.1
      refine ⟨A, c, e, hob.2.2, hob.2.1, fun hp => ?_⟩
      obtain ⟨g, cap, e1, _, _, hc, _⟩ := ownsV_cell hob.1 hp
      rw [e] at e1
      injection e1 with e1 _ _
      exact ⟨g, 0, e1, hc⟩
    · rename_i t sz es ho
      injection hs with hs; subst hs
      obtain ⟨bv, hβ0, hob⟩ := h.st.obj j _ (getO_mem ho)
      simp only [ORel] at hob
      obtain ⟨vs, hown, hall, hsizes, hlim, _⟩ := hob
      simp only [VRel] at hx
      rw [hβ0] at hx; injection hx with hx; subst hx
      obtain ⟨A, c, e⟩ := ownsV_slice hown
      refine ⟨A, c, e, hlim, vs, hall, ?_, fun hp => ⟨?_, hsizes⟩⟩
      · rcases hown with ⟨_, _, e2, e3⟩ | ⟨g, cap, cur, _, _, _, _, _, _, hl, _⟩
        · rw [e2, e3]; simp
        · exact hl
      · obtain ⟨g, cap, e1, _, _, hc, _⟩ := ownsV_cell hown hp
        rw [e] at e1
        injection e1 with e1 _ _
        exact ⟨g, 0, e1, hc⟩
    · cases hs
  · rename_i j off len
    split at hs
    · rename_i k t xs ho
      split at hs
      · rename_i hle
        injection hs with hs; subst hs
        obtain ⟨bv, hβ0, hob⟩ := h.st.obj j _ (getO_mem ho)
        simp only [ORel] at hob
        simp only [VRel] at hx
        obtain ⟨A, c, rfl, _, hA⟩ := hx
        have hlen : ((xs.drop off).take len).length = len := by simp; omega
        refine ⟨A, c, by rw [hlen], by rw [hlen]; have := hob.2.2; omega, fun z hz => hob.2.1 z (List.mem_of_mem_drop (List.mem_of_mem_take hz)), fun hp => ?_⟩
        rw [hlen] at hp
        obtain ⟨b, hb, rfl⟩ := hA hp
        obtain ⟨g, cap, e1, hbg, _, hc, _⟩ := ownsV_cell hob.1 (by omega)
        rw [hβ0, Option.bind_some, hbg] at hb; injection hb with hb; subst hb
        refine ⟨g, off, rfl, ?_⟩
        have := hc.sub off len
        simpa [List.map_take, List.map_drop] using this
      · cases hs
    · cases hs
  · cases hs

theorem ones_ints (k : IntKind) (xs : List Int) : ∀ u ∈ xs.map (Value.int k), u.oneCell' = true := by
  intro u hu
  obtain ⟨n, _, rfl⟩ := List.mem_map.1 hu
  rfl

theorem RepAll.append : ∀ {xs ys : List D} {as bs : List Value}, RepAll w S xs as → RepAll w S ys bs → RepAll w S (xs ++ ys) (as ++ bs)
  | [], ys, as, bs, h1, h2 => by simp only [RepAll] at h1; subst h1; simpa using h2
  | x :: xs, ys, as, bs, h1, h2 => by
    simp only [RepAll] at h1
    obtain ⟨c1, c2, rfl, h3, h4⟩ := h1
    simp only [List.cons_append, RepAll]
    exact ⟨c1, c2 ++ bs, by simp, h3, RepAll.append h4 h2⟩

theorem emp_value {x : AVal} {v : Value} (hx : VRel w β S x v) (he : isEmp x = true) : ∃ A, v = .slice A 0 0 := by
  cases x <;> simp [isEmp] at he
  · simp only [VRel] at hx; exact hx.1
  · simp only [VRel] at hx; exact ⟨none, hx.1⟩

theorem blk_empty (A : Option Addr) : blk (.slice A 0 0) = none := by cases A <;> simp [blk]

theorem eAppend_sound (h : ARelB C s β S a w) {t t2 ty : TypeId} {x y : AVal} {u v : Value} {K : AState → AVal → Prop} (hx : VRel w β S x u) (hy : VRel w β S y v) (hq : eAppend P C.m s t t2 x y K) :
    Does P C a w (Builtin.append_ #[t, t2] ty #[u, v]) K := by
  unfold eAppend at hq
  split at hq
  · rename_i e e2 ht ht2
    split at hq
    · rename_i i hi
      split at hq
      · rename_i z hz
        obtain ⟨hzs, hby, hq⟩ := hq
        replace hq := qSrc_spec hq; obtain ⟨src, hsrc, hq⟩ := hq
        cases src with
        | i k ys =>
          obtain ⟨hsz1, hq⟩ := hq
          obtain ⟨A, c, rfl, hlim, hwf, hne⟩ := srcOf_rel h hy hsrc
          have fresh : ∀ {A0 : Option Addr}, u = .slice A0 0 0 → ys.length * i.bytes ≤ 140737488355328 → K (s.newO (.row k e ys)) (.own s.nx) → Does P C a w (Builtin.append_ #[t, t2] ty #[u, .slice A ys.length c]) K := fun {A0} e0 hb hK => by
            subst e0
            obtain ⟨v', w', h1, h2, h3, h4⟩ := append_run (ty := ty) (w := w) ht ht2 hi hz hzs (by omega) hby (v := .slice A0 0 0) (n := 0) (xs := []) (.inl ⟨A0, rfl, rfl, rfl⟩) (A' := A) (m := ys.length) (c' := c) (news := ys.map (Value.int k)) (by simp [hsz1]) hne (ones_ints k ys) (by simpa using hb)
            rw [blk_empty] at h3 h4
            refine ⟨v', w', _, .own s.nx, updO β s.nx v', h1, S, h.fresh h3 (fun b hb => by rcases h4 b hb with h | h; cases h; exact h) ?_, by simp only [VRel, updO, if_true], hK⟩
            simp only [ORel]
            rw [hsz1] at h2
            exact ⟨by simpa using h2, hwf, hlim⟩
          split at hq
          · obtain ⟨A0, e0⟩ := emp_value hx rfl; exact fresh e0 hq.1 hq.2
          · obtain ⟨A0, e0⟩ := emp_value hx rfl; exact fresh e0 hq.1 hq.2
          · rename_i j
            split at hq
            · rename_i k' e' xs ho
              obtain ⟨hjm, rfl, rfl, hb, hK⟩ := hq
              obtain ⟨bv, hβ0, hob⟩ := h.st.obj j _ (getO_mem ho)
              simp only [ORel] at hob
              simp only [VRel] at hx
              rw [hβ0] at hx; injection hx with hx; subst hx
              obtain ⟨v', w', h1, h2, h3, h4⟩ := append_run (ty := ty) (w := w) ht ht2 hi hz hzs (by omega) hby (by rw [hsz1]; exact hob.1) (A' := A) (m := ys.length) (c' := c) (news := ys.map (Value.int k')) (by simp [hsz1]) hne (ones_ints k' ys) hb
              refine ⟨v', w', _, .own j, updO β j v', h1, S, h.move hjm (o' := .row k' e' (xs ++ ys)) (getO_mem ho) hβ0 h3 h4 ?_, by simp only [VRel, updO, if_true], hK⟩
              simp only [ORel]
              rw [hsz1] at h2
              refine ⟨by simpa using h2, fun z hz => ?_, ?_⟩
              · rcases List.mem_append.1 hz with hz | hz
                · exact hob.2.1 z hz
                · exact hwf z hz
              · have : xs.length + ys.length ≤ 140737488355328 := Nat.le_trans (Nat.le_mul_of_pos_right _ hby) hb
                simpa [LIM] using this
            · exact hq.elim
          · exact hq.elim
        | r sz ys =>
          obtain ⟨hszz, hpos, hys0, hq⟩ := hq
          have hys : ∀ d ∈ ys, d.size = sz := fun y hy => by simpa using List.all_eq_true.1 hys0 y hy
          obtain ⟨A, c, rfl, hlim, vs, hall, hvl, hne⟩ := srcOf_rel h hy hsrc
          subst hszz
          have fresh : ∀ {A0 : Option Addr}, u = .slice A0 0 0 → ys.length * i.bytes ≤ 140737488355328 → K (s.newO (.rowD e i.size ys)) (.own s.nx) → Does P C a w (Builtin.append_ #[t, t2] ty #[u, .slice A ys.length c]) K := fun {A0} e0 hb hK => by
            subst e0
            obtain ⟨v', w', h1, h2, h3, h4⟩ := append_run (ty := ty) (w := w) ht ht2 hi hz hzs hpos hby (v := .slice A0 0 0) (n := 0) (xs := []) (.inl ⟨A0, rfl, rfl, rfl⟩) (A' := A) (m := ys.length) (c' := c) (news := vs) hvl (fun hp => (hne hp).1) (reps_ones _ _ hall) (by simpa using hb)
            rw [blk_empty] at h3 h4
            refine ⟨v', w', _, .own s.nx, updO β s.nx v', h1, S, h.fresh h3 (fun b hb => by rcases h4 b hb with h | h; cases h; exact h) ?_, by simp only [VRel, updO, if_true], hK⟩
            simp only [ORel]
            exact ⟨vs, by simpa using h2, RepAll.keep (h.imm h3 (by simp)) _ _ hall, hys, hlim, hpos⟩
          split at hq
          · obtain ⟨A0, e0⟩ := emp_value hx rfl; exact fresh e0 hq.1 hq.2
          · obtain ⟨A0, e0⟩ := emp_value hx rfl; exact fresh e0 hq.1 hq.2
          · rename_i j
            split at hq
            · rename_i e' sz' xs ho
              obtain ⟨hjm, rfl, rfl, hb, hK⟩ := hq
              obtain ⟨bv, hβ0, hob⟩ := h.st.obj j _ (getO_mem ho)
              simp only [ORel] at hob
              obtain ⟨us, hown, hall0, hsizes, hlim0, _⟩ := hob
              simp only [VRel] at hx
              rw [hβ0] at hx; injection hx with hx; subst hx
              obtain ⟨v', w', h1, h2, h3, h4⟩ := append_run (ty := ty) (w := w) ht ht2 hi hz hzs hpos hby hown (A' := A) (m := ys.length) (c' := c) (news := vs) hvl (fun hp => (hne hp).1) (reps_ones _ _ hall) hb
              have himm := h.imm h3 (fun g e => ⟨j, _, getO_mem ho, by rw [hβ0]; exact e⟩)
              refine ⟨v', w', _, .own j, updO β j v', h1, S, h.move hjm (o' := .rowD e' i.size (xs ++ ys)) (getO_mem ho) hβ0 h3 h4 ?_, by simp only [VRel, updO, if_true], hK⟩
              simp only [ORel]
              refine ⟨us ++ vs, by simpa using h2, RepAll.append (RepAll.keep himm _ _ hall0) (RepAll.keep himm _ _ hall), fun z hz => ?_, ?_, hpos⟩
              · rcases List.mem_append.1 hz with hz | hz
                · exact hsizes z hz
                · exact hys z hz
              · have : xs.length + ys.length ≤ 140737488355328 := Nat.le_trans (Nat.le_mul_of_pos_right _ hby) hb
                simpa [LIM] using this
            · exact hq.elim
          · exact hq.elim
      · exact hq.elim
    · exact hq.elim
  · exact hq.elim

theorem splice_take (cur us : List Value) (o n : Nat) (h : o + us.length ≤ n) (hn : n ≤ cur.length) : (cur.take o ++ us ++ cur.drop (o + us.length)).take n = (cur.take n).take o ++ us ++ (cur.take n).drop (o + us.length) := by
  apply List.ext_getElem?
  intro i
  simp only [List.getElem?_take, List.getElem?_append, List.getElem?_drop, List.length_append, List.length_take]
  by_cases h1 : i < n
  · simp only [h1, if_true]
    by_cases h2 : i < min o cur.length + us.length
    · have h2' : i < min o (min n cur.length) + us.length := by omega
      simp only [h2, h2', if_true]
      by_cases h3 : i < min o cur.length
      · have h3' : i < min o (min n cur.length) := by omega
        simp only [h3, h3', if_true]
      · have h3' : ¬ i < min o (min n cur.length) := by omega
        simp only [h3, h3', if_false]
        congr 1; omega
    · have h2' : ¬ i < min o (min n cur.length) + us.length := by omega
      simp only [h2, h2', if_false]
      have e1 : o + us.length + (i - (min o cur.length + us.length)) = i := by omega
      have e2 : o + us.length + (i - (min o (min n cur.length) + us.length)) = i := by omega
      simp [e1, e2, h1]
  · have h2' : ¬ i < min o (min n cur.length) + us.length := by omega
    have e2 : o + us.length + (i - (min o (min n cur.length) + us.length)) = i := by omega
    simp [h1, h2', e2]

theorem ownsV_setCells {w : World} {t : TypeId} {v : Value} {n : Nat} {vs : List Value} (h : OwnsV w t 1 v n vs) {us : List Value} {o : Nat} (hle : o + us.length ≤ n) (hn : 0 < n) :
    ∃ g cap cur, v = .slice (some ⟨g, 0, none⟩) n cap ∧ blk v = some g ∧ w.heap[g]? = some (.cells cur t (0, 0)) ∧ o + us.length ≤ cur.size ∧ OwnsV (w.setCells g o us) t 1 v n (vs.take o ++ us ++ vs.drop (o + us.length)) := by
  rcases h with ⟨A, _, h0, _⟩ | ⟨g, cap, cur, e, hc, hh, hl, hm, hz, hvl, ht⟩
  · omega
  · obtain ⟨cur', h1, h2, h3⟩ := heap_setCells us o w cur hh (by omega)
    refine ⟨g, cap, cur, e, by rw [e]; simp [blk]; omega, hh, by omega, .inr ⟨g, cap, cur', e, hc, h1, hl, hm, by rw [h3]; exact hz, ?_, ?_⟩⟩
    · simp at hvl ⊢; omega
    · rw [Nat.mul_one] at ht ⊢
      rw [h2, splice_take _ _ _ _ hle (by simp; omega), ht]

theorem eCopy_sound (h : ARelB C s β S a w) {t t2 ty : TypeId} {x y : AVal} {u v : Value} {K : AState → AVal → Prop} (hx : VRel w β S x u) (hy : VRel w β S y v) (hq : eCopy P s t x y K) :
    Does P C a w (Builtin.copy_ #[t, t2] ty #[u, v]) K := by
  unfold eCopy at hq
  split at hq
  · rename_i e ht
    obtain ⟨hsz, hq⟩ := hq
    have hsz' : (P.info? e).map (·.size) = some 1 := hsz
    replace hq := qSrc_spec hq; obtain ⟨src, hsrc, hq⟩ := hq
    cases src with
    | i k ys =>
      dsimp only at hq
      obtain ⟨A, c, rfl, hlim, hwf, hne⟩ := srcOf_rel h hy hsrc
      -- a copy into a stretch of an owned row
      have core : ∀ {j : Nat} {e' : TypeId} {xs : List Int} {off len : Nat} {A' : Option Addr} {c' : Nat}, getO s.st j = some (.row k e' xs) → off + len ≤ xs.length → (0 < len → ∃ b, (β j).bind blk = some b ∧ A' = some ⟨b, off, none⟩) →
          K (s.withSt (setO j (.row k e' (xs.take off ++ ys.take len ++ xs.drop (off + min ys.length len))) s.st)) (.d (.int .i64 (min ys.length len : Nat))) →
          Does P C a w (Builtin.copy_ #[t, t2] ty #[.slice A' len c', .slice A ys.length c]) K := fun {j e' xs off len A' c'} ho hle hA hK => by
        obtain ⟨bv, hβ0, hob⟩ := h.st.obj j _ (getO_mem ho)
        simp only [ORel] at hob
        have hmin : IntKind.i64.wrap ((min ys.length len : Nat) : Int) = (min ys.length len : Nat) := len_wrap (by omega)
        rcases Nat.eq_zero_or_pos (min ys.length len) with h0 | h0
        · have hrun := run_copy_none (P := P) w t t2 ty e A' A len c' ys.length c ht hsz' h0
          have e0 : xs.take off ++ ys.take len ++ xs.drop (off + min ys.length len) = xs := by
            have : ys.take len = [] := by
              apply List.eq_nil_of_length_eq_zero; rw [List.length_take, Nat.min_comm]; exact h0
            rw [this, h0]; simp
          rw [e0] at hK
          refine ⟨.int .i64 ((min ys.length len : Nat) : Int), w, _, _, β, by rw [h0]; exact hrun, S, ?_, vrel_int hmin, hK⟩
          exact h.touch (getO_mem ho) hβ0 (World.grownBy.refl w _) (by simp only [ORel]; exact hob)
        · obtain ⟨b, hb, rfl⟩ := hA (by omega)
          obtain ⟨b2, o2, rfl, hc⟩ := hne (by omega)
          have hul : ((ys.take len).map (Value.int k)).length = min ys.length len := by simp; omega
          obtain ⟨g, cap, cur, e1, hbg, hh, hfit, hown'⟩ := ownsV_setCells (us := (ys.take len).map (Value.int k)) (o := off) hob.1 (by rw [hul]; omega) (by omega)
          rw [hβ0, Option.bind_some, hbg] at hb; injection hb with hb; subst hb
          have hcells : ∀ j v, ((ys.take len).map (Value.int k))[j]? = some v → w.cell? ((⟨b2, o2, none⟩ : Addr).add j) = some v := fun j v hv => by
            rw [addr_add]
            refine hc j v ?_
            have hj : j < len := by
              have := (List.getElem?_eq_some_iff.1 hv).1
              simp at this; omega
            rw [List.map_take, List.getElem?_take_of_lt hj] at hv
            exact hv
          have hrun := run_copy_cells (P := P) w t t2 ty e g off len c' ⟨b2, o2, none⟩ ys.length c ((ys.take len).map (Value.int k)) ht hsz' (by rw [hul]) hcells
            (fun j hj => by obtain ⟨u, hu⟩ := cell_of hh (i := off + j) (by omega); rw [hu]; rfl) (fun j _ => unfrozen hh) (ones_ints k _)
          rw [hul] at hrun
          refine ⟨.int .i64 ((min ys.length len : Nat) : Int), _, _, _, β, hrun, S, h.touch (o' := .row k e' (xs.take off ++ ys.take len ++ xs.drop (off + min ys.length len))) (getO_mem ho) hβ0 (by rw [hbg]; exact grown_setCells _ _ _ _) ?_, vrel_int hmin, hK⟩
          have hxl : (xs.take off ++ ys.take len ++ xs.drop (off + min ys.length len)).length = xs.length := by simp; omega
          simp only [ORel]
          refine ⟨?_, fun z hz => ?_, by rw [hxl]; exact hob.2.2⟩
          · rw [hxl]
            rw [hul] at hown'
            simpa [List.map_take, List.map_drop] using hown'
          · simp only [List.append_assoc, List.mem_append] at hz
            rcases hz with hz | hz | hz
            · exact hob.2.1 z (List.mem_of_mem_take hz)
            · exact hwf z (List.mem_of_mem_take hz)
            · exact hob.2.1 z (List.mem_of_mem_drop hz)
      split at hq
      · rename_i j
        split at hq
        · rename_i k' e' xs ho
          obtain ⟨rfl, hK⟩ := hq
          obtain ⟨bv, hβ0, hob⟩ := h.st.obj j _ (getO_mem ho)
          simp only [ORel] at hob
          simp only [VRel] at hx
          rw [hβ0] at hx; injection hx with hx; subst hx
          obtain ⟨A', c', e1⟩ := ownsV_slice hob.1
          rw [e1]
          refine core (off := 0) ho (by omega) (fun hp => ?_) ?_
          · obtain ⟨g, cap, e2, hbg, _⟩ := ownsV_cell hob.1 hp
            rw [e1] at e2
            injection e2 with e2 _ _
            exact ⟨g, by rw [hβ0]; exact hbg, e2⟩
          · have e0 : xs.take 0 ++ ys.take xs.length ++ xs.drop (0 + min ys.length xs.length) = ys.take xs.length ++ xs.drop ys.length := by
              simp only [List.take_zero, List.nil_append, Nat.zero_add]
              rcases Nat.le_total ys.length xs.length with hh | hh
              · rw [Nat.min_eq_left hh]
              · rw [Nat.min_eq_right hh, List.drop_eq_nil_of_le hh, List.drop_eq_nil_of_le (Nat.le_refl _)]
            rw [e0]; exact hK
        · exact hq.elim
      · rename_i j off len
        split at hq
        · rename_i k' e' xs ho
          obtain ⟨rfl, hle, hK⟩ := hq
          simp only [VRel] at hx
          obtain ⟨A', c', rfl, _, hA⟩ := hx
          exact core ho hle hA hK
        · exact hq.elim
      · exact hq.elim
    | r sz ys => exact hq.elim
  · exact hq.elim

end
end Go.Proofs.Ytniaeiikdgbnfaa.AW
