/- The abstract walker, part 14: literals. -/
import Derived.Test.YtniaeiikdgbnfaaAW13
import Derived.Great.BuildSlice
namespace Go.Proofs.Ytniaeiikdgbnfaa.AW
open Go Go.RowKit

def eBuildSlice (P : Program) (s : AState) (t : TypeId) (len : Nat) (ix : List Nat) (xs : List AVal) (K : AState → AVal → Prop) : Prop :=
  match P.underlying t with
  | some (.slice e) =>
    (match P.info? e with
    | some i => i.zero.isSome = true ∧ ix = List.range xs.length ∧ len = xs.length ∧ 0 < i.size ∧ len * i.size ≤ 16777216 ∧
      (match P.underlying e with
      | some (.int k) => i.size = 1 ∧ (match (allDv xs).bind (intsOf k) with
        | some ns => (s.new (.row k e ns) fun s' j => K s' (.own j))
        | none => False)
      | _ => qToDs P xs fun ys => (ys.all fun y => y.size == i.size) = true ∧ (s.new (.rowD e i.size ys) fun s' j => K s' (.own j)))
    | none => False)
  | _ => False

/-- A struct's cells, part by part. -/
def eFill (P : Program) (s : AState) (fs : List Field) : List (Nat × AVal) → List AVal → (List AVal → Prop) → Prop
  | [], base, K => K base
  | (i, x) :: r, base, K =>
    match fs[i]?, cellsV x with
    | some f, some us => szT P f.type = some us.length ∧ us.all (oneV s.st) = true ∧ f.offset + us.length ≤ base.length ∧ eFill P s fs r (base.take f.offset ++ us ++ base.drop (f.offset + us.length)) K
    | _, _ => False

def eBuild (P : Program) (s : AState) (t : TypeId) (parts : List (Nat × AVal)) (K : AVal → Prop) : Prop :=
  match P.underlying t with
  | some (.struct fs) =>
    (match (P.info? t).bind (·.zero) with
    | some z => repCB (zeroD P t) z.cells.toList = true ∧ (∀ f ∈ fs.toList, (szT P f.type).isSome = true) ∧ eFill P s fs.toList parts ((flatD (zeroD P t)).map zV) fun cs => K (.ag t cs)
    | none => False)
  | _ => False

section
variable {P : Program} {C : Ctx} {s : AState} {β : Nat → Option Value} {S : Nat → Prop} {a : Act} {w : World}

theorem packD_cells {y : D} {cs : List Value} (h : Rep w S y cs) : (packD y cs).cells.toList = cs := by
  by_cases hy : y.isAgg = false
  · obtain ⟨u, rfl, _, h2⟩ := rep_oneCell h hy
    rw [packD_one hy]
    simp [h2]
  · cases y <;> simp [D.isAgg] at hy
    simp [packD, Value.cells]

theorem zip_eq (ix : List Nat) (vs : List Value) (h : ix = List.range vs.length) : ix.zip vs = (vs.zipIdx 0).map fun x => (x.2, x.1) := by
  subst h
  apply List.ext_getElem?
  intro i
  simp only [List.getElem?_map, List.getElem?_zipIdx, List.zip]
  by_cases hi : i < vs.length
  · simp [hi]
  · simp [hi]

theorem buildSlice_run {w : World} {t e : TypeId} {len : Nat} {ie : TypeInfo} {vs : List Value} {ix : List Nat} (hu : P.underlying t = some (.slice e)) (hie : P.info? e = some ie) (hz : ie.zero.isSome = true)
    (hs : 0 < ie.size) (hl : len = vs.length) (hsm : len * ie.size ≤ 16777216) (hix : ix = List.range vs.length) (h1 : ∀ v ∈ vs, v.cells.size = ie.size) :
    (Instr.buildSlice t len (ix.zip vs).toArray).run P w = .ok (.slice (some ⟨w.heap.size, 0, none⟩) len len) (w.alloc (.cells (vs.flatMap fun v => v.cells.toList).toArray e)) := by
  obtain ⟨z, hz⟩ := Option.isSome_iff_exists.1 hz
  have hsm' : ¬ len * ie.size > 2 ^ 24 := by omega
  by_cases h0 : len = 0
  · have : vs = [] := List.eq_nil_of_length_eq_zero (by omega)
    subst this
    simp [Instr.buildSlice, run_underlying hu, sizeOf, typeInfo, hie, h0, newRow, Instr.fill]
    congr 2
    apply Array.ext <;> simp
  · refine run_buildSlice w t e len _ _ ie z hu hie hz hsm' (by intro h; rcases Nat.mul_eq_zero.1 h with h | h <;> omega) ?_
    rw [zip_eq ix vs hix]
    exact Great.fill_whole hs vs _ h1 (by simp [hl])

theorem intsOf_map : ∀ {k : IntKind} {ds : List D} {ns : List Int}, intsOf k ds = some ns → ds = ns.map (D.int k)
  | k, [], ns, h => by simp [intsOf] at h; subst h; rfl
  | k, d :: r, ns, h => by
    cases d <;> simp only [intsOf] at h <;> try (cases h; done)
    rename_i k' n
    split at h
    · rename_i e; subst e
      split at h
      · rename_i ms h1
        injection h with h; subst h
        rw [intsOf_map h1]; rfl
      · cases h
    · cases h

theorem vall_ints : ∀ {k : IntKind} {ns : List Int} {vs : List Value}, VAll w β S ((ns.map (D.int k)).map .d) vs → vs = ns.map (Value.int k) ∧ ∀ x ∈ ns, k.wrap x = x
  | k, [], vs, h => by simp only [List.map_nil, VAll] at h; subst h; simp
  | k, n :: ns, vs, h => by
    simp only [List.map_cons, VAll] at h
    obtain ⟨v, r, rfl, h1, h2⟩ := h
    obtain ⟨rfl, hw⟩ := d_int h1
    obtain ⟨rfl, h3⟩ := vall_ints h2
    exact ⟨rfl, fun x hx => by rcases List.mem_cons.1 hx with rfl | hx; exact hw; exact h3 x hx⟩

theorem zip_all : ∀ {ys : List D} {css : List (List Value)}, All2 (fun y cs => Rep w S y cs) ys css → ((List.zipWith packD ys css).flatMap fun v => v.cells.toList) = css.flatten ∧ RepAll w S ys css.flatten ∧ (List.zipWith packD ys css).length = ys.length ∧
    (∀ n, (∀ y ∈ ys, y.size = n) → ∀ v ∈ List.zipWith packD ys css, v.cells.size = n)
  | [], [], .nil => ⟨rfl, by simp [RepAll], rfl, by simp⟩
  | y :: ys, cs :: css, .cons h h' => by
    obtain ⟨h1, h2, h3, h4⟩ := zip_all h'
    have e := packD_cells h
    refine ⟨by simp [h1, e], ?_, by simp [h3], fun n hn v hv => ?_⟩
    · simp only [List.flatten_cons, RepAll]; exact ⟨cs, _, rfl, h, h2⟩
    · simp only [List.zipWith_cons_cons, List.mem_cons] at hv
      rcases hv with rfl | hv
      · have := Rep.size _ _ h
        have h5 : (packD y cs).cells.size = cs.length := by have := congrArg List.length e; simpa using this
        rw [h5, this]; exact hn y (by simp)
      · exact h4 n (fun y hy => hn y (List.mem_cons_of_mem _ hy)) v hv

theorem eBuildSlice_sound (h : ARelB C s β S a w) {t : TypeId} {len : Nat} {ix : List Nat} {xs : List AVal} {vs : List Value} {K : AState → AVal → Prop} (hx : VAll w β S xs vs) (hq : eBuildSlice P s t len ix xs K) :
    DoesX P C a w (Instr.buildSlice t len (ix.zip vs).toArray) K := by
  unfold eBuildSlice at hq
  have hvl := VAll.length _ _ hx
  split at hq
  · rename_i e hu
    split at hq
    · rename_i i hi
      obtain ⟨hz, hix, hlen, hpos, hsm, hq⟩ := hq
      have hsm1 : len ≤ 16777216 := Nat.le_trans (Nat.le_mul_of_pos_right _ hpos) hsm
      split at hq
      · rename_i k hk
        obtain ⟨h1, hq⟩ := hq
        split at hq
        · rename_i ns hns
          obtain ⟨ds, hd1, hd2⟩ := Option.bind_eq_some_iff.1 hns
          have := allDv_rel hd1 hx
          rw [intsOf_map hd2] at this
          obtain ⟨rfl, hwf⟩ := vall_ints this
          have hnl : ns.length = len := by rw [hlen, ← hvl]; simp
          have hrun := buildSlice_run (P := P) (w := w) hu hi hz hpos (by rw [hvl]; exact hlen) hsm (ix := ix) (by rw [hvl]; exact hix) (vs := ns.map (Value.int k)) (fun v hv => by obtain ⟨n, _, rfl⟩ := List.mem_map.1 hv; rw [h1]; rfl)
          have e1 : ((ns.map (Value.int k)).flatMap fun v => v.cells.toList) = ns.map (Value.int k) := by
            clear hrun hnl this hns hd2 hwf hq hx hvl
            induction ns with
            | nil => rfl
            | cons n ns ih => simp only [List.map_cons, List.flatMap_cons, ih]; rfl
          rw [e1] at hrun
          refine ⟨_, _, _, .own s.nx, _, hrun, Ext.alloc _ _, S, h.alloc_row (k := k) (e := e) (xs := ns) hnl (Nat.le_refl _) (by unfold maxLen; omega) (by unfold LIM; omega) (by simp [hnl]) (List.take_of_length_le (by simp; omega)) hwf, ?_, hq⟩
          simp only [VRel, updO, if_true]
        · exact hq.elim
      · obtain ⟨ys, css, hall, rfl, hsz0, hK⟩ := qToDs_sound hx hq
        have hsz : ∀ y ∈ ys, y.size = i.size := fun y hy => by simpa using List.all_eq_true.1 hsz0 y hy
        obtain ⟨e1, e2, e3, e4⟩ := zip_all hall
        have hyl : ys.length = len := by rw [hlen, ← hvl, e3]
        have hrun := buildSlice_run (P := P) (w := w) hu hi hz hpos (by rw [hvl]; exact hlen) hsm (ix := ix) (by rw [hvl]; exact hix) (e4 _ hsz)
        rw [e1] at hrun
        have hcl : css.flatten.length = len * i.size := by
          have h5 : ∀ {ys : List D} {cs : List Value}, (∀ y ∈ ys, y.size = i.size) → RepAll w S ys cs → cs.length = ys.length * i.size := fun {ys} => by
            induction ys with
            | nil => intro cs _ h; simp only [RepAll] at h; subst h; simp
            | cons y ys ih =>
              intro cs hy h
              simp only [RepAll] at h
              obtain ⟨c1, c2, rfl, h6, h7⟩ := h
              rw [List.length_append, Rep.size _ _ h6, hy y (by simp), ih (fun y h => hy y (List.mem_cons_of_mem _ h)) h7, List.length_cons, Nat.add_mul]; omega
          rw [h5 hsz e2, hyl]
        refine ⟨_, _, _, .own s.nx, updO β s.nx (.slice (some ⟨w.heap.size, 0, none⟩) len len), hrun, Ext.alloc _ _, S, h.fresh (grown_alloc _ _) (fun b hb => ?_) ?_, ?_, hK⟩
        · simp only [blk] at hb
          split at hb
          · cases hb
          · injection hb with hb; subst hb; simp
        · simp only [ORel]
          refine ⟨css.flatten, ?_, e2.keep fun b hb => ⟨hb, Below.heap_alloc _ _ _ (h.st.inS b hb)⟩, hsz, by unfold LIM; omega, hpos⟩
          by_cases h0 : len = 0
          · exact .inl ⟨some ⟨w.heap.size, 0, none⟩, by rw [h0], by omega, List.eq_nil_of_length_eq_zero (by rw [hcl, h0]; simp)⟩
          · refine .inr ⟨w.heap.size, len, _, by rw [hyl], by omega, heap_alloc_new w _, by omega, by unfold maxLen; omega, by simp [hcl], by rw [hcl, hyl], ?_⟩
            rw [List.take_of_length_le (by simp [hcl, hyl])]
        · simp only [VRel, updO, if_true]
    · exact hq.elim
  · exact hq.elim

theorem foldl_splice (off : Nat) (l : List Value) (cs : Array Value) (hle : off + l.length ≤ cs.size) :
    ((l.zipIdx 0).foldl (fun cs (x : Value × Nat) => cs.setIfInBounds (off + x.2) x.1) cs).toList = cs.toList.take off ++ l ++ cs.toList.drop (off + l.length) := by
  obtain ⟨h1, h2⟩ := Great.foldl_set off l 0 cs
  apply List.ext_getElem?
  intro i
  rw [Array.getElem?_toList, h2 i]
  simp only [Nat.add_zero]
  by_cases ha : i < off
  · rw [if_neg (by omega), List.append_assoc, List.getElem?_append_left (by simp; omega), List.getElem?_take_of_lt ha, Array.getElem?_toList]
  · by_cases hb : i < off + l.length
    · rw [if_pos (by omega), List.append_assoc, List.getElem?_append_right (by simp; omega), List.getElem?_append_left (by simp; omega)]
      congr 1; simp; omega
    · rw [if_neg (by omega), List.getElem?_append_right (by simp; omega), List.getElem?_drop, ← Array.getElem?_toList]
      congr 1; simp; omega

theorem eFill_sound (h : ARelB C s β S a w) {fs : List Field} {place : Nat → Option (Nat × Nat)} (hp : ∀ i f n, fs[i]? = some f → szT P f.type = some n → place i = some (f.offset, n)) :
    ∀ {xs : List AVal} {ix : List Nat} {vs : List Value} {base : List AVal} {cells : Array Value} {K : List AVal → Prop}, VAll w β S xs vs → VAll w β S base cells.toList → eFill P s fs (ix.zip xs) base K →
    ∃ cells' base', Instr.fill place cells (ix.zip vs) = some cells' ∧ VAll w β S base' cells'.toList ∧ K base'
  | [], ix, vs, base, cells, K, hx, hb, hq => by
    simp only [VAll] at hx; subst hx
    simp only [List.zip_nil_right, eFill] at hq ⊢
    exact ⟨cells, base, rfl, hb, hq⟩
  | x :: xs, [], vs, base, cells, K, hx, hb, hq => by
    simp only [List.zip_nil_left, eFill] at hq ⊢
    exact ⟨cells, base, rfl, hb, hq⟩
  | x :: xs, i :: ix, vs, base, cells, K, hx, hb, hq => by
    simp only [VAll] at hx
    obtain ⟨v, r, rfl, h1, h2⟩ := hx
    simp only [List.zip_cons_cons, eFill] at hq ⊢
    split at hq
    · rename_i f us hf hc
      obtain ⟨hsz, hone, hle, hq⟩ := hq
      have hcv := cellsV_rel h h1 hc hone
      have hcl := VAll.length _ _ hcv
      have hbl := VAll.length _ _ hb
      have hcl' : v.cells.size = us.length := by simpa using hcl
      have hsp := foldl_splice f.offset v.cells.toList cells (by simp at hbl hcl ⊢; omega)
      have hb' := VAll.splice hb hcv f.offset
      have : Instr.fill place cells ((i, v) :: ix.zip r) = Instr.fill place ((v.cells.toList.zipIdx 0).foldl (fun cs (x : Value × Nat) => cs.setIfInBounds (f.offset + x.2) x.1) cells) (ix.zip r) := by
        conv => lhs; unfold Instr.fill
        simp only [hp i f _ hf hsz, hcl']
        rw [if_neg (by simp at hbl ⊢; omega)]
        congr 1
        rw [← Array.foldl_toList]
        simp
      rw [this]
      exact eFill_sound h hp h2 (by rw [hsp]; simpa [hcl'] using hb') hq
    · exact hq.elim

theorem fields_mapM : ∀ (fs : List Field), (∀ f ∈ fs, (szT P f.type).isSome = true) →
    fs.mapM (fun f => (P.info? f.type).map fun i => (f.offset, i.size)) = some (fs.map fun f => (f.offset, (szT P f.type).getD 0))
  | [], _ => by simp
  | f :: fs, h => by
    obtain ⟨n, hn⟩ := Option.isSome_iff_exists.1 (h f (by simp))
    have ih := fields_mapM fs fun g hg => h g (List.mem_cons_of_mem _ hg)
    obtain ⟨i, hi, rfl⟩ := Option.map_eq_some_iff.1 hn
    simp [List.mapM_cons, hi, ih, szT]

theorem eBuild_sound (h : ARelB C s β S a w) {t : TypeId} {ix : List Nat} {xs : List AVal} {vs : List Value} {K : AVal → Prop} (hx : VAll w β S xs vs) (hq : eBuild P s t (ix.zip xs) K) :
    ∃ u r, (∀ w', (Instr.build t (ix.zip vs).toArray).run P w' = .ok u w') ∧ VRel w β S r u ∧ K r := by
  unfold eBuild at hq
  split at hq
  · rename_i fs hu
    split at hq
    · rename_i z hz
      obtain ⟨hrep, hsz, hq⟩ := hq
      have hbase := zV_rel (w := w) (β := β) (S := S) _ _ (repCB_ok _ _ hrep)
      obtain ⟨cells', base', hf, hv, hK⟩ := eFill_sound h (place := fun i => (fs.map fun f => (f.offset, (szT P f.type).getD 0))[i]?) (fun i f n h1 h2 => by
        simp only [Array.getElem?_map]
        rw [← Array.getElem?_toList, h1]
        simp [h2]) hx hbase hq
      refine ⟨.agg cells', _, fun w' => ?_, by simp only [VRel]; exact ⟨_, rfl, hv⟩, hK⟩
      refine run_build w' t _ cells' ?_
      obtain ⟨i, hi, hz⟩ := Option.bind_eq_some_iff.1 hz
      have hm := fields_mapM (P := P) fs.toList hsz
      simp only [Program.built, hi, hu, hz, hm]
      rw [List.toList_toArray]
      simpa using hf
    · exact hq.elim
  · exact hq.elim

end
end Go.Proofs.Ytniaeiikdgbnfaa.AW
