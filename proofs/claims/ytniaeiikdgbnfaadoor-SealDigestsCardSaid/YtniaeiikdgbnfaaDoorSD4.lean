/- Parts AW14, AW15, AW16, AW17, AW18. No condition of its own. -/
import Derived.Test.YtniaeiikdgbnfaaDoorSD3
import Derived.Great.BuildSlice
import Derived.Lib.ConvBytes
import Derived.OrdersHeld
import Derived.OrdersIn
import Derived.TacticsIn

namespace Go.Proofs.YtniaeiikdgbnfaaDoor.AW
open Go Go.RowKit
set_option linter.unusedSectionVars false
variable [Globs]

def eBuildSlice (P : Program) (s : AState) (t : TypeId) (len : Nat) (ix : List Nat) (xs : List AVal) (K : AState → AVal → Prop) : Prop :=
  match P.underlying t with
  | some (.slice e) =>
    (match P.info? e with
    | some i => i.zero.isSome = true ∧ ix = List.range xs.length ∧ len = xs.length ∧ 0 < i.size ∧ len * i.size ≤ 16777216 ∧
      (match P.underlying e with
      | some (.int k) => i.size = 1 ∧ (match (allDv xs).bind (intsOf k) with
        | some ns => (s.new (.row k e ns) fun s' j => K s' (.own j))
        | none => False)
      | _ => qToDs P xs fun ys => (ys.all fun y => y.size == i.size) = true ∧ (s.new (.rowD e i.size ys) fun s' j => K s' (.own j)))
    | none => False)
  | _ => False

/-- A struct's cells, part by part. -/
def eFill (P : Program) (s : AState) (fs : List Field) : List (Nat × AVal) → List AVal → (List AVal → Prop) → Prop
  | [], base, K => K base
  | (i, x) :: r, base, K =>
    match fs[i]?, cellsV x with
    | some f, some us => szT P f.type = some us.length ∧ us.all (oneV s.st) = true ∧ f.offset + us.length ≤ base.length ∧ eFill P s fs r (base.take f.offset ++ us ++ base.drop (f.offset + us.length)) K
    | _, _ => False

/-- An array's elements, as if they were fields. -/
def arrFs (e : TypeId) (size len : Nat) : List Field := (List.range len).map fun i => { name := "", type := e, offset := i * size, embedded := false, tag := "", pkgPath := "", byteOffset := 0 }

def eBuild (P : Program) (s : AState) (t : TypeId) (parts : List (Nat × AVal)) (K : AVal → Prop) : Prop :=
  match P.underlying t with
  | some (.struct fs) =>
    (match (P.info? t).bind (·.zero) with
    | some z => repCB (zeroD P t) z.cells.toList = true ∧ (∀ f ∈ fs.toList, (szT P f.type).isSome = true) ∧ eFill P s fs.toList parts ((flatD (zeroD P t)).map zV) fun cs => K (.ag t cs)
    | none => False)
  | some (.array len e) =>
    (match (P.info? t).bind (·.zero) with
    | some z => repCB (zeroD P t) z.cells.toList = true ∧ (szT P e).isSome = true ∧ eFill P s (arrFs e ((szT P e).getD 0) len) parts ((flatD (zeroD P t)).map zV) fun cs => K (.ag t cs)
    | none => False)
  | _ => False

section
variable {P : Program} {C : Ctx} {s : AState} {β : Nat → Option Value} {S : Nat → Prop} {a : Act} {w : World}

theorem packD_cells {y : D} {cs : List Value} (h : Rep w S y cs) : (packD y cs).cells.toList = cs := by
  by_cases hy : y.isAgg = false
  · obtain ⟨u, rfl, _, h2⟩ := rep_oneCell h hy
    rw [packD_one hy]
    simp [h2]
  · cases y <;> simp [D.isAgg] at hy
    simp [packD, Value.cells]

theorem zip_eq (ix : List Nat) (vs : List Value) (h : ix = List.range vs.length) : ix.zip vs = (vs.zipIdx 0).map fun x => (x.2, x.1) := by
  subst h
  apply List.ext_getElem?
  intro i
  simp only [List.getElem?_map, List.getElem?_zipIdx, List.zip]
  by_cases hi : i < vs.length
  · simp [hi]
  · simp [hi]

theorem buildSlice_run {w : World} {t e : TypeId} {len : Nat} {ie : TypeInfo} {vs : List Value} {ix : List Nat} (hu : P.underlying t = some (.slice e)) (hie : P.info? e = some ie) (hz : ie.zero.isSome = true)
    (hs : 0 < ie.size) (hl : len = vs.length) (hsm : len * ie.size ≤ 16777216) (hix : ix = List.range vs.length) (h1 : ∀ v ∈ vs, v.cells.size = ie.size) :
    (Instr.buildSlice t len (ix.zip vs).toArray).run P w = .ok (.slice (some ⟨w.heap.size, 0, none⟩) len len) (w.alloc (.cells (vs.flatMap fun v => v.cells.toList).toArray e)) := by
  obtain ⟨z, hz⟩ := Option.isSome_iff_exists.1 hz
  have hsm' : ¬ len * ie.size > 2 ^ 24 := by omega
  by_cases h0 : len = 0
  · have : vs = [] := List.eq_nil_of_length_eq_zero (by omega)
    subst this
    simp [Instr.buildSlice, run_underlying hu, sizeOf, typeInfo, hie, h0, newRow, Instr.fill]
    congr 2
    apply Array.ext <;> simp
  · refine run_buildSlice w t e len _ _ ie z hu hie hz hsm' (by intro h; rcases Nat.mul_eq_zero.1 h with h | h <;> omega) ?_
    rw [zip_eq ix vs hix]
    exact Great.fill_whole hs vs _ h1 (by simp [hl])

theorem intsOf_map : ∀ {k : IntKind} {ds : List D} {ns : List Int}, intsOf k ds = some ns → ds = ns.map (D.int k)
  | k, [], ns, h => by simp [intsOf] at h; subst h; rfl
  | k, d :: r, ns, h => by
    cases d <;> simp only [intsOf] at h <;> try (cases h; done)
    rename_i k' n
    split at h
    · rename_i e; subst e
      split at h
      · rename_i ms h1
        injection h with h; subst h
        rw [intsOf_map h1]; rfl
      · cases h
    · cases h

theorem vall_ints : ∀ {k : IntKind} {ns : List Int} {vs : List Value}, VAll w β S ((ns.map (D.int k)).map .d) vs → vs = ns.map (Value.int k) ∧ ∀ x ∈ ns, k.wrap x = x
  | k, [], vs, h => by simp only [List.map_nil, VAll] at h; subst h; simp
  | k, n :: ns, vs, h => by
    simp only [List.map_cons, VAll] at h
    obtain ⟨v, r, rfl, h1, h2⟩ := h
    obtain ⟨rfl, hw⟩ := d_int h1
    obtain ⟨rfl, h3⟩ := vall_ints h2
    exact ⟨rfl, fun x hx => by rcases List.mem_cons.1 hx with rfl | hx; exact hw; exact h3 x hx⟩

theorem zip_all : ∀ {ys : List D} {css : List (List Value)}, All2 (fun y cs => Rep w S y cs) ys css → ((List.zipWith packD ys css).flatMap fun v => v.cells.toList) = css.flatten ∧ RepAll w S ys css.flatten ∧ (List.zipWith packD ys css).length = ys.length ∧
    (∀ n, (∀ y ∈ ys, y.size = n) → ∀ v ∈ List.zipWith packD ys css, v.cells.size = n)
  | [], [], .nil => ⟨rfl, by simp [RepAll], rfl, by simp⟩
  | y :: ys, cs :: css, .cons h h' => by
    obtain ⟨h1, h2, h3, h4⟩ := zip_all h'
    have e := packD_cells h
    refine ⟨by simp [h1, e], ?_, by simp [h3], fun n hn v hv => ?_⟩
    · simp only [List.flatten_cons, RepAll]; exact ⟨cs, _, rfl, h, h2⟩
    · simp only [List.zipWith_cons_cons, List.mem_cons] at hv
      rcases hv with rfl | hv
      · have := Rep.size _ _ h
        have h5 : (packD y cs).cells.size = cs.length := by have := congrArg List.length e; simpa using this
        rw [h5, this]; exact hn y (by simp)
      · exact h4 n (fun y hy => hn y (List.mem_cons_of_mem _ hy)) v hv

theorem eBuildSlice_sound (h : ARelB C s β S a w) {t : TypeId} {len : Nat} {ix : List Nat} {xs : List AVal} {vs : List Value} {K : AState → AVal → Prop} (hx : VAll w β S xs vs) (hq : eBuildSlice P s t len ix xs K) :
    DoesX P C a w (Instr.buildSlice t len (ix.zip vs).toArray) K := by
  unfold eBuildSlice at hq
  have hvl := VAll.length _ _ hx
  split at hq
  · rename_i e hu
    split at hq
    · rename_i i hi
      obtain ⟨hz, hix, hlen, hpos, hsm, hq⟩ := hq
      have hsm1 : len ≤ 16777216 := Nat.le_trans (Nat.le_mul_of_pos_right _ hpos) hsm
      split at hq
      · rename_i k hk
        obtain ⟨h1, hq⟩ := hq
        split at hq
        · rename_i ns hns
          obtain ⟨ds, hd1, hd2⟩ := Option.bind_eq_some_iff.1 hns
          have := allDv_rel hd1 hx
          rw [intsOf_map hd2] at this
          obtain ⟨rfl, hwf⟩ := vall_ints this
          have hnl : ns.length = len := by rw [hlen, ← hvl]; simp
          have hrun := buildSlice_run (P := P) (w := w) hu hi hz hpos (by rw [hvl]; exact hlen) hsm (ix := ix) (by rw [hvl]; exact hix) (vs := ns.map (Value.int k)) (fun v hv => by obtain ⟨n, _, rfl⟩ := List.mem_map.1 hv; rw [h1]; rfl)
          have e1 : ((ns.map (Value.int k)).flatMap fun v => v.cells.toList) = ns.map (Value.int k) := by
            clear hrun hnl this hns hd2 hwf hq hx hvl
            induction ns with
            | nil => rfl
            | cons n ns ih => simp only [List.map_cons, List.flatMap_cons, ih]; rfl
          rw [e1] at hrun
          refine ⟨_, _, _, .own s.nx, _, hrun, Ext.alloc _ _, S, h.alloc_row (k := k) (e := e) (xs := ns) hnl (Nat.le_refl _) (by unfold maxLen; omega) (by unfold LIM; omega) (by simp [hnl]) (List.take_of_length_le (by simp; omega)) hwf, ?_, hq⟩
          simp only [VRel, updO, if_true]
        · exact hq.elim
      · obtain ⟨ys, css, hall, rfl, hsz0, hK⟩ := qToDs_sound hx hq
        have hsz : ∀ y ∈ ys, y.size = i.size := fun y hy => by simpa using List.all_eq_true.1 hsz0 y hy
        obtain ⟨e1, e2, e3, e4⟩ := zip_all hall
        have hyl : ys.length = len := by rw [hlen, ← hvl, e3]
        have hrun := buildSlice_run (P := P) (w := w) hu hi hz hpos (by rw [hvl]; exact hlen) hsm (ix := ix) (by rw [hvl]; exact hix) (e4 _ hsz)
        rw [e1] at hrun
        have hcl : css.flatten.length = len * i.size := by
          have h5 : ∀ {ys : List D} {cs : List Value}, (∀ y ∈ ys, y.size = i.size) → RepAll w S ys cs → cs.length = ys.length * i.size := fun {ys} => by
            induction ys with
            | nil => intro cs _ h; simp only [RepAll] at h; subst h; simp
            | cons y ys ih =>
              intro cs hy h
              simp only [RepAll] at h
              obtain ⟨c1, c2, rfl, h6, h7⟩ := h
              rw [List.length_append, Rep.size _ _ h6, hy y (by simp), ih (fun y h => hy y (List.mem_cons_of_mem _ h)) h7, List.length_cons, Nat.add_mul]; omega
          rw [h5 hsz e2, hyl]
        refine ⟨_, _, _, .own s.nx, updO β s.nx (.slice (some ⟨w.heap.size, 0, none⟩) len len), hrun, Ext.alloc _ _, S, h.fresh (grown_alloc _ _) (fun b hb => ?_) ?_, ?_, hK⟩
        · simp only [blk] at hb
          split at hb
          · cases hb
          · injection hb with hb; subst hb; simp
        · simp only [ORel]
          refine ⟨css.flatten, ?_, e2.keep fun b hb => ⟨hb, Below.heap_alloc _ _ _ (h.st.inS b hb)⟩, hsz, by unfold LIM; omega, hpos⟩
          by_cases h0 : len = 0
          · exact .inl ⟨some ⟨w.heap.size, 0, none⟩, by rw [h0], by omega, List.eq_nil_of_length_eq_zero (by rw [hcl, h0]; simp)⟩
          · refine .inr ⟨w.heap.size, len, _, by rw [hyl], by omega, heap_alloc_new w _, by omega, by unfold maxLen; omega, by simp [hcl], by rw [hcl, hyl], ?_⟩
            rw [List.take_of_length_le (by simp [hcl, hyl])]
        · simp only [VRel, updO, if_true]
    · exact hq.elim
  · exact hq.elim

theorem foldl_splice (off : Nat) (l : List Value) (cs : Array Value) (hle : off + l.length ≤ cs.size) :
    ((l.zipIdx 0).foldl (fun cs (x : Value × Nat) => cs.setIfInBounds (off + x.2) x.1) cs).toList = cs.toList.take off ++ l ++ cs.toList.drop (off + l.length) := by
  obtain ⟨h1, h2⟩ := Great.foldl_set off l 0 cs
  apply List.ext_getElem?
  intro i
  rw [Array.getElem?_toList, h2 i]
  simp only [Nat.add_zero]
  by_cases ha : i < off
  · rw [if_neg (by omega), List.append_assoc, List.getElem?_append_left (by simp; omega), List.getElem?_take_of_lt ha, Array.getElem?_toList]
  · by_cases hb : i < off + l.length
    · rw [if_pos (by omega), List.append_assoc, List.getElem?_append_right (by simp; omega), List.getElem?_append_left (by simp; omega)]
      congr 1; simp; omega
    · rw [if_neg (by omega), List.getElem?_append_right (by simp; omega), List.getElem?_drop, ← Array.getElem?_toList]
      congr 1; simp; omega

theorem eFill_sound (h : ARelB C s β S a w) {fs : List Field} {place : Nat → Option (Nat × Nat)} (hp : ∀ i f n, fs[i]? = some f → szT P f.type = some n → place i = some (f.offset, n)) :
    ∀ {xs : List AVal} {ix : List Nat} {vs : List Value} {base : List AVal} {cells : Array Value} {K : List AVal → Prop}, VAll w β S xs vs → VAll w β S base cells.toList → eFill P s fs (ix.zip xs) base K →
    ∃ cells' base', Instr.fill place cells (ix.zip vs) = some cells' ∧ VAll w β S base' cells'.toList ∧ K base'
  | [], ix, vs, base, cells, K, hx, hb, hq => by
    simp only [VAll] at hx; subst hx
    simp only [List.zip_nil_right, eFill] at hq ⊢
    exact ⟨cells, base, rfl, hb, hq⟩
  | x :: xs, [], vs, base, cells, K, hx, hb, hq => by
    simp only [List.zip_nil_left, eFill] at hq ⊢
    exact ⟨cells, base, rfl, hb, hq⟩
  | x :: xs, i :: ix, vs, base, cells, K, hx, hb, hq => by
    simp only [VAll] at hx
    obtain ⟨v, r, rfl, h1, h2⟩ := hx
    simp only [List.zip_cons_cons, eFill] at hq ⊢
    split at hq
    · rename_i f us hf hc
      obtain ⟨hsz, hone, hle, hq⟩ := hq
      have hcv := cellsV_rel h h1 hc hone
      have hcl := VAll.length _ _ hcv
      have hbl := VAll.length _ _ hb
      have hcl' : v.cells.size = us.length := by simpa using hcl
      have hsp := foldl_splice f.offset v.cells.toList cells (by simp at hbl hcl ⊢; omega)
      have hb' := VAll.splice hb hcv f.offset
      have : Instr.fill place cells ((i, v) :: ix.zip r) = Instr.fill place ((v.cells.toList.zipIdx 0).foldl (fun cs (x : Value × Nat) => cs.setIfInBounds (f.offset + x.2) x.1) cells) (ix.zip r) := by
        conv => lhs; unfold Instr.fill
        simp only [hp i f _ hf hsz, hcl']
        rw [if_neg (by simp at hbl ⊢; omega)]
        congr 1
        rw [← Array.foldl_toList]
        simp
      rw [this]
      exact eFill_sound h hp h2 (by rw [hsp]; simpa [hcl'] using hb') hq
    · exact hq.elim

theorem fields_mapM : ∀ (fs : List Field), (∀ f ∈ fs, (szT P f.type).isSome = true) →
    fs.mapM (fun f => (P.info? f.type).map fun i => (f.offset, i.size)) = some (fs.map fun f => (f.offset, (szT P f.type).getD 0))
  | [], _ => by simp
  | f :: fs, h => by
    obtain ⟨n, hn⟩ := Option.isSome_iff_exists.1 (h f (by simp))
    have ih := fields_mapM fs fun g hg => h g (List.mem_cons_of_mem _ hg)
    obtain ⟨i, hi, rfl⟩ := Option.map_eq_some_iff.1 hn
    simp [List.mapM_cons, hi, ih, szT]

theorem eBuild_sound (h : ARelB C s β S a w) {t : TypeId} {ix : List Nat} {xs : List AVal} {vs : List Value} {K : AVal → Prop} (hx : VAll w β S xs vs) (hq : eBuild P s t (ix.zip xs) K) :
    ∃ u r, (∀ w', (Instr.build t (ix.zip vs).toArray).run P w' = .ok u w') ∧ VRel w β S r u ∧ K r := by
  unfold eBuild at hq
  split at hq
  · rename_i fs hu
    split at hq
    · rename_i z hz
      obtain ⟨hrep, hsz, hq⟩ := hq
      have hbase := zV_rel (w := w) (β := β) (S := S) _ _ (repCB_ok _ _ hrep)
      obtain ⟨cells', base', hf, hv, hK⟩ := eFill_sound h (place := fun i => (fs.map fun f => (f.offset, (szT P f.type).getD 0))[i]?) (fun i f n h1 h2 => by
        simp only [Array.getElem?_map]
        rw [← Array.getElem?_toList, h1]
        simp [h2]) hx hbase hq
      refine ⟨.agg cells', _, fun w' => ?_, by simp only [VRel]; exact ⟨_, rfl, hv⟩, hK⟩
      refine run_build w' t _ cells' ?_
      obtain ⟨i, hi, hz⟩ := Option.bind_eq_some_iff.1 hz
      have hm := fields_mapM (P := P) fs.toList hsz
      simp only [Program.built, hi, hu, hz, hm]
      rw [List.toList_toArray]
      simpa using hf
    · exact hq.elim
  · rename_i len e hu
    split at hq
    · rename_i z hz
      obtain ⟨hrep, hsz, hq⟩ := hq
      obtain ⟨i, hi, hz⟩ := Option.bind_eq_some_iff.1 hz
      obtain ⟨n, hn⟩ := Option.isSome_iff_exists.1 hsz
      obtain ⟨ie, hie, hien⟩ : ∃ ie, P.info? e = some ie ∧ ie.size = n := by
        unfold szT at hn
        cases h' : P.info? e with
        | none => rw [h'] at hn; simp at hn
        | some ie => rw [h'] at hn; exact ⟨ie, rfl, by simpa using hn⟩
      have hbase := zV_rel (w := w) (β := β) (S := S) _ _ (repCB_ok _ _ hrep)
      obtain ⟨cells', base', hf, hv, hK⟩ := eFill_sound h (place := fun i => some (i * ie.size, ie.size)) (fun i f m h1 h2 => by
        unfold arrFs at h1
        rw [List.getElem?_map] at h1
        cases hr : (List.range len)[i]? with
        | none => rw [hr] at h1; simp at h1
        | some i' =>
          rw [hr] at h1
          have hi' : i' = i := by
            have := (List.getElem?_eq_some_iff.1 hr).2
            simpa using this.symm
          subst hi'
          simp only [Option.map_some, Option.some.injEq] at h1
          subst h1
          simp only at h2 ⊢
          rw [hn] at h2
          injection h2 with h2
          rw [hn, Option.getD_some, hien, h2]) hx hbase hq
      refine ⟨.agg cells', _, fun w' => ?_, by simp only [VRel]; exact ⟨_, rfl, hv⟩, hK⟩
      refine run_build w' t _ cells' ?_
      simp only [Program.built, hi, hu, hz, hie]
      exact hf
    · exact hq.elim
  · exact hq.elim

end

mutual
def frzV (j : Nat) (x : D) : AVal → AVal
  | .own i => if i = j then (match x with
      | .ptr _ => .any
      | y => .d y) else .own i
  | .view i off len => if i = j then (match x with
      | .ints k xs => if off + len ≤ xs.length then .d (.ints k ((xs.drop off).take len)) else .any
      | _ => .any) else .view i off len
  | .optr i off => if i = j then (match x with
      | .ptr y => if off = 0 then .d (.ptr y) else .any
      | .ints k xs => if off < xs.length then .d (.ptr (.int k (xs.getD off 0))) else .any
      | _ => .any) else .optr i off
  | .ag t cs => .ag t (frzL j x cs)
  | .tup cs => .tup (frzL j x cs)
  | .ofn f cs => .ofn f (frzL j x cs)
  | .any => .any
  | .un => .un
  | .d y => .d y
  | .em y => .em y
  | .nls y => .nls y
def frzL (j : Nat) (x : D) : List AVal → List AVal
  | [] => []
  | v :: r => frzV j x v :: frzL j x r
end

def frzOb (j : Nat) (x : D) : Ob → Ob
  | .cell t cs => .cell t (frzL j x cs)
  | o => o

def frzSt (j : Nat) (x : D) : List (Nat × Ob) → List (Nat × Ob)
  | [] => []
  | (i, p) :: r => if i = j then frzSt j x r else (i, frzOb j x p) :: frzSt j x r

def AState.frz : AState → Nat → D → AState
  | ⟨n, fr, st, nx⟩, j, x => ⟨n, fun t => frzV j x (fr t), frzSt j x st, nx⟩

/-- Object j is never written again. -/
def qFreeze (P : Program) (s : AState) (j : Nat) (K : AState → Prop) : Prop :=
  match getO s.st j with
  | some (.row k _ xs) => K (s.frz j (.ints k xs))
  | some (.rowD _ sz es) => K (s.frz j (.sl sz es))
  | some (.cell e cs) =>
    (match allDv cs with
    | some ds => flatD (asm P 6 e ds) = ds ∧ K (s.frz j (.ptr (asm P 6 e ds)))
    | none => False)
  | none => K s

/-- The object that a slot holds. -/
def idOf : AVal → Option Nat
  | .own j => some j
  | .optr j _ => some j
  | .view j _ _ => some j
  | _ => none

def qFreezes (P : Program) : List Tmp → AState → (AState → Prop) → Prop
  | [], s, K => K s
  | t :: r, s, K =>
    match idOf (s.fr t) with
    | some j => qFreeze P s j fun s' => qFreezes P r s' K
    | none => qFreezes P r s K

theorem mem_frzSt {j : Nat} {x : D} : ∀ {st : List (Nat × Ob)} {i : Nat} {p : Ob}, (i, p) ∈ frzSt j x st → i ≠ j ∧ ∃ q, (i, q) ∈ st ∧ p = frzOb j x q
  | [], _, _, h => by simp [frzSt] at h
  | (k, q) :: r, i, p, h => by
    simp only [frzSt] at h
    split at h
    · obtain ⟨h1, q', h2, h3⟩ := mem_frzSt h
      exact ⟨h1, q', List.mem_cons_of_mem _ h2, h3⟩
    · rename_i hne
      simp only [List.mem_cons] at h
      rcases h with h | h
      · injection h with h1 h2; subst h1; subst h2; exact ⟨hne, q, by simp⟩
      · obtain ⟨h1, q', h2, h3⟩ := mem_frzSt h
        exact ⟨h1, q', List.mem_cons_of_mem _ h2, h3⟩

theorem frzSt_ids {j : Nat} {x : D} : ∀ {st : List (Nat × Ob)}, (st.map (·.1)).Nodup → ((frzSt j x st).map (·.1)).Nodup
  | [], h => by simp [frzSt]
  | (i, p) :: r, h => by
    simp only [List.map_cons, List.nodup_cons] at h
    simp only [frzSt]
    split
    · exact frzSt_ids h.2
    · simp only [List.map_cons, List.nodup_cons]
      refine ⟨fun hm => ?_, frzSt_ids h.2⟩
      obtain ⟨⟨k, q⟩, hk, rfl⟩ := List.mem_map.1 hm
      obtain ⟨_, q', h2, _⟩ := mem_frzSt hk
      exact h.1 (List.mem_map.2 ⟨_, h2, rfl⟩)

/-- What a deep value says of an object's value: as a whole, of its parts. -/
structure FrzOk (w : World) (β : Nat → Option Value) (S' : Nat → Prop) (j : Nat) (x : D) : Prop where
  own : ∀ v, β j = some v → (∀ y, x ≠ .ptr y) → VRel w β S' (.d x) v
  view : ∀ k xs, x = .ints k xs → ∀ off len A c, off + len ≤ xs.length → len ≤ c → (0 < len → ∃ b, (β j).bind blk = some b ∧ A = some ⟨b, off, none⟩) → VRel w β S' (.d (.ints k ((xs.drop off).take len))) (.slice A len c)
  ptr : ∀ y, x = .ptr y → ∀ b, (β j).bind blk = some b → VRel w β S' (.d (.ptr y)) (.pointer (some ⟨b, 0, none⟩))
  elem : ∀ k xs, x = .ints k xs → ∀ off b, off < xs.length → (β j).bind blk = some b → VRel w β S' (.d (.ptr (.int k (xs.getD off 0)))) (.pointer (some ⟨b, off, none⟩))

section
variable {P : Program} {C : Ctx} {s : AState} {β : Nat → Option Value} {S S' : Nat → Prop} {a : Act} {w : World} {j : Nat} {x : D}

mutual
theorem frzV_rel (hS : ∀ b, S b → S' b) (hf : FrzOk w β S' j x) : ∀ (v : AVal) (u : Value), VRel w β S v u → VRel w β S' (frzV j x v) u
  | .any, u, h => by simp only [frzV, VRel]
  | .un, u, h => by simpa only [frzV, VRel] using h
  | .d y, u, h => by
    simp only [VRel, frzV] at h ⊢
    obtain ⟨cs, h1, h2⟩ := h
    exact ⟨cs, h1.keep fun b hb => ⟨hS b hb, rfl⟩, h2⟩
  | .em y, u, h => by simpa only [frzV, VRel] using h
  | .nls y, u, h => by simpa only [frzV, VRel] using h
  | .own i, u, h => by
    simp only [frzV]
    split
    · rename_i e; subst e
      simp only [VRel] at h
      split
      · simp only [VRel]
      · rename_i hne; exact hf.own u h hne
    · simpa only [VRel] using h
  | .view i off len, u, h => by
    simp only [frzV]
    split
    · rename_i e; subst e
      split
      · rename_i k xs hf'
        split
        · rename_i hle
          simp only [VRel] at h
          obtain ⟨A, c, rfl, h1, h2⟩ := h
          exact hf.view _ _ rfl off len A c hle h1 h2
        · simp only [VRel]
      · simp only [VRel]
    · simpa only [VRel] using h
  | .optr i off, u, h => by
    simp only [frzV]
    split
    · rename_i e; subst e
      simp only [VRel] at h
      obtain ⟨b, hb, rfl⟩ := h
      split
      · split
        · rename_i e0; subst e0; exact hf.ptr _ rfl b hb
        · simp only [VRel]
      · split
        · rename_i hlt; exact hf.elem _ _ rfl off b hlt hb
        · simp only [VRel]
      · simp only [VRel]
    · simpa only [VRel] using h
  | .ag t cs, u, h => by
    simp only [VRel, frzV] at h ⊢
    obtain ⟨vs, h1, h2⟩ := h
    exact ⟨vs, h1, frzL_rel hS hf cs _ h2⟩
  | .tup cs, u, h => by
    simp only [VRel, frzV] at h ⊢
    obtain ⟨vs, h1, h2⟩ := h
    exact ⟨vs, h1, frzL_rel hS hf cs _ h2⟩
  | .ofn f cs, u, h => by
    simp only [VRel, frzV] at h ⊢
    obtain ⟨vs, h1, h2⟩ := h
    exact ⟨vs, h1, frzL_rel hS hf cs _ h2⟩
theorem frzL_rel (hS : ∀ b, S b → S' b) (hf : FrzOk w β S' j x) : ∀ (xs : List AVal) (vs : List Value), VAll w β S xs vs → VAll w β S' (frzL j x xs) vs
  | [], vs, h => by simpa only [frzL, VAll] using h
  | v :: xs, vs, h => by
    simp only [frzL, VAll] at h ⊢
    obtain ⟨u, r, e, h1, h2⟩ := h
    exact ⟨u, r, e, frzV_rel hS hf v u h1, frzL_rel hS hf xs r h2⟩
end

theorem ARelB.frz (h : ARelB C s β S a w) {o : Ob} (hj : (j, o) ∈ s.st) (hf : FrzOk w β (fun b => S b ∨ (β j).bind blk = some b) j x) :
    ARelB C (s.frz j x) β (fun b => S b ∨ (β j).bind blk = some b) a w := by
  have hS : ∀ b, S b → S b ∨ (β j).bind blk = some b := fun b hb => .inl hb
  have hown : ∀ b, Owned β (frzSt j x s.st) b → Owned β s.st b := fun b => by
    rintro ⟨i, p, hi, hb⟩
    obtain ⟨_, q, hq, _⟩ := mem_frzSt hi
    exact ⟨i, q, hq, hb⟩
  refine ⟨fun t => frzV_rel hS hf _ _ (h.fr t), h.size, ⟨fun i p hi => ?_, frzSt_ids h.st.nodup, fun i p k q hi hk hne => ?_, fun b hb => ?_, fun b hb => ?_, h.st.gl.keep fun b hb => ⟨.inl hb, rfl⟩⟩, ?_, h.nx, h.defers.keep fun D hD hS => ⟨hD, fun h' => h'.elim hS fun hb => by obtain ⟨cs, t, hc⟩ := h.st.cells ⟨j, o, hj, hb⟩; rw [hD] at hc; cases hc⟩, h.pin, h.nxm⟩
  · obtain ⟨_, q, hq, rfl⟩ := mem_frzSt hi
    obtain ⟨v, hv, hr⟩ := h.st.obj i q hq
    refine ⟨v, hv, ?_⟩
    cases q with
    | row k t xs => simpa only [frzOb, ORel] using hr
    | rowD t sz es =>
      simp only [frzOb, ORel] at hr ⊢
      obtain ⟨vs, h1, h2, h3⟩ := hr
      exact ⟨vs, h1, h2.keep fun b hb => ⟨.inl hb, rfl⟩, h3⟩
    | cell t cs =>
      simp only [frzOb, ORel] at hr ⊢
      obtain ⟨b, vs, h1, h2, h3⟩ := hr
      exact ⟨b, vs, h1, h2, frzL_rel hS hf cs _ h3⟩
  · obtain ⟨_, p', hp, _⟩ := mem_frzSt hi
    obtain ⟨_, q', hq, _⟩ := mem_frzSt hk
    exact h.st.apart i p' k q' hp hq hne
  · refine ⟨fun hs => ?_, (h.st.own b (hown b hb)).2⟩
    rcases hs with hs | hs
    · exact (h.st.own b (hown b hb)).1 hs
    · obtain ⟨i, p, hi, hb'⟩ := hb
      obtain ⟨hne, q, hq, _⟩ := mem_frzSt hi
      exact h.st.apart i q j o hq hj hne b hb' hs
  · rcases hb with hb | hb
    · exact h.st.inS b hb
    · exact (h.st.own b ⟨j, o, hj, hb⟩).2
  · have hf := h.frame
    refine ⟨hf.size, hf.os, hf.tape, hf.output, hf.old, fun b hb => ?_, fun b hb => hf.own b (hown b hb)⟩
    rcases hb with hb | hb
    · exact hf.inS b hb
    · exact .inr (hf.own b ⟨j, o, hj, hb⟩)

theorem ownsV_cells {w : World} {t : TypeId} {sz : Nat} {v : Value} {n : Nat} {vs : List Value} (h : OwnsV w t sz v n vs) : ∃ A c, v = .slice A n c ∧ n ≤ c ∧ (0 < n → ∃ b, A = some ⟨b, 0, none⟩ ∧ blk v = some b ∧ Cells w b 0 vs) := by
  rcases h with ⟨A, e, h0, hv⟩ | ⟨g, cap, cur, e, hc, hh, hle, hm, hz, hl, ht⟩
  · exact ⟨A, 0, by rw [e, h0], by omega, by omega⟩
  · refine ⟨_, _, e, hle, fun _ => ⟨g, rfl, by rw [e]; simp [blk]; omega, fun i u hu => ?_⟩⟩
    subst ht
    have hi : i < n * sz := by
      have := (List.getElem?_eq_some_iff.1 hu).1
      simp at this; omega
    rw [List.getElem?_take_of_lt hi] at hu
    simp [World.cell?, hh]
    simpa using hu

theorem repRow_of {S : Nat → Prop} {sz : Nat} : ∀ {es : List D} {vs : List Value} {b o : Nat}, Cells w b o vs → RepAll w S es vs → (∀ e ∈ es, e.size = sz) → RepRow w S sz es b o
  | [], vs, b, o, _, _, _ => by simp only [RepRow]
  | e :: es, vs, b, o, hc, h, hs => by
    simp only [RepAll] at h
    obtain ⟨c1, c2, rfl, h1, h2⟩ := h
    have hl : c1.length = sz := by rw [Rep.size _ _ h1, hs e (by simp)]
    simp only [RepRow]
    refine ⟨⟨c1, hl, fun i v hi => hc i v ?_, h1⟩, repRow_of (fun i v hi => ?_) h2 fun e he => hs e (by simp [he])⟩
    · rw [List.getElem?_append_left]
      · exact hi
      · exact (List.getElem?_eq_some_iff.1 hi).1
    · have := hc (sz + i) v (by rw [List.getElem?_append_right (by omega), hl]; simpa using hi)
      rwa [← Nat.add_assoc] at this

theorem qFreeze_sound (h : ARelB C s β S a w) {K : AState → Prop} (hq : qFreeze P s j K) : ∃ S' s', ARelB C s' β S' a w ∧ K s' := by
  unfold qFreeze at hq
  split at hq
  · rename_i k e xs ho
    obtain ⟨v, hv, hr⟩ := h.st.obj j _ (getO_mem ho)
    simp only [ORel] at hr
    obtain ⟨hr1, hr2, hr3⟩ := hr
    obtain ⟨A, c, rfl, hle, hA⟩ := ownsV_cells hr1
    have base : ∀ {b : Nat}, (β j).bind blk = some b → ∀ off len, off + len ≤ xs.length → 0 < len → Cells w b off (((xs.drop off).take len).map (Value.int k)) := fun {b} hb off len hl hp => by
      obtain ⟨b', e1, e2, hc⟩ := hA (by omega)
      rw [hv, Option.bind_some, e2] at hb
      injection hb with hb; subst hb
      have := hc.sub off len
      simpa [List.map_take, List.map_drop] using this
    refine ⟨_, _, h.frz (getO_mem ho) ⟨fun u hu _ => ?_, fun k' xs' e off len A' c' hl hc hA' => ?_, (fun y e => by cases e), fun k' xs' e off b hlt hb => ?_⟩, hq⟩
    · rw [hv] at hu; injection hu with hu; subst hu
      simp only [VRel, Rep]
      refine ⟨_, ⟨A, c, rfl, hle, hr3, hr2, fun hne => ?_⟩, rfl⟩
      obtain ⟨b, e1, e2, hc⟩ := hA (List.length_pos_iff.2 hne)
      exact ⟨b, 0, e1, .inr (by rw [hv]; exact e2), hc⟩
    · injection e with e1 e2; subst e1; subst e2
      have hln : ((xs.drop off).take len).length = len := by simp; omega
      simp only [VRel, Rep]
      refine ⟨[.slice A' len c'], ⟨A', c', by rw [hln], by omega, by omega, fun x hx => hr2 x (List.mem_of_mem_drop (List.mem_of_mem_take hx)), fun hne => ?_⟩, rfl⟩
      have hp : 0 < len := by have := List.length_pos_iff.2 hne; omega
      obtain ⟨b, hb, rfl⟩ := hA' hp
      exact ⟨b, off, rfl, .inr hb, base hb off len hl hp⟩
    · injection e with e1 e2; subst e1; subst e2
      simp only [VRel, Rep]
      refine ⟨_, ⟨b, off, rfl, .inr hb, [.int k (xs.getD off 0)], ?_, rfl, ?_⟩, rfl⟩
      · have := base hb off 1 (by omega) (by omega)
        rw [take_one_drop hlt] at this
        simpa [List.getD_eq_getElem?_getD, hlt] using this
      · rw [List.getD_eq_getElem?_getD, List.getElem?_eq_getElem hlt]; exact hr2 _ (List.getElem_mem hlt)
  · rename_i e sz es ho
    obtain ⟨v, hv, hr⟩ := h.st.obj j _ (getO_mem ho)
    simp only [ORel] at hr
    obtain ⟨vs, hr1, hr2, hr3, hr4, hr5⟩ := hr
    obtain ⟨A, c, rfl, hle, hA⟩ := ownsV_cells hr1
    refine ⟨_, _, h.frz (getO_mem ho) ⟨fun u hu _ => ?_, (fun _ _ e => by cases e), (fun _ e => by cases e), (fun _ _ e => by cases e)⟩, hq⟩
    rw [hv] at hu; injection hu with hu; subst hu
    simp only [VRel, Rep]
    refine ⟨_, ⟨A, c, rfl, hle, hr4, fun hne => ?_⟩, rfl⟩
    obtain ⟨b, e1, e2, hc⟩ := hA (List.length_pos_iff.2 hne)
    exact ⟨b, 0, e1, .inr (by rw [hv]; exact e2), repRow_of hc (hr2.keep fun b hb => ⟨.inl hb, rfl⟩) hr3⟩
  · rename_i e cs ho
    obtain ⟨v, hv, hr⟩ := h.st.obj j _ (getO_mem ho)
    simp only [ORel] at hr
    obtain ⟨b, vs, rfl, hh, hr⟩ := hr
    split at hq
    · rename_i ds hds
      obtain ⟨h1, hK⟩ := hq
      have hall := allDv_rel hds hr
      rw [← h1] at hall
      have hrep := rep_of_flat _ _ hall
      refine ⟨_, _, h.frz (getO_mem ho) ⟨fun u hu hne => (hne _ rfl).elim, (fun _ _ e => by cases e), fun y e b' hb => ?_, (fun _ _ e => by cases e)⟩, hK⟩
      injection e with e; subst e
      have hbb := hb
      rw [hv] at hb
      simp only [Option.bind_some, blk, Option.some.injEq] at hb
      subst hb
      simp only [VRel, Rep]
      refine ⟨_, ⟨b, 0, rfl, .inr hbb, vs.toList, fun i u hu => ?_, hrep.keep fun b hb => ⟨.inl hb, rfl⟩⟩, rfl⟩
      simp [World.cell?, hh]
      simpa using hu
    · exact hq.elim
  · exact ⟨S, s, h, hq⟩

theorem qFreezes_sound : ∀ {ts : List Tmp} {s : AState} {S : Nat → Prop} {K : AState → Prop}, ARelB C s β S a w → qFreezes P ts s K → ∃ S' s', ARelB C s' β S' a w ∧ K s'
  | [], s, S, K, h, hq => ⟨S, s, h, hq⟩
  | t :: ts, s, S, K, h, hq => by
    simp only [qFreezes] at hq
    split at hq
    · obtain ⟨S', s', h', hq'⟩ := qFreeze_sound h hq
      exact qFreezes_sound h' hq'
    · exact qFreezes_sound h hq

end

def argsV (P : Program) (s : AState) : List Operand → List TypeId → List AVal
  | [], _ => []
  | x :: xs, [] => aev P s 0 x :: argsV P s xs []
  | x :: xs, t :: ts => aev P s t x :: argsV P s xs ts
def argsB (P : Program) : List Operand → List TypeId → Bool
  | [], _ => true
  | x :: xs, [] => constB P 0 x && argsB P xs []
  | x :: xs, t :: ts => constB P t x && argsB P xs ts
def argsOk (P : Program) (xs : List Operand) (ts : List TypeId) : Prop := argsB P xs ts = true

def partsV (P : Program) (s : AState) (ty : Nat → TypeId) : List (Nat × Operand) → List AVal
  | [] => []
  | p :: r => aev P s (ty p.1) p.2 :: partsV P s ty r
def partsB (P : Program) (ty : Nat → TypeId) : List (Nat × Operand) → Bool
  | [] => true
  | p :: r => constB P (ty p.1) p.2 && partsB P ty r
def partsOk (P : Program) (ty : Nat → TypeId) (ps : List (Nat × Operand)) : Prop := partsB P ty ps = true

def elemT (P : Program) (t : TypeId) : Nat → TypeId := fun _ => match P.underlying t with
  | some (.slice e) => e
  | some (.array _ e) => e
  | _ => 0
def fieldT (P : Program) (t : TypeId) : Nat → TypeId := fun i => match P.underlying t with
  | some (.struct fs) => ((fs[i]?).map (·.type)).getD 0
  | _ => elemT P t i

/-- May it turn what stood there? 'mu': the functions that may. -/
def mutO (mu : FuncId → Bool) : Op → Bool
  | .alloc _ | .box .. | .makeSlice .. | .buildSlice .. | .build .. => false
  | .call c =>
    match c.callee with
    | .value (.func g) => mu g
    | .builtin .len | .builtin .max | .builtin .min => false
    | _ => true
  | .convert src dst _ => src == dst && mu 2000000
  | o => !quietOp o

structure ACall (P : Program) (C : Ctx) (x : Bool) (s : AState) (f : FuncId) (avs : List AVal) (K : AState → AVal → Prop) : Prop where
  run : ∀ β S a w vs, ARelB C s β S a w → VAll w β S avs vs → Enters P f ∧
    Calls P f vs.toArray w fun e w' => ∃ v s' r β' S', e = .returned v ∧ (x = true → Ext w w') ∧ ARelB C s' β' S' a w' ∧ VRel w' β' S' r v ∧ K s' r

/-- Whatever it is. -/
structure AOther (P : Program) (C : Ctx) (x : Bool) (s : AState) (o : Oper) (K : AState → AVal → Prop) : Prop where
  run : ∀ β S a w, ARelB C s β S a w → ∃ v w' s' r β' S', ((execOp a.eval o).run P w = .ok (.value v) w' ∨ (v = undef ∧ (execOp a.eval o).run P w = .ok .skip w')) ∧ (x = true → Ext w w') ∧ ARelB C s' β' S' a w' ∧ VRel w' β' S' r v ∧ K s' r

def aCallE (P : Program) (C : Ctx) (x : Bool) (s : AState) (o : Oper) (c : Call) (K : AState → AVal → Prop) : Prop :=
  match c.callee with
  | .builtin .append =>
    (match c.args.toList, c.argTypes.toList with
    | [y, z], [t, t2] => (constOk P t y ∧ constOk P t2 z) ∧ eAppend P C.m s t t2 (aev P s t y) (aev P s t2 z) K
    | _, _ => False)
  | .builtin .copy =>
    (match c.args.toList, c.argTypes.toList with
    | [y, z], [t, t2] => (constOk P t y ∧ constOk P t2 z) ∧ eCopy P s t (aev P s t y) (aev P s t2 z) K
    | _, _ => False)
  | .value f => constOk P 0 f ∧
    (match aev P s 0 f with
    | .d (.fn g caps) => noAgg caps = true ∧ argsOk P c.args.toList c.argTypes.toList ∧ ACall P C x s g (argsV P s c.args.toList c.argTypes.toList ++ caps.map .d) K
    | .ofn g caps => argsOk P c.args.toList c.argTypes.toList ∧ ACall P C x s g (argsV P s c.args.toList c.argTypes.toList ++ caps) K
    | _ => False)
  | _ => AOther P C x s o K

def storeOk (s : AState) (v : AVal) : Prop := match cellsV v with
  | some us => us.all (oneV s.st) = true
  | none => True

/-- Is it a conversion of a string to bytes? -/
def s2b (P : Program) : Op → Bool
  | .convert src dst _ => (match P.underlying src, P.underlying dst with
    | some .string, some (.slice _) => true
    | _, _ => false)
  | _ => false
def eS2B (P : Program) (s : AState) (src dst : TypeId) (x : AVal) (K : AState → AVal → Prop) : Prop :=
  match P.underlying src, P.underlying dst, x with
  | some .string, some (.slice e), .d (.str xs) => P.underlying e = some (.int .u8) ∧ K s (.d (.ints .u8 xs))
  | _, _, _ => False

def aeff (P : Program) (C : Ctx) (mu : FuncId → Bool) (s : AState) (o : Oper) (K : AState → AVal → Prop) : Prop :=
  match o.op with
  | .alloc e => eAlloc P s e K
  | .box e x => constOk P e x ∧ eBox s e (aev P s e x) K
  | .store t x v => (constOk P 0 x ∧ constOk P t v) ∧ storeOk s (aev P s t v) ∧ eStore P s t (aev P s 0 x) (aev P s t v) (fun s' => K s' .un)
  | .makeSlice t l c => (constOk P 0 l ∧ constOk P 0 c) ∧ eMake P s t (aev P s 0 l) (aev P s 0 c) K
  | .buildSlice t len parts => partsOk P (elemT P t) parts.toList ∧ eBuildSlice P s t len (parts.toList.map (·.1)) (partsV P s (elemT P t) parts.toList) K
  | .build t parts => partsOk P (fieldT P t) parts.toList ∧ eBuild P s t ((parts.toList.map (·.1)).zip (partsV P s (fieldT P t) parts.toList)) (K s)
  | .call c => aCallE P C (!(mutO mu (.call c))) s o c K
  | .convert src dst x => constOk P src x ∧ eS2B P s src dst (aev P s src x) K
  | .defer _ => False
  | _ => AOther P C (!(mutO mu o.op)) s o K

def dstOk (s : AState) (o : Oper) : Bool := match o.dst with
  | some t => decide (t < s.n)
  | none => true
theorem dstOk.lt {s : AState} {o : Oper} (h : dstOk s o = true) (t : Tmp) (e : o.dst = some t) : t < s.n := by
  unfold dstOk at h
  rw [e] at h
  exact of_decide_eq_true h

def aop (P : Program) (C : Ctx) (mu : FuncId → Bool) (s : AState) (o : Oper) (K : AState → Prop) : Prop :=
  dstOk s o = true ∧
  (match quietOp o.op && !s2b P o.op with
  | true => aquiet P s o (fun v => forceV v fun v => forceS (s.put o.dst v) K)
  | false => aeff P C mu s o (fun s' v => forceV v fun v => forceS (s'.put o.dst v) K))

/-- An operation that is walked by hand. -/
def aovr (P : Program) (C : Ctx) (mu : FuncId → Bool) (s : AState) (o : Oper) (K : AState → Prop) : Prop :=
  dstOk s o = true ∧ AOther P C (!(mutO mu o.op)) s o (fun s' v => forceV v fun v => forceS (s'.put o.dst v) K)

section
variable {P : Program} {C : Ctx} {s : AState} {β : Nat → Option Value} {S : Nat → Prop} {a : Act} {w : World} {mu : FuncId → Bool}

theorem argsV_rel (h : ARelB C s β S a w) : ∀ {xs : List Operand} {ts : List TypeId}, argsOk P xs ts → VAll w β S (argsV P s xs ts) (xs.map a.eval)
  | [], _, _ => by simp [argsV, VAll]
  | x :: xs, [], hc => by
    simp only [argsV, argsOk, argsB, Bool.and_eq_true, List.map_cons, VAll] at hc ⊢
    exact ⟨_, _, rfl, aev_rel h hc.1, argsV_rel h hc.2⟩
  | x :: xs, t :: ts, hc => by
    simp only [argsV, argsOk, argsB, Bool.and_eq_true, List.map_cons, VAll] at hc ⊢
    exact ⟨_, _, rfl, aev_rel h hc.1, argsV_rel h hc.2⟩

theorem partsV_rel (h : ARelB C s β S a w) {ty : Nat → TypeId} : ∀ {ps : List (Nat × Operand)}, partsOk P ty ps → VAll w β S (partsV P s ty ps) (ps.map fun p => a.eval p.2)
  | [], _ => by simp [partsV, VAll]
  | p :: ps, hc => by
    simp only [partsV, partsOk, partsB, Bool.and_eq_true, List.map_cons, VAll] at hc ⊢
    exact ⟨_, _, rfl, aev_rel h hc.1, partsV_rel h hc.2⟩

theorem parts_zip (ps : Array (Nat × Operand)) (ρ : Operand → Value) : (ps.map fun (i, x) => (i, ρ x)) = ((ps.toList.map (·.1)).zip (ps.toList.map fun p => ρ p.2)).toArray := by
  apply Array.ext'
  simp only [Array.toList_map]
  generalize ps.toList = l
  induction l with
  | nil => rfl
  | cons p l ih => simp only [List.map_cons, List.zip_cons_cons, ih]

theorem callFunc_enters {f : FuncId} (h : Enters P f) (args : Array Value) (w : World) : (callFunc f args).run P w = .ok (.enter f args) w := by
  obtain ⟨fn, h1, h2, h3⟩ := h
  simp only [callFunc, Sem.run_bind, run_program, Result.andThen_ok, h1, h3, h2, Bool.false_eq_true, if_false]
  rfl

/-- What the operation itself comes to, ahead of its slot. -/
def Upon (P : Program) (C : Ctx) (x : Bool) (a : Act) (w : World) (o : Oper) (K : AState → AVal → Prop) : Prop :=
  ∀ (next : Act → World → Prop) (Q : Exit → Act → World → Prop),
    (∀ v w' s' r β' S', (x = true → Ext w w') → ARelB C s' β' S' a w' → VRel w' β' S' r v → K s' r → next (a.put o.dst v) w') → o.wp P a w next Q

theorem Upon.value {x : Bool} {o : Oper} {K : AState → AVal → Prop} {v : Value} {w' : World} {s' : AState} {r : AVal} {β' : Nat → Option Value} {S' : Nat → Prop} (h : (execOp a.eval o).run P w = .ok (.value v) w') (he : x = true → Ext w w')
    (h1 : ARelB C s' β' S' a w') (h2 : VRel w' β' S' r v) (hK : K s' r) : Upon P C x a w o K := fun next Q hn => by
  unfold Oper.wp
  rw [h]
  exact hn v w' s' r β' S' he h1 h2 hK

theorem Upon.skip {x : Bool} {o : Oper} {K : AState → AVal → Prop} {w' : World} {s' : AState} {β' : Nat → Option Value} {S' : Nat → Prop} (h : (execOp a.eval o).run P w = .ok .skip w') (he : x = true → Ext w w')
    (h1 : ARelB C s' β' S' a w') (hK : K s' .un) : Upon P C x a w o K := fun next Q hn => by
  unfold Oper.wp
  rw [h]
  exact hn undef w' s' .un β' S' he h1 (by simp only [VRel]) hK

theorem run_value2 {w w' : World} {m : Sem Value} {v : Value} (h : m.run P w = .ok v w') : (do pure (Next.value (← m)) : Sem Next).run P w = .ok (.value v) w' := by
  simp only [Sem.run_bind, h, Result.andThen_ok, Sem.run_pure]

theorem Upon.doesX {x : Bool} {o : Oper} {K : AState → AVal → Prop} {m : Sem Value} (h : DoesX P C a w m K) (he : execOp a.eval o = (do pure (Next.value (← m)) : Sem Next)) : Upon P C x a w o K := by
  obtain ⟨v, w', s', r, β', h1, h2, S', h3, h4, h5⟩ := h
  exact Upon.value (by rw [he]; exact run_value2 h1) (fun _ => h2) h3 h4 h5

theorem Upon.does {o : Oper} {K : AState → AVal → Prop} {m : Sem Value} (h : Does P C a w m K) (he : (execOp a.eval o).run P w = (do pure (Next.value (← m)) : Sem Next).run P w) : Upon P C false a w o K := by
  obtain ⟨v, w', s', r, β', h1, S', h3, h4, h5⟩ := h
  exact Upon.value (by rw [he]; exact run_value2 h1) (fun h => by cases h) h3 h4 h5

theorem capsV_rel {w : World} {β : Nat → Option Value} {S : Nat → Prop} : ∀ {ds : List D} {cs : List Value}, (∀ d ∈ ds, d.isAgg = false) → RepAll w S ds cs → VAll w β S (ds.map .d) cs
  | [], cs, _, h => by simp only [RepAll] at h; simpa [VAll] using h
  | d :: ds, cs, hn, h => by
    simp only [RepAll] at h
    obtain ⟨c1, c2, rfl, h1, h2⟩ := h
    obtain ⟨u, rfl, _⟩ := rep_oneCell h1 (hn d (by simp))
    simp only [List.map_cons, VAll, VRel]
    exact ⟨u, c2, rfl, ⟨[u], h1, by rw [packD_one (hn d (by simp))]; rfl⟩, capsV_rel (fun d hd => hn d (by simp [hd])) h2⟩

theorem Upon.call {x : Bool} {o : Oper} {c : Call} {f : Operand} {K : AState → AVal → Prop} (ho : o.op = .call c) (hc : c.callee = .value f) {g : FuncId} {cvs : Array Value} {avs : List AVal} (hf : a.eval f = .func (.func g) #[] cvs)
    (h : ARelB C s β S a w) (ha : VAll w β S avs ((c.args.map a.eval) ++ cvs).toList) (hq : ACall P C x s g avs K) : Upon P C x a w o K := fun next Q hn => by
  obtain ⟨he, hcall⟩ := hq.run β S a w _ h ha
  have hrun : (execOp a.eval o).run P w = .ok (.enter g ((c.args.map a.eval) ++ cvs)) w := by
    simp only [execOp, ho, resolve, hc, hf, Deferred.ofValue, Sem.run_bind, Sem.run_pure, Result.andThen_ok, invoke]
    have := callFunc_enters he ((c.args.map a.eval) ++ cvs) w
    simpa using this
  unfold Oper.wp
  rw [hrun]
  rw [Array.toArray_toList] at hcall
  refine Calls.mono hcall fun e w' hh => ?_
  obtain ⟨v, s', r, β', S', rfl, h1, h2, h3, h4⟩ := hh
  exact hn v w' s' r β' S' h1 h2 h3 h4

theorem aCallE_sound (h : ARelB C s β S a w) {o : Oper} {c : Call} {x : Bool} {K : AState → AVal → Prop} (ho : o.op = .call c) (hx : ∀ b, c.callee = .builtin b → (b = .append ∨ b = .copy) → x = false)
    (hq : aCallE P C x s o c K) : Upon P C x a w o K := by
  obtain ⟨callee, args, ts⟩ := c
  unfold aCallE at hq
  split at hq
  · rename_i hcal
    simp only at hcal hx
    have hx2 := hx _ hcal (.inl rfl)
    subst hcal; subst hx2
    split at hq
    · rename_i y z t t2 e1 e2
      have e3 : args = #[y, z] := by apply Array.ext'; simpa using e1
      have e4 : ts = #[t, t2] := by apply Array.ext'; simpa using e2
      clear e1 e2
      subst e3; subst e4
      refine Upon.does (eAppend_sound (ty := o.type) h (aev_rel h hq.1.1) (aev_rel h hq.1.2) hq.2) ?_
      simp [execOp, ho, resolve, invoke, builtin]
    · exact hq.elim
  · rename_i hcal
    simp only at hcal hx
    have hx2 := hx _ hcal (.inr rfl)
    subst hcal; subst hx2
    split at hq
    · rename_i y z t t2 e1 e2
      have e3 : args = #[y, z] := by apply Array.ext'; simpa using e1
      have e4 : ts = #[t, t2] := by apply Array.ext'; simpa using e2
      clear e1 e2
      subst e3; subst e4
      refine Upon.does (eCopy_sound (ty := o.type) (t2 := t2) h (aev_rel h hq.1.1) (aev_rel h hq.1.2) hq.2) ?_
      simp [execOp, ho, resolve, invoke, builtin]
    · exact hq.elim
  · rename_i f hcal
    simp only at hcal
    subst hcal
    obtain ⟨hcf, hq⟩ := hq
    have hfv : VRel w β S (aev P s 0 f) (a.eval f) := aev_rel h hcf
    split at hq
    · rename_i g caps hf
      obtain ⟨hag0, hok, hq⟩ := hq
      have hag := noAgg_spec hag0
      rw [hf] at hfv
      simp only [VRel, Rep] at hfv
      obtain ⟨cs, ⟨cvs, rfl, hcv⟩, hp⟩ := hfv
      exact Upon.call ho rfl hp h (by
        have := VAll.append (argsV_rel h hok) (capsV_rel hag hcv)
        simpa using this) hq
    · rename_i g caps hf
      obtain ⟨hok, hq⟩ := hq
      rw [hf] at hfv
      simp only [VRel] at hfv
      obtain ⟨cvs, hp, hcv⟩ := hfv
      exact Upon.call ho rfl hp h (by
        have := VAll.append (argsV_rel h hok) hcv
        simpa using this) hq
    · exact hq.elim
  · obtain ⟨v, w', s', r, β', S', h1, h2, h3, h4, h5⟩ := hq.run β S a w h
    rcases h1 with h1 | ⟨rfl, h1⟩
    · exact Upon.value h1 h2 h3 h4 h5
    · intro next Q hn
      unfold Oper.wp
      rw [h1]
      exact hn undef w' s' r β' S' h2 h3 h4 h5

theorem AOther.upon {x : Bool} {o : Oper} {K : AState → AVal → Prop} (h : ARelB C s β S a w) (hq : AOther P C x s o K) : Upon P C x a w o K := by
  obtain ⟨v, w', s', r, β', S', h1, h2, h3, h4, h5⟩ := hq.run β S a w h
  rcases h1 with h1 | ⟨rfl, h1⟩
  · exact Upon.value h1 h2 h3 h4 h5
  · intro next Q hn
    unfold Oper.wp
    rw [h1]
    exact hn undef w' s' r β' S' h2 h3 h4 h5

/-- The world grows by a block that never changes any more. -/
theorem ARelB.newS (h : ARelB C s β S a w) {w' : World} (hg : w.grownBy w' none) (hsz : w.heap.size < w'.heap.size) : ARelB C s β (fun b => S b ∨ b = w.heap.size) a w' := by
  have hS : ∀ b, S b → (S b ∨ b = w.heap.size) ∧ w'.heap[b]? = w.heap[b]? := fun b hb => ⟨.inl hb, hg.block b (h.st.inS b hb) (by simp)⟩
  have hlt : ∀ b, b < w.heap.size → b < w'.heap.size := fun b hb => Nat.lt_of_lt_of_le hb hg.size
  refine ⟨fun t => VRel.keep hS (fun _ _ e => e) _ _ (h.fr t), h.size, ⟨fun j o hj => ?_, h.st.nodup, h.st.apart, fun b hb => ⟨fun hs => ?_, hlt b (h.st.own b hb).2⟩, fun b hb => ?_, h.st.gl.keep hS⟩,
    ⟨Nat.le_trans h.frame.size hg.size, hg.os.trans h.frame.os, hg.tape.trans h.frame.tape, hg.output.trans h.frame.output, fun b hb hE => ?_, fun b hb => ?_, h.frame.own⟩, h.nx, ?_, h.pin, h.nxm⟩
  · obtain ⟨v, hv, hr'⟩ := h.st.obj j o hj
    refine ⟨v, hv, hr'.keep hS (fun _ _ e => e) fun b hb => ?_⟩
    exact hg.block b (h.st.own b ⟨j, o, hj, by rw [hv]; exact hb⟩).2 (by simp)
  · rcases hs with hs | hs
    · exact (h.st.own b hb).1 hs
    · have := (h.st.own b hb).2; omega
  · rcases hb with hb | hb
    · exact hlt b (h.st.inS b hb)
    · omega
  · rw [hg.block b (Nat.lt_of_lt_of_le hb h.frame.size) (by simp)]
    exact h.frame.old b hb hE
  · rcases hb with hb | hb
    · exact h.frame.inS b hb
    · exact .inr (.inr (by have := h.frame.size; omega))
  · exact h.defers.keep fun D hD hS => ⟨(hg.block D (Array.getElem?_eq_some_iff.1 hD).1 (by simp)).trans hD, fun hs => hs.elim hS fun e => by
      have := (Array.getElem?_eq_some_iff.1 hD).1; omega⟩

theorem bytesOf_cellAt {s : ByteArray} {xs : List Int} (h : bytesOf s = xs) {i : Nat} {v : Value} (hv : (xs.map (Value.int .u8))[i]? = some v) : i < s.size ∧ v = .int .u8 (s.data.toList.getD i 0).toNat := by
  subst h
  simp only [bytesOf, List.map_map, List.getElem?_map, Option.map_eq_some_iff] at hv
  obtain ⟨b, hb, rfl⟩ := hv
  have hi := (List.getElem?_eq_some_iff.1 hb).1
  refine ⟨by simpa using hi, ?_⟩
  simp [List.getD, hb]

theorem eS2B_sound (h : ARelB C s β S a w) {src dst : TypeId} {x : AVal} {v : Value} {K : AState → AVal → Prop} (hx : VRel w β S x v) (hq : eS2B P s src dst x K) : DoesX P C a w (convert src dst v) K := by
  unfold eS2B at hq
  split at hq
  · rename_i e xs h1 h2
    obtain ⟨hu, hK⟩ := hq
    obtain ⟨st, rfl, hst, hl⟩ := d_str hx
    have hrun := Lib.run_convert_string_bytes w src dst e st h1 h2 hu
    have hext : Ext w (Lib.bytesWorld w e st) := fun b hb => Lib.bytesWorld_at_old w e st b hb
    have hg : w.grownBy (Lib.bytesWorld w e st) none := by
      refine ⟨?_, ?_, ?_, by rw [Lib.bytesWorld_size]; omega, fun k hk _ => Lib.bytesWorld_at_old w e st k hk⟩ <;> simp [Lib.bytesWorld, World.freeze, World.alloc, World.drew, -World.alloc_eq, -World.drew_eq]
    have hlen : xs.length = st.size := by rw [← hst, bytesOf_length]
    refine ⟨_, _, s, .d (.ints .u8 xs), β, hrun, hext, _, h.newS hg (by rw [Lib.bytesWorld_size]; omega), ?_, hK⟩
    simp only [VRel, Rep]
    refine ⟨_, ⟨_, _, rfl, ?_, ?_, fun y hy => ?_, fun _ => ⟨w.heap.size, 0, rfl, .inr rfl, fun i u hu' => ?_⟩⟩, by rw [hlen]; rfl⟩
    · rw [hlen]; exact grownCap_ge ..
    · rw [hlen]; exact hl
    · rw [← hst] at hy
      simp only [bytesOf, List.mem_map] at hy
      obtain ⟨b, _, rfl⟩ := hy
      have := b.toNat_lt
      exact wrap_in.2 ⟨by simp only [loK]; omega, by simp only [hiK]; omega⟩
    · obtain ⟨hi, rfl⟩ := bytesOf_cellAt hst hu'
      have := Lib.bytesWorld_cell w e st i hi
      simpa using this
  · exact hq.elim

theorem aeff_sound (h : ARelB C s β S a w) {o : Oper} {K : AState → AVal → Prop} (hq : aeff P C mu s o K) : Upon P C (!(mutO mu o.op)) a w o K := by
  obtain ⟨dst, op, type, pos, after, guard⟩ := o
  cases op <;> simp only [aeff] at hq <;> (try exact AOther.upon h hq)
  case alloc e => exact Upon.doesX (eAlloc_sound h hq) rfl
  case box e x => exact Upon.doesX (eBox_sound h (aev_rel h hq.1) hq.2) rfl
  case store t x v =>
    obtain ⟨w', s', h1, ⟨β', S', h2⟩, h3⟩ := eStore_sound h (aev_rel h hq.1.1) (aev_rel h hq.1.2) (fun us hus => by have := hq.2.1; unfold storeOk at this; rw [hus] at this; exact this) hq.2.2
    refine Upon.skip (w' := w') ?_ (by simp [mutO, quietOp]) h2 h3
    simp only [execOp, Sem.run_bind, h1, Result.andThen_ok, Sem.run_pure]
  case makeSlice t l c => exact Upon.doesX (eMake_sound h (aev_rel h hq.1.1) (aev_rel h hq.1.2) hq.2) rfl
  case buildSlice t len parts =>
    refine Upon.doesX (eBuildSlice_sound h (partsV_rel h hq.1) hq.2) ?_
    simp only [execOp, parts_zip]
  case build t parts =>
    obtain ⟨u, r, h1, h2, h3⟩ := eBuild_sound h (partsV_rel h hq.1) hq.2
    refine Upon.value (v := u) (w' := w) ?_ (fun _ => Ext.refl w) h h2 h3
    simp only [execOp, parts_zip]
    exact run_value2 (h1 w)
  case convert src dst x => exact Upon.doesX (eS2B_sound h (aev_rel h hq.1) hq.2) rfl
  case call c =>
    refine aCallE_sound h rfl (fun b hb hor => ?_) hq
    rcases hor with rfl | rfl <;> simp [mutO, hb]

theorem aop_sound (h : ARelB C s β S a w) {o : Oper} {K : AState → Prop} (hq : aop P C mu s o K) {Q : Exit → Act → World → Prop} :
    o.wp P a w (fun a' w' => (mutO mu o.op = false → Ext w w') ∧ ∃ s', ARel C s' a' w' ∧ K s') Q := by
  unfold aop at hq
  obtain ⟨hd, hq⟩ := hq
  have hd' := dstOk.lt hd
  split at hq
  · obtain ⟨v, r, h1, h2, h3⟩ := aquiet_sound h hq
    have h3 := forceS_of _ (forceV_of _ h3)
    unfold Oper.wp
    rw [h1 w fun _ => Ext.refl w]
    exact ⟨fun _ => Ext.refl w, _, ⟨β, S, h.put h2 hd'⟩, h3⟩
  · refine aeff_sound h hq _ Q fun v w' s' r β' S' he h1 h2 hK => ?_
    have hK := forceS_of _ (forceV_of _ hK)
    refine ⟨fun hm => he (by rw [hm]; rfl), _, ⟨β', S', h1.put h2 fun t e => ?_⟩, hK⟩
    have := hd' t e
    rw [← h.size] at this
    rwa [← h1.size]

theorem aovr_sound (h : ARelB C s β S a w) {o : Oper} {K : AState → Prop} (hq : aovr P C mu s o K) {Q : Exit → Act → World → Prop} :
    o.wp P a w (fun a' w' => (mutO mu o.op = false → Ext w w') ∧ ∃ s', ARel C s' a' w' ∧ K s') Q := by
  obtain ⟨hd, hq⟩ := hq
  have hd' := dstOk.lt hd
  refine AOther.upon h hq _ Q fun v w' s' r β' S' he h1 h2 hK => ?_
  have hK := forceS_of _ (forceV_of _ hK)
  refine ⟨fun hm => he (by rw [hm]; rfl), _, ⟨β', S', h1.put h2 fun t e => ?_⟩, hK⟩
  have := hd' t e
  rw [← h.size] at this
  rwa [← h1.size]

end

theorem Ext.trans {w1 w2 w3 : World} (h1 : Ext w1 w2) (h2 : Ext w2 w3) (hs : w1.heap.size ≤ w2.heap.size) : Ext w1 w3 :=
  fun b hb => (h2 b (Nat.lt_of_lt_of_le hb hs)).trans (h1 b hb)
/-- Nothing that stood there is gone or turned. -/
def ExtS (w w' : World) : Prop := Ext w w' ∧ w.heap.size ≤ w'.heap.size

/-- Whatever order is picked; 'mt': the operations behind which what stood there may have turned. -/
def wpAnyE (P : Program) (ops : Array Oper) (mt : Nat → Bool) (Q : Exit → Act → World → Prop) : Nat → Array Bool → Act → World → Prop
  | 0, listed, a, w => Region.ready .any ops listed = [] ∧ Q .normal a w
  | fuel + 1, listed, a, w =>
    (Region.ready .any ops listed = [] → Q .normal a w) ∧
    ∀ i ∈ Region.ready .any ops listed, wpOp P ops Q i (fun a' w' => (mt i = false → ExtS w w') ∧ wpAnyE P ops mt Q fuel (listed.setIfInBounds i true) a' w') a w

section
variable {P : Program} {ops : Array Oper} {mt : Nat → Bool} {Q : Exit → Act → World → Prop}

theorem wpAny_ofE : ∀ (fuel : Nat) (listed : Array Bool) (a : Act) (w : World), wpAnyE P ops mt Q fuel listed a w → wpAny P .any ops Q fuel listed a w
  | 0, _, _, _, h => h
  | fuel + 1, _, _, _, h => ⟨h.1, fun i hi => wpOp_mono (fun a' w' h' => wpAny_ofE fuel _ a' w' h'.2) (h.2 i hi)⟩

/-- What has come up had all that it waits for before it. -/
def Closed (ops : Array Oper) (l : Array Bool) : Prop := ∀ k ok, ops[k]? = some ok → l.getD k false = true → ∀ e ∈ ok.after, Region.binds .any e = true → l.getD e.on false = true

/-- Does number j wait for number i, directly or by others? -/
def waitsFor (ops : Array Oper) : Nat → Nat → Nat → Bool
  | 0, _, _ => false
  | n + 1, j, i =>
    match ops[j]? with
    | some oj => oj.after.any fun e => Region.binds .any e && (e.on == i || waitsFor ops n e.on i)
    | none => false

theorem waitsFor_spec {l : Array Bool} {i : Nat} (hc : Closed ops l) : ∀ (n j : Nat) (oj : Oper), ops[j]? = some oj → waitsFor ops n j i = true → (∀ e ∈ oj.after, Region.binds .any e = true → l.getD e.on false = true) → l.getD i false = true
  | 0, j, oj, _, h, _ => by simp [waitsFor] at h
  | n + 1, j, oj, hj, h, hall => by
    simp only [waitsFor, hj] at h
    obtain ⟨e, he, hb⟩ := Array.any_eq_true'.1 h
    simp only [Bool.and_eq_true, Bool.or_eq_true, beq_iff_eq] at hb
    have h1 := hall e he hb.1
    rcases hb.2 with h2 | h2
    · rw [← h2]; exact h1
    · cases hk : ops[e.on]? with
      | none =>
        cases n with
        | zero => simp [waitsFor] at h2
        | succ n => simp [waitsFor, hk] at h2
      | some ok => exact waitsFor_spec hc n e.on ok hk h2 (hc e.on ok hk h1)

theorem getD_false_of {l : Array Bool} {i : Nat} (h : l.getD i true = false) : l.getD i false = false := by
  rw [Array.getD_eq_getD_getElem?] at h ⊢
  cases e : l[i]? with
  | none => rfl
  | some b => rw [e] at h; simpa using h

theorem Closed.set {l : Array Bool} (hc : Closed ops l) {j : Nat} (hj : j ∈ Region.ready .any ops l) : Closed ops (l.setIfInBounds j true) := by
  have mono : ∀ k, l.getD k false = true → (l.setIfInBounds j true).getD k false = true := fun k h => by
    rw [Array.getD_eq_getD_getElem?] at h ⊢
    rw [Array.getElem?_setIfInBounds]
    split
    · rename_i e; subst e
      split
      · rfl
      · rename_i hn; rw [Array.getElem?_eq_none (by omega)] at h; simp at h
    · exact h
  intro k ok hk hl e he hb
  by_cases hjk : j = k
  · subst hjk
    obtain ⟨_, oj, hoj, hall⟩ := mem_ready.1 hj
    rw [hoj] at hk; injection hk with hk; subst hk
    exact mono _ (hall e he hb)
  · refine mono _ (hc k ok hk ?_ e he hb)
    rw [Array.getD_eq_getD_getElem?] at hl ⊢
    rwa [Array.getElem?_setIfInBounds_ne hjk] at hl

/-- What 'oi' yields, if it reads ('rd'), in every world where all stands that stood in w. -/
def SE (rd : Bool) (w : World) : World → Prop := fun w' => rd = true → ExtS w w'

theorem wpAnyE_first {i : Nat} {oi : Oper} {v : Value} {rd : Bool} (hi : ops[i]? = some oi) (hsel : ∀ (j : Nat) (o : Oper) cs b, ops[j]? = some o → o.op ≠ .select cs b)
    (hQ : ∀ c a w, Q (.panic c) (a.put oi.dst v) w → Q (.panic c) a w) :
    ∀ (fuel : Nat) (listed : Array Bool) (a : Act) (w : World),
      (∀ j oj, ops[j]? = some oj → j ≠ i → listed.getD j true = false → (∀ e ∈ oj.after, Region.binds .any e = true → e.on ≠ i) → oi.apart ops oj = true) →
      (rd = true → ∀ j oj, ops[j]? = some oj → j ≠ i → listed.getD j true = false → mt j = true → ∃ n, waitsFor ops n j i = true) → Closed ops listed →
      i ∈ Region.ready .any ops listed → YieldsIf P ops (SE rd w) oi v a →
      wpAnyE P ops mt Q fuel (listed.setIfInBounds i true) (a.put oi.dst v) w → wpAnyE P ops mt Q (fuel + 1) listed a w := by
  have refl : ∀ w : World, ExtS w w := fun w => ⟨Ext.refl w, Nat.le_refl _⟩
  intro fuel
  induction fuel with
  | zero =>
    intro listed a w _ _ _ hr hy H
    refine ⟨fun h => (by rw [h] at hr; cases hr), fun j hj => ?_⟩
    by_cases hji : j = i
    · subst hji; exact hy.wpOp hi (fun _ => refl w) ⟨fun _ => refl w, H⟩
    · have := ready_mono hj hji
      rw [H.1] at this
      cases this
  | succ fuel ih =>
    intro listed a w hfree hmt hcl hr hy H
    refine ⟨fun h => (by rw [h] at hr; cases hr), fun j hj => ?_⟩
    by_cases hji : j = i
    · subst hji; exact hy.wpOp hi (fun _ => refl w) ⟨fun _ => refl w, H⟩
    · have h1 := H.2 j (ready_mono hj hji)
      obtain ⟨hjun, oj, hoj, hall⟩ := mem_ready.1 hj
      have hnot : ∀ e ∈ oj.after, Region.binds .any e = true → e.on ≠ i := fun e he hb heq => by
        have h1 := hall e he hb
        have h0 := (mem_ready.1 hr).1
        rw [heq] at h1
        rcases Nat.lt_or_ge i listed.size with h' | h'
        · simp [h'] at h0 h1; rw [h0] at h1; cases h1
        · simp [Array.getElem?_eq_none h'] at h1
      have hmj : rd = true → mt j = false := fun hrd => by
        cases hm : mt j with
        | false => rfl
        | true =>
          obtain ⟨n, hn⟩ := hmt hrd j oj hoj hji hjun hm
          have h1 := waitsFor_spec hcl n j oj hoj hn hall
          rw [getD_false_of (mem_ready.1 hr).1] at h1
          cases h1
      have h2 := wpOp_putIf hoj (hfree j oj hoj hji hjun hnot) (fun cs b => hsel i oi cs b hi) (fun cs b => hsel j oj cs b hoj) hQ hy h1
      have hset : ∀ {k}, (listed.setIfInBounds j true).getD k true = false → listed.getD k true = false := fun {k} hun => by
        by_cases hjk : j = k
        · subst hjk; exact hjun
        · rw [getD_set_ne true hjk] at hun; exact hun
      refine wpOp_mono (fun a' w' h3 => ⟨h3.2.1, ih (listed.setIfInBounds j true) a' w' (fun k ok hk hki hun hno => hfree k ok hk hki (hset hun) hno) (fun hrd k ok hk hki hun hm => hmt hrd k ok hk hki (hset hun) hm) (hcl.set hj) (ready_mono hr (Ne.symm hji)) ?_ ?_⟩) h2
      · refine h3.1.imp (fun ⟨hw, hv⟩ => ⟨hw, fun w'' hs => hv w'' fun hrd => ?_⟩) id
        have e1 := h3.2.1 (hmj hrd)
        have e2 := hs hrd
        exact ⟨e1.1.trans e2.1 e1.2, Nat.le_trans e1.2 e2.2⟩
      · rw [Array.setIfInBounds_comm _ _ hji]
        exact h3.2.2

end

theorem Ext.size {w w' : World} (h : Ext w w') : w.heap.size ≤ w'.heap.size := by
  rcases Nat.lt_or_ge w'.heap.size w.heap.size with hlt | hge
  · have := h w'.heap.size hlt
    rw [Array.getElem?_eq_none (Nat.le_refl _), Array.getElem?_eq_getElem hlt] at this
    cases this
  · exact hge
theorem Ext.extS {w w' : World} (h : Ext w w') : ExtS w w' := ⟨h, h.size⟩

/-- An order, or a tree of them. -/
inductive Plan where
  | done
  | take (i : Nat) (p : Plan)
  | one (i : Nat) (p : Plan)
  | two (i : Nat) (p : Plan) (j : Nat) (q : Plan)
  | three (i : Nat) (p : Plan) (j : Nat) (q : Plan) (k : Nat) (r : Plan)
  | four (i : Nat) (p : Plan) (j : Nat) (q : Plan) (k : Nat) (r : Plan) (m : Nat) (t : Plan)

/-- Every operation that has not come up and may turn the memory waits for number i. -/
def waitM (mt : Nat → Bool) (ops : Array Oper) (listed : Array Bool) (i : Nat) : Bool :=
  (List.range ops.size).all fun j => j == i || listed.getD j true || !(mt j) || waitsFor ops 3 j i

def takeOk (mt : Nat → Bool) (ops : Array Oper) (listed : Array Bool) (i : Nat) : Bool :=
  match ops[i]? with
  | some o => quietOp o.op && Region.free .any ops listed i && (Region.ready .any ops listed).contains i && (!(readsO o.op) || waitM mt ops listed i)
  | none => false

def planOk (mt : Nat → Bool) (ops : Array Oper) : Plan → Array Bool → Bool
  | .done, l => (Region.ready .any ops l) == []
  | .take i p, l => takeOk mt ops l i && planOk mt ops p (l.setIfInBounds i true)
  | .one i p, l => (Region.ready .any ops l) == [i] && planOk mt ops p (l.setIfInBounds i true)
  | .two i p j q, l => (Region.ready .any ops l) == [i, j] && planOk mt ops p (l.setIfInBounds i true) && planOk mt ops q (l.setIfInBounds j true)
  | .three i p j q k r, l => (Region.ready .any ops l) == [i, j, k] && planOk mt ops p (l.setIfInBounds i true) && planOk mt ops q (l.setIfInBounds j true) && planOk mt ops r (l.setIfInBounds k true)
  | .four i p j q k r m t, l => (Region.ready .any ops l) == [i, j, k, m] && planOk mt ops p (l.setIfInBounds i true) && planOk mt ops q (l.setIfInBounds j true) && planOk mt ops r (l.setIfInBounds k true) && planOk mt ops t (l.setIfInBounds m true)

def Plan.len : Plan → Nat
  | .done => 0
  | .take _ p => p.len + 1
  | .one _ p => p.len + 1
  | .two _ p _ q => max p.len q.len + 1
  | .three _ p _ q _ r => max (max p.len q.len) r.len + 1
  | .four _ p _ q _ r _ t => max (max (max p.len q.len) r.len) t.len + 1

/-- A guard. -/
def agd (s : AState) (ops : List Oper) (o : Oper) (run skip : Prop) : Prop :=
  match o.guard with
  | none => run
  | some (g, want) =>
    match (ops[g]?).bind (·.dst) with
    | some t =>
      (match s.fr t with
      | .d (.bool b) =>
        (match want with
        | true => (b = true → run) ∧ (b = false → skip)
        | false => (b = false → run) ∧ (b = true → skip))
      | .un => skip
      | _ => False)
    | none => skip

/-- What a walk is told: functions that may turn what stood; objects to be laid to rest ahead of an operation; the orders of the drawn regions. -/
structure Told where
  mu : FuncId → Bool
  pre : Nat → Nat → List Tmp
  plan : Nat → Plan

def opStep (P : Program) (C : Ctx) (T : Told) (id : Nat) (ops : List Oper) (i : Nat) (o : Oper) (s : AState) (K : AState → Prop) : Prop :=
  qFreezes P (T.pre id i) s fun s => agd s ops o (match T.mu (1000000 + 1000 * id + i) with | true => aovr P C T.mu s o K | false => aop P C T.mu s o K) (dstOk s o = true ∧ forceS (s.put o.dst .un) K)

def awpOps (P : Program) (C : Ctx) (T : Told) (id : Nat) (ops : List Oper) : List Oper → Nat → AState → (AState → Prop) → Prop
  | [], _, s, K => K s
  | o :: r, i, s, K => opStep P C T id ops i o s fun s => awpOps P C T id ops r (i + 1) s K

def awpAny (P : Program) (C : Ctx) (T : Told) (id : Nat) (ops : List Oper) : Plan → AState → (AState → Prop) → Prop
  | .done, s, K => K s
  | .take i p, s, K =>
    match ops[i]? with
    | some o => (match s2b P o.op || T.mu (1000000 + 1000 * id + i) with
      | false => opStep P C T id ops i o s fun s => awpAny P C T id ops p s K
      | true => False)
    | none => False
  | .one i p, s, K =>
    match ops[i]? with
    | some o => opStep P C T id ops i o s fun s => awpAny P C T id ops p s K
    | none => False
  | .two i p j q, s, K =>
    match ops[i]?, ops[j]? with
    | some o, some o2 => opStep P C T id ops i o s (fun s => awpAny P C T id ops p s K) ∧ opStep P C T id ops j o2 s (fun s => awpAny P C T id ops q s K)
    | _, _ => False
  | .three i p j q k r, s, K =>
    match ops[i]?, ops[j]?, ops[k]? with
    | some o, some o2, some o3 => opStep P C T id ops i o s (fun s => awpAny P C T id ops p s K) ∧ opStep P C T id ops j o2 s (fun s => awpAny P C T id ops q s K) ∧ opStep P C T id ops k o3 s (fun s => awpAny P C T id ops r s K)
    | _, _, _ => False
  | .four i p j q k r m t, s, K =>
    match ops[i]?, ops[j]?, ops[k]?, ops[m]? with
    | some o, some o2, some o3, some o4 => opStep P C T id ops i o s (fun s => awpAny P C T id ops p s K) ∧ opStep P C T id ops j o2 s (fun s => awpAny P C T id ops q s K) ∧ opStep P C T id ops k o3 s (fun s => awpAny P C T id ops r s K) ∧ opStep P C T id ops m o4 s (fun s => awpAny P C T id ops t s K)
    | _, _, _, _ => False

def mtOf (mu : FuncId → Bool) (ops : List Oper) (i : Nat) : Bool := match ops[i]? with
  | some o => mutO mu o.op
  | none => false

def deferB : Op → Bool
  | .defer _ => true
  | _ => false
def noDefer : List Oper → Bool
  | [] => true
  | o :: r => !deferB o.op && noDefer r
theorem noDefer.mem : ∀ {l : List Oper}, noDefer l = true → ∀ o ∈ l, ∀ c, o.op ≠ .defer c
  | [], _, o, ho, _ => by simp at ho
  | p :: r, h, o, ho, c => by
    simp only [noDefer, Bool.and_eq_true, Bool.not_eq_true'] at h
    rcases List.mem_cons.1 ho with rfl | ho
    · intro e; rw [e] at h; simp [deferB] at h
    · exact noDefer.mem h.2 o ho c

def regionB (P : Program) (T : Told) (id : Nat) (ops : Array Oper) : Bool :=
  P.follows .mixedOrders && noDefer ops.toList && Region.noSelect ops && planOk (mtOf T.mu ops.toList) ops (T.plan id) (Array.replicate ops.size false) && decide ((T.plan id).len ≤ ops.size)

def thenQ (next : AState → Prop) (Q : Exit → AState → Prop) : Exit → AState → Prop
  | .normal, s => next s
  | .exit i, s => Q (.exit i) s
  | .goto l, s => Q (.goto l) s
  | .ret, s => Q .ret s
  | .panic c, s => Q (.panic c) s
  | .outgrown, s => Q .outgrown s

def blockQ (id : Nat) (Q : Exit → AState → Prop) : Exit → AState → Prop
  | .exit i, s => if i = id then Q .normal s else Q (.exit i) s
  | .normal, s => Q .normal s
  | .goto l, s => Q (.goto l) s
  | .ret, s => Q .ret s
  | .panic c, s => Q (.panic c) s
  | .outgrown, s => Q .outgrown s

def awp (P : Program) (C : Ctx) (T : Told) : Code → AState → (Exit → AState → Prop) → Prop
  | .skip, s, Q => Q .normal s
  | .seq x y, s, Q => awp P C T x s (thenQ (fun s => awp P C T y s Q) Q)
  | .region id ops false, s, Q =>
    (match noDefer ops.toList with
    | true => awpOps P C T id ops.toList ops.toList 0 s (Q .normal)
    | false => False)
  | .region id ops true, s, Q => regionB P T id ops = true ∧ awpAny P C T id ops.toList (T.plan id) s (Q .normal)
  | .cond c x y, s, Q =>
    (match aev P s 0 c with
    | .d (.bool b) => constOk P 0 c ∧ (b = true → awp P C T x s Q) ∧ (b = false → awp P C T y s Q)
    | _ => False)
  | .block id b, s, Q => awp P C T b s (blockQ id Q)
  | .exit id, s, Q => Q (.exit id) s
  | .label _, s, Q => Q .normal s
  | .goto l, s, Q => Q (.goto l) s
  | .ret, s, Q => Q .ret s
  | c, s, Q => AWp P C c s Q

section
variable {P : Program} {C : Ctx} {s : AState} {T : Told} {a : Act} {w : World}

/-- A post-condition of the walk, as the model's. -/
def liftQ (C : Ctx) (Q : Exit → AState → Prop) : Exit → Act → World → Prop := fun e a w => ∃ s, ARel C s a w ∧ Q e s

theorem agd_sound {β : Nat → Option Value} {S : Nat → Prop} (h : ARelB C s β S a w) {ops : List Oper} {o : Oper} {run skip : Prop} (hq : agd s ops o run skip) :
    (Region.wanted o (yielded ops.toArray a.tmps) = true ∧ run) ∨ (Region.wanted o (yielded ops.toArray a.tmps) = false ∧ skip) := by
  unfold agd at hq
  unfold Region.wanted
  split at hq
  · rename_i hg; rw [hg]; exact .inl ⟨rfl, hq⟩
  · rename_i g want hg
    rw [hg]
    unfold yielded
    simp only [List.getElem?_toArray]
    split at hq
    · rename_i t ht
      rw [ht]
      simp only [Option.bind_some]
      have hfr := h.fr t
      rw [Array.getD_eq_getD_getElem?] at hfr
      split at hq
      · rename_i b hb
        rw [hb] at hfr
        have e := d_bool hfr
        cases ha : a.tmps[t]? with
        | none => rw [ha] at e; simp [undef] at e
        | some v =>
          rw [ha] at e
          simp only [Option.getD_some] at e
          subst e
          cases want <;> cases b <;> simp_all
      · rename_i hb
        rw [hb] at hfr
        simp only [VRel] at hfr
        right
        refine ⟨?_, hq⟩
        cases ha : a.tmps[t]? with
        | none => simp
        | some v =>
          rw [ha] at hfr
          simp only [Option.getD_some] at hfr
          subst hfr
          simp [undef]
      · exact hq.elim
    · rename_i ht
      rw [ht]
      right
      exact ⟨by simp, hq⟩

theorem put_un {β : Nat → Option Value} {S : Nat → Prop} (h : ARelB C s β S a w) (o : Oper) (hd : dstOk s o = true) : ARelB C (s.put o.dst .un) β S (a.put o.dst undef) w :=
  h.put (by simp only [VRel]) (dstOk.lt hd)

/-- One operation of a region, as the walk takes it. -/
theorem opStep_sound (h : ARel C s a w) {id : Nat} {ops : List Oper} {i : Nat} {o : Oper} (ho : ops[i]? = some o) {K : AState → Prop} (hq : opStep P C T id ops i o s K) {Q : Exit → Act → World → Prop} :
    wpOp P ops.toArray Q i (fun a' w' => (mtOf T.mu ops i = false → Ext w w') ∧ ∃ s', ARel C s' a' w' ∧ K s') a w := by
  obtain ⟨β, S, h⟩ := h
  obtain ⟨S', s', h', hq⟩ := qFreezes_sound h hq
  unfold wpOp
  simp only [List.getElem?_toArray, ho]
  rcases agd_sound h' hq with ⟨hw, hr⟩ | ⟨hw, hr⟩
  · rw [if_pos hw]
    refine .inl ?_
    split at hr
    · have := aovr_sound h' hr (Q := Q)
      simpa only [mtOf, ho] using this
    · have := aop_sound h' hr (Q := Q)
      simpa only [mtOf, ho] using this
  · rw [if_neg (by simp [hw])]
    exact ⟨fun _ => Ext.refl w, _, ⟨β, S', put_un h' o hr.1⟩, forceS_of _ hr.2⟩

theorem awpOps_sound {id : Nat} {ops : List Oper} {K : AState → Prop} {Q : Exit → Act → World → Prop} (hQ : ∀ s a w, ARel C s a w → K s → Q .normal a w) :
    ∀ {r : List Oper} {i : Nat} {s : AState} {a : Act} {w : World}, (∀ k, r[k]? = ops[i + k]?) → ARel C s a w → awpOps P C T id ops r i s K → wpList P ops.toArray Q r a w
  | [], i, s, a, w, _, h, hq => by simp only [awpOps] at hq; exact hQ s a w h hq
  | o :: r, i, s, a, w, hr, h, hq => by
    have hs := opStep_sound h (by have := hr 0; simpa using this.symm) hq (Q := Q)
    have hi : ops[i]? = some o := by have := hr 0; simpa using this.symm
    have ih := @awpOps_sound id ops K Q hQ r (i + 1)
    unfold wpOp at hs
    simp only [List.getElem?_toArray, hi] at hs
    have hr' : ∀ k, r[k]? = ops[i + 1 + k]? := fun k => by have := hr (k + 1); simpa [Nat.add_assoc, Nat.add_comm 1 k] using this
    simp only [wpList]
    split
    · rename_i hw
      rw [if_pos hw] at hs
      exact hs.imp (Oper.wp_mono fun a' w' ⟨_, s', h', hq'⟩ => ih hr' h' hq') (fun h => h)
    · rename_i hw
      rw [if_neg hw] at hs
      obtain ⟨_, s', h', hq'⟩ := hs
      exact ih hr' h' hq'

theorem ARel.drawn (h : ARel C s a w) (n : Nat) : ARel C s a { w with drawn := n } := by
  obtain ⟨β, S, h⟩ := h
  have hk : ∀ b, S b → S b ∧ ({ w with drawn := n } : World).heap[b]? = w.heap[b]? := fun b hb => ⟨hb, rfl⟩
  refine ⟨β, S, fun t => VRel.keep hk (fun _ _ e => e) _ _ (h.fr t), h.size, ⟨fun j o hj => ?_, h.st.nodup, h.st.apart, h.st.own, h.st.inS, h.st.gl.keep hk⟩, ⟨h.frame.size, h.frame.os, h.frame.tape, h.frame.output, h.frame.old, h.frame.inS, h.frame.own⟩, h.nx, h.defers, h.pin, h.nxm⟩
  obtain ⟨v, hv, hr⟩ := h.st.obj j o hj
  exact ⟨v, hv, hr.keep hk (fun _ _ e => e) fun _ _ => rfl⟩

theorem take_sound (h : ARel C s a w) {id : Nat} {ops : List Oper} {i : Nat} {o : Oper} (hqt : quietOp o.op = true) (hqb : (s2b P o.op || T.mu (1000000 + 1000 * id + i)) = false) {K : AState → Prop} (hq : opStep P C T id ops i o s K) :
    ∃ v, YieldsIf P ops.toArray (SE (readsO o.op) w) o v a ∧ ∃ s', ARel C s' (a.put o.dst v) w ∧ K s' := by
  obtain ⟨β, S, h⟩ := h
  obtain ⟨S', s', h', hq⟩ := qFreezes_sound h hq
  rcases agd_sound h' hq with ⟨hw, hr⟩ | ⟨hw, hr⟩
  · simp only [Bool.or_eq_false_iff] at hqb
    rw [hqb.2] at hr
    replace hr : aop P C T.mu s' o K := hr
    obtain ⟨hd, hr⟩ := hr
    rw [hqt, hqb.1] at hr
    obtain ⟨v, r, h1, h2, h3⟩ := aquiet_sound h' hr
    exact ⟨v, .inl ⟨hw, fun w' hs => h1 w' fun hrd => (hs hrd).1⟩, _, ⟨β, S', h'.put h2 (dstOk.lt hd)⟩, forceS_of _ (forceV_of _ h3)⟩
  · exact ⟨undef, .inr ⟨hw, rfl⟩, _, ⟨β, S', put_un h' o hr.1⟩, forceS_of _ hr.2⟩

theorem waitM_spec {mt : Nat → Bool} {ops : Array Oper} {listed : Array Bool} {i : Nat} (h : waitM mt ops listed i = true) (j : Nat) (oj : Oper) (hj : ops[j]? = some oj) (hne : j ≠ i) (hun : listed.getD j true = false) (hm : mt j = true) :
    ∃ n, waitsFor ops n j i = true := by
  simp only [waitM, List.all_eq_true, List.mem_range] at h
  have h1 := h j (Array.getElem?_eq_some_iff.1 hj).1
  simp only [Bool.or_eq_true, beq_iff_eq, hne, false_or, hun, Bool.false_eq_true, hm, Bool.not_true] at h1
  exact ⟨3, h1⟩

theorem wpAnyE_all {ops : Array Oper} {mt : Nat → Bool} {Q : Exit → Act → World → Prop} {rs : List Nat} {fuel : Nat} {listed : Array Bool} (hr : Region.ready .any ops listed = rs) (hne : rs ≠ [])
    (h : ∀ i ∈ rs, wpOp P ops Q i (fun a' w' => (mt i = false → ExtS w w') ∧ wpAnyE P ops mt Q fuel (listed.setIfInBounds i true) a' w') a w) : wpAnyE P ops mt Q (fuel + 1) listed a w :=
  ⟨fun h0 => absurd (hr ▸ h0) hne, hr ▸ h⟩

theorem awpAny_sound {id : Nat} {ops : List Oper} {K : AState → Prop} {Q : Exit → Act → World → Prop} (hQ : ∀ s a w, ARel C s a w → K s → Q .normal a w) (hP : ∀ c a w, ¬ Q (.panic c) a w) (hsel : Region.noSelect ops.toArray = true) :
    ∀ (p : Plan) (l : Array Bool) (s : AState) (a : Act) (w : World) (fuel : Nat), p.len ≤ fuel → planOk (mtOf T.mu ops) ops.toArray p l = true → Closed ops.toArray l → ARel C s a w → awpAny P C T id ops p s K → wpAnyE P ops.toArray (mtOf T.mu ops) Q fuel l a w := by
  have step : ∀ {i : Nat} {o : Oper} {K' : AState → Prop} {s : AState} {a : Act} {w : World} {fuel : Nat} {l : Array Bool}, ops[i]? = some o → ARel C s a w → opStep P C T id ops i o s K' →
      (∀ s' a' w', ARel C s' a' w' → K' s' → wpAnyE P ops.toArray (mtOf T.mu ops) Q fuel (l.setIfInBounds i true) a' w') →
      wpOp P ops.toArray Q i (fun a' w' => (mtOf T.mu ops i = false → ExtS w w') ∧ wpAnyE P ops.toArray (mtOf T.mu ops) Q fuel (l.setIfInBounds i true) a' w') a w := fun ho h hq hk =>
    wpOp_mono (fun a' w' ⟨h1, s', h2, h3⟩ => ⟨fun hm => (h1 hm).extS, hk s' a' w' h2 h3⟩) (opStep_sound h ho hq)
  intro p
  induction p with
  | done =>
    intro l s a w fuel _ hp hcl h hq
    simp only [planOk, beq_iff_eq] at hp
    simp only [awpAny] at hq
    cases fuel with
    | zero => exact ⟨hp, hQ _ _ _ h hq⟩
    | succ n => exact ⟨fun _ => hQ _ _ _ h hq, by rw [hp]; simp⟩
  | take i p ih =>
    intro l s a w fuel hf hp hcl h hq
    simp only [planOk, Bool.and_eq_true] at hp
    simp only [awpAny] at hq
    simp only [Plan.len] at hf
    obtain ⟨fuel, rfl⟩ : ∃ n, fuel = n + 1 := ⟨fuel - 1, by omega⟩
    split at hq
    · rename_i o ho
      cases hqb : (s2b P o.op || T.mu (1000000 + 1000 * id + i)) with
      | true => rw [hqb] at hq; exact hq.elim
      | false =>
      rw [hqb] at hq
      replace hq : opStep P C T id ops i o s fun s => awpAny P C T id ops p s K := hq
      have ho' : ops.toArray[i]? = some o := by simpa using ho
      have ht := hp.1
      unfold takeOk at ht
      rw [ho'] at ht
      simp only [Bool.and_eq_true, Bool.or_eq_true, Bool.not_eq_true'] at ht
      obtain ⟨⟨⟨h1, h2⟩, h3⟩, h4⟩ := ht
      obtain ⟨v, hy, s', h5, h6⟩ := take_sound h h1 hqb hq
      refine wpAnyE_first ho' (Region.noSelect_spec hsel) (fun c a w h => (hP c _ w h).elim) fuel l a w (Region.free_spec ho' h2) (fun hrd j oj hj hne hun hm => ?_) hcl (by simpa using h3) hy (ih _ _ _ _ _ (by omega) hp.2 (hcl.set (by simpa using h3)) h5 h6)
      rcases h4 with h4 | h4
      · rw [h4] at hrd; cases hrd
      · exact waitM_spec h4 j oj hj hne hun hm
    · exact hq.elim
  | one i p ih =>
    intro l s a w fuel hf hp hcl h hq
    simp only [planOk, Bool.and_eq_true, beq_iff_eq] at hp
    simp only [awpAny] at hq
    simp only [Plan.len] at hf
    obtain ⟨fuel, rfl⟩ : ∃ n, fuel = n + 1 := ⟨fuel - 1, by omega⟩
    split at hq
    · rename_i o ho
      refine wpAnyE_all hp.1 (by simp) fun k hk => ?_
      simp only [List.mem_cons, List.not_mem_nil, or_false] at hk
      subst hk
      exact step ho h hq fun s' a' w' h' hK => ih _ _ _ _ _ (by omega) hp.2 (hcl.set (by rw [hp.1]; simp)) h' hK
    · exact hq.elim
  | two i p j q ih1 ih2 =>
    intro l s a w fuel hf hp hcl h hq
    simp only [planOk, Bool.and_eq_true, beq_iff_eq] at hp
    simp only [awpAny] at hq
    simp only [Plan.len] at hf
    obtain ⟨fuel, rfl⟩ : ∃ n, fuel = n + 1 := ⟨fuel - 1, by omega⟩
    split at hq
    · rename_i o o2 ho ho2
      refine wpAnyE_all hp.1.1 (by simp) fun k hk => ?_
      simp only [List.mem_cons, List.not_mem_nil, or_false] at hk
      rcases hk with rfl | rfl
      · exact step ho h hq.1 fun s' a' w' h' hK => ih1 _ _ _ _ _ (by omega) hp.1.2 (hcl.set (by rw [hp.1.1]; simp)) h' hK
      · exact step ho2 h hq.2 fun s' a' w' h' hK => ih2 _ _ _ _ _ (by omega) hp.2 (hcl.set (by rw [hp.1.1]; simp)) h' hK
    · exact hq.elim
  | three i p j q k r ih1 ih2 ih3 =>
    intro l s a w fuel hf hp hcl h hq
    simp only [planOk, Bool.and_eq_true, beq_iff_eq] at hp
    simp only [awpAny] at hq
    simp only [Plan.len] at hf
    obtain ⟨fuel, rfl⟩ : ∃ n, fuel = n + 1 := ⟨fuel - 1, by omega⟩
    split at hq
    · rename_i o o2 o3 ho ho2 ho3
      refine wpAnyE_all hp.1.1.1 (by simp) fun k hk => ?_
      simp only [List.mem_cons, List.not_mem_nil, or_false] at hk
      rcases hk with rfl | rfl | rfl
      · exact step ho h hq.1 fun s' a' w' h' hK => ih1 _ _ _ _ _ (by omega) hp.1.1.2 (hcl.set (by rw [hp.1.1.1]; simp)) h' hK
      · exact step ho2 h hq.2.1 fun s' a' w' h' hK => ih2 _ _ _ _ _ (by omega) hp.1.2 (hcl.set (by rw [hp.1.1.1]; simp)) h' hK
      · exact step ho3 h hq.2.2 fun s' a' w' h' hK => ih3 _ _ _ _ _ (by omega) hp.2 (hcl.set (by rw [hp.1.1.1]; simp)) h' hK
    · exact hq.elim
  | four i p j q k r m t ih1 ih2 ih3 ih4 =>
    intro l s a w fuel hf hp hcl h hq
    simp only [planOk, Bool.and_eq_true, beq_iff_eq] at hp
    simp only [awpAny] at hq
    simp only [Plan.len] at hf
    obtain ⟨fuel, rfl⟩ : ∃ n, fuel = n + 1 := ⟨fuel - 1, by omega⟩
    split at hq
    · rename_i o o2 o3 o4 ho ho2 ho3 ho4
      refine wpAnyE_all hp.1.1.1.1 (by simp) fun k hk => ?_
      simp only [List.mem_cons, List.not_mem_nil, or_false] at hk
      rcases hk with rfl | rfl | rfl | rfl
      · exact step ho h hq.1 fun s' a' w' h' hK => ih1 _ _ _ _ _ (by omega) hp.1.1.1.2 (hcl.set (by rw [hp.1.1.1.1]; simp)) h' hK
      · exact step ho2 h hq.2.1 fun s' a' w' h' hK => ih2 _ _ _ _ _ (by omega) hp.1.1.2 (hcl.set (by rw [hp.1.1.1.1]; simp)) h' hK
      · exact step ho3 h hq.2.2.1 fun s' a' w' h' hK => ih3 _ _ _ _ _ (by omega) hp.1.2 (hcl.set (by rw [hp.1.1.1.1]; simp)) h' hK
      · exact step ho4 h hq.2.2.2 fun s' a' w' h' hK => ih4 _ _ _ _ _ (by omega) hp.2 (hcl.set (by rw [hp.1.1.1.1]; simp)) h' hK
    · exact hq.elim

theorem ARel.bool {t : Operand} {b : Bool} (h : ARel C s a w) (hc : constOk P 0 t) (he : aev P s 0 t = .d (.bool b)) : a.eval t = .bool b := by
  obtain ⟨β, S, h⟩ := h
  have := aev_rel h hc
  rw [he] at this
  exact d_bool this

/-! ### In a round of a loop over a function, or not -/
theorem stepsIn_fence {rd : Option Nat} {m m' : Machine} : StepsIn (Machine.fenced P (fence rd)) P m m' ↔ Steps P m m' := stepsIn_wide
theorem callsIn_fence {rd : Option Nat} {n : Nat} {f : FuncId} {args : Array Value} {w : World} {R : Ending → World → Prop} : CallsIn (fence rd) n P f args w R ↔ Calls P f args w R := callsIn_wide

theorem oper_in {rd : Option Nat} {n : Nat} {o : Oper} {K : Act → World → Prop} {Q : Exit → Act → World → Prop} (hd : ∀ c, o.op ≠ .defer c) (h : o.wp P a w K Q) : o.wpIn (fence rd) n P a w K Q := by
  unfold Oper.wp at h
  unfold Oper.wpIn
  refine ⟨fun _ _ => trivial, ?_⟩
  rw [Oper.semAt_eq _ _ _ hd]
  generalize (execOp a.eval o).run P w = r at *
  cases r with
  | ok x w' =>
    cases x <;> simp only [Oper.upon, Oper.uponIn] at h ⊢ <;>
      first
        | exact h
        | exact h.elim
        | exact ⟨fun h => by simp [fence, Fence.wide] at h, callsIn_fence.2 (Calls.mono h fun e w'' he => by cases e <;> exact he)⟩
        | exact ⟨fun h => by simp [fence, Fence.wide] at h, fun c cs _ => let ⟨v, w', r, s⟩ := h c cs; ⟨v, w', r, stepsIn_fence.2 s⟩⟩
  | halt x w' => cases x <;> simp only [Oper.upon, Oper.uponIn] at h ⊢ <;> exact h

theorem wpList_in {rd : Option Nat} {n : Nat} {ops : Array Oper} {Q : Exit → Act → World → Prop} (hQ : ¬ LetsOut Q) : ∀ (l : List Oper), (∀ o ∈ l, ∀ c, o.op ≠ .defer c) → ∀ (a : Act) (w : World), wpList P ops Q l a w → wpListIn (fence rd) n P ops Q l a w
  | [], _, a, w, h => h
  | o :: l, hd, a, w, h => by
    have ih := @wpList_in rd n ops Q hQ l (fun o ho => hd o (List.mem_cons_of_mem _ ho))
    simp only [wpList] at h
    simp only [wpListIn]
    split
    · rename_i hw
      rw [if_pos hw] at h
      rcases h with h | h
      · exact Oper.wpIn_mono ih (oper_in (hd o (by simp)) h)
      · exact (hQ h.2).elim
    · rename_i hw
      rw [if_neg hw] at h
      exact ⟨fun _ _ => trivial, ih _ _ h⟩

theorem wpAny_in {rd : Option Nat} {n : Nat} {md : Region.Mode} {ops : Array Oper} {Q : Exit → Act → World → Prop} (hQ : ¬ LetsOut Q) (hd : ∀ o ∈ ops.toList, ∀ c, o.op ≠ .defer c) : ∀ (fuel : Nat) (l : Array Bool) (a : Act) (w : World),
    wpAny P md ops Q fuel l a w → wpAnyIn (fence rd) n P md ops Q fuel l a w
  | 0, _, _, _, h => h
  | fuel + 1, l, a, w, h => ⟨h.1, fun i hi => by
    have h2 := h.2 i hi
    unfold wpOp at h2
    unfold wpOpIn
    split
    · rename_i ho
      simp only [ho] at h2
      exact wpAny_in hQ hd fuel _ _ _ h2
    · rename_i o ho
      simp only [ho] at h2
      have hm : o ∈ ops.toList := by
        obtain ⟨hlt, he⟩ := Array.getElem?_eq_some_iff.1 ho
        rw [← he]
        exact Array.getElem_mem_toList hlt
      split
      · rename_i hw
        rw [if_pos hw] at h2
        rcases h2 with h2 | h2
        · exact Oper.wpIn_mono (fun a' w' h' => wpAny_in hQ hd fuel _ a' w' h') (oper_in (hd o hm) h2)
        · exact (hQ h2.2).elim
      · rename_i hw
        rw [if_neg hw] at h2
        exact ⟨fun _ _ => trivial, wpAny_in hQ hd fuel _ _ _ h2⟩⟩

/-- THE WALK. -/
theorem awp_sound : ∀ (c : Code) {s : AState} {a : Act} {w : World} {Q : Exit → AState → Prop}, ARel C s a w → awp P C T c s Q → c.wpIn (fence C.rd) 0 P (liftQ C Q) a w := by
  have normal : ∀ {Q : Exit → AState → Prop} {s : AState} {a : Act} {w : World}, ARel C s a w → Q .normal s → liftQ C Q .normal a w := fun h hq => ⟨_, h, hq⟩
  have other : ∀ {c : Code} {s : AState} {a : Act} {w : World} {Q : Exit → AState → Prop}, ARel C s a w → AWp P C c s Q → c.wpIn (fence C.rd) 0 P (liftQ C Q) a w := fun {c s a w Q} h hq =>
    wpIn_mono (hq.run a w h) fun e a' w' ⟨s', h1, h2⟩ => ⟨s', h1, h2⟩
  have out : ∀ {Q : Exit → AState → Prop}, ¬ LetsOut (fun e a w => match e with
        | .normal => liftQ C Q .normal a w
        | _ => False) := fun ⟨a, w, h⟩ => h
  intro c
  induction c with
  | skip => intro s a w Q h hq; exact wpIn_skip ⟨s, h, hq⟩
  | region id ops draw =>
    intro s a w Q h hq
    let Q0 : Exit → Act → World → Prop := fun e a w => match e with
        | .normal => liftQ C Q .normal a w
        | _ => False
    refine wpIn_mono (Q := Q0) ?_ (fun e a w q => by cases e <;> first | exact q | exact q.elim)
    cases draw with
    | false =>
      simp only [awp] at hq
      split at hq
      · rename_i hnd
        refine wpIn_region_list (wpList_in out _ (noDefer.mem hnd) _ _ ?_)
        have := awpOps_sound (P := P) (T := T) (id := id) (ops := ops.toList) (K := Q .normal) (Q := Q0) (fun s a w h hK => ⟨s, h, hK⟩) (r := ops.toList) (i := 0) (fun k => by simp) h hq
        simpa using this
      · exact hq.elim
    | true =>
      simp only [awp] at hq
      obtain ⟨hB, hq⟩ := hq
      simp only [regionB, Bool.and_eq_true, decide_eq_true_eq] at hB
      obtain ⟨⟨⟨⟨hm, hnd⟩, hsel⟩, hp⟩, hlen⟩ := hB
      refine wpIn_region_any hm (wpAny_in out (noDefer.mem hnd) _ _ _ _ (wpAny_ofE _ _ _ _ (mt := mtOf T.mu ops.toList) ?_))
      have := awpAny_sound (P := P) (C := C) (T := T) (id := id) (ops := ops.toList) (K := Q .normal) (Q := Q0) (fun s a w h hK => ⟨s, h, hK⟩) (fun c a w h => h) (by simpa using hsel) (T.plan id) _ s a { w with drawn := w.drawn + 1 } ops.size hlen (by simpa using hp) (fun k ok _ hl => by rw [Array.getD_eq_getD_getElem?, Array.getElem?_replicate] at hl; split at hl <;> simp at hl) (h.drawn _) hq
      simpa using this
  | seq x y ih1 ih2 =>
    intro s a w Q h hq
    simp only [awp] at hq
    refine wpIn_seq (wpIn_mono (ih1 h hq) fun e a' w' hl => ?_)
    obtain ⟨s', h1, h2⟩ := hl
    cases e <;> first | exact ih2 h1 h2 | exact ⟨s', h1, h2⟩
  | cond c x y ih1 ih2 =>
    intro s a w Q h hq
    simp only [awp] at hq
    split at hq
    · rename_i b hb
      obtain ⟨hc, h1, h2⟩ := hq
      exact wpIn_cond_split (h.bool hc hb) (fun e => ih1 h (h1 e)) fun e => ih2 h (h2 e)
    · exact hq.elim
  | block id x ih =>
    intro s a w Q h hq
    simp only [awp] at hq
    refine wpIn_block (wpIn_mono (ih h hq) fun e a' w' hl => ?_)
    obtain ⟨s', h1, h2⟩ := hl
    cases e with
    | exit i =>
      simp only [blockQ] at h2
      simp only [Exit.inBlock]
      split <;> rename_i hi
      · rw [if_pos hi] at h2; exact ⟨s', h1, h2⟩
      · rw [if_neg hi] at h2; exact ⟨s', h1, h2⟩
    | _ => exact ⟨s', h1, h2⟩
  | exit id => intro s a w Q h hq; exact wpIn_exit ⟨s, h, hq⟩
  | label l => intro s a w Q h hq; exact wpIn_label ⟨s, h, hq⟩
  | goto l => intro s a w Q h hq; exact wpIn_goto ⟨s, h, hq⟩
  | ret => intro s a w Q h hq; exact wpIn_ret ⟨s, h, hq⟩
  | _ => intro s a w Q h hq; exact other h hq

end
end Go.Proofs.YtniaeiikdgbnfaaDoor.AW
