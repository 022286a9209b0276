/- The statement 'KeyBack': for every input it returns true, and each argument reads behind the call as it did before. No condition of its own. -/
import Derived.Test.YtniaeiikdgbnfaaDoorCards
import Derived.Test.YtniaeiikdgbnfaaDoorTie
import Derived.Test.YtniaeiikdgbnfaaDoorKD
import Derived.WalkKit
import Derived.ProofKit
import Derived.OpenShut
import Derived.ShutString
import Derived.ChangeOld
import Derived.SizedLaws
import Derived.Deep.DeepHandedRow
import Derived.Lib.LaidTab
namespace Go.Proofs.YtniaeiikdgbnfaaDoor.keyBack
open Go.ChangeShapes Go.WideShapes Go.ChangeAt Go.RowKit Go.Proofs.YtniaeiikdgbnfaaDoor.AW
open Go.ChangeMaps (open_string shut_string)
set_option linter.unusedVariables false

theorem own : ownKnob Tryd.prog.godebug = none := by kernel_rfl
/-- What the row's list says of the package's variable. -/
instance globs : Globs := ⟨fun g => if g = 0 then some R.EXP else none⟩
theorem gTab : Tryd.prog.globalNamed "sallyport/key.exponent" = some 0 := by kernel_rfl
theorem gTabType : (Tryd.prog.globals[0]?).map (·.type) = some 69 := by kernel_rfl
theorem cellsT : Tryd.prog.cellsOf 69 = 3 := by kernel_rfl
theorem cellsE : Tryd.prog.cellsOf 5 = 1 := by kernel_rfl
theorem table {W : World} (h : laidMetH Tryd.prog Rows.keyBackRow.laid W) : Lib.TabIs Tryd.prog W "sallyport/key.exponent" .u8 [1, 0, 1] :=
  Lib.tabIs_of_head (rest := []) gTab gTabType Tryd.underlying69 Tryd.underlying5 cellsE cellsT h
theorem globOk {W : World} (h : laidMetH Tryd.prog Rows.keyBackRow.laid W) : GlobOk W (fun b => b < W.heap.size) := fun g d hg => by
  have hg' : (if g = 0 then some R.EXP else none) = some d := hg
  split at hg'
  · rename_i e
    subst e
    injection hg' with hg'
    subst hg'
    have c : ∀ i (hi : i < 3), W.cell? ⟨0, i, none⟩ = some (.int .u8 ([1, 0, 1].getD i 0)) := fun i hi => by
      have := (table h).cell gTab i (by simpa using hi)
      simpa [List.getD_eq_getElem?_getD] using this
    refine ⟨?_, [.int .u8 1, .int .u8 0, .int .u8 1], ?_, ?_⟩
    · have := c 0 (by decide)
      unfold World.cell? at this
      cases hb : W.heap[0]? with
      | none => simp [hb] at this
      | some o => exact (Array.getElem?_eq_some_iff.1 hb).1
    · intro i v hv
      have hi : i < 3 := (List.getElem?_eq_some_iff.1 hv).1
      have h2 := c i hi
      have h3 : ∀ i : Fin 3, ([.int .u8 1, .int .u8 0, .int .u8 1] : List Value)[i.val]? = some (.int .u8 ([1, 0, 1].getD i.val 0)) := fun i => by
        match i with
        | ⟨0, _⟩ => rfl
        | ⟨1, _⟩ => rfl
        | ⟨2, _⟩ => rfl
      have h4 := h3 ⟨i, hi⟩
      rw [hv] at h4
      injection h4 with h4
      rw [h4, Nat.zero_add]
      exact h2
    · unfold R.EXP
      simp only [Rep, RepAll]
      exact ⟨_, _, rfl, ⟨rfl, by decide⟩, _, _, rfl, ⟨rfl, by decide⟩, _, _, rfl, ⟨rfl, by decide⟩, rfl⟩
  · cases hg'

theorem laidOut : laidOutB Tryd.prog = true := by kernel_rfl

/-- A slice of integers that came in. -/
def IsRow (k : IntKind) (w : World) (a : Option Addr) (len cap : Nat) (zs : List Int) : Prop :=
  (a = none ∧ len = 0 ∧ cap = 0 ∧ zs = []) ∨
  ∃ x, a = some x ∧ len ≤ cap ∧ cap ≤ maxLen ∧ zs.length = cap ∧ (∀ i, i < zs.length → w.cell? (x.add i) = some (.int k (zs.getD i 0))) ∧ ∀ n ∈ zs, (Lit.int k n).wf = true

theorem wf_wrap {k : IntKind} {n : Int} (h : (Lit.int k n).wf = true) : k.wrap n = n := by
  rw [wrap_in]
  cases k <;> simp [Lit.wf, IntKind.min, IntKind.max, loK, hiK, IntKind.bits, IntKind.signed] at h ⊢ <;> omega

theorem isRow_rep {k : IntKind} {w : World} {a : Option Addr} {len cap : Nat} {zs : List Int} (h : IsRow k w a len cap zs) (hl : len ≤ LIM) : Rep w (fun b => b < w.heap.size) (.ints k (zs.take len)) [.slice a len cap] := by
  simp only [Rep]
  rcases h with ⟨rfl, rfl, rfl, rfl⟩ | ⟨x, rfl, hlc, hm, hz, hcell, hwf⟩
  · exact ⟨none, 0, rfl, Nat.le_refl _, Nat.zero_le _, by simp, fun h => (h rfl).elim⟩
  · have hlen : (zs.take len).length = len := by rw [List.length_take]; omega
    refine ⟨some x, cap, by rw [hlen], by omega, by omega, fun z hz' => wf_wrap (hwf z (List.mem_of_mem_take hz')), fun hne => ?_⟩
    have h0 : 0 < len := by
      rcases Nat.eq_zero_or_pos len with h | h
      · subst h; exact (hne rfl).elim
      · exact h
    obtain ⟨b, off, spot⟩ := x
    have hspot : spot = none := by simpa [Addr.add] using World.cell?_spot (hcell 0 (by omega))
    subst hspot
    have hc : Cells w b off ((zs.take len).map (Value.int k)) := fun i v hi => by
      rw [List.getElem?_map, List.getElem?_take] at hi
      split at hi
      · rename_i hil
        rw [List.getElem?_eq_getElem (by omega)] at hi
        simp only [Option.map_some, Option.some.injEq] at hi
        subst hi
        have := hcell i (by omega)
        rw [List.getD_eq_getElem?_getD, List.getElem?_eq_getElem (by omega), addr_add] at this
        exact this
      · simp at hi
    refine ⟨b, off, rfl, ?_, hc⟩
    have := hcell 0 (by omega)
    unfold World.cell? at this
    cases hb : w.heap[b]? with
    | none => simp [Addr.add, hb] at this
    | some o => exact (Array.getElem?_eq_some_iff.1 hb).1

theorem call_of {f : FuncId} {args : List AVal} (h : Imm Tryd.prog f args (fun r => r = .d (.bool true))) {w : World} (hgl : GlobOk w (fun b => b < w.heap.size)) {vs : List Value} (hv : VAll w (fun _ => none) (fun b => b < w.heap.size) args vs) :
    Calls Tryd.prog f vs.toArray w fun e w' => e = .returned (.bool true) ∧ Below w.heap.size w w' := by
  refine (h.2 w (fun _ => none) (fun b => b < w.heap.size) vs ⟨fun _ _ h => by simp at h, by simp, fun _ _ _ _ h => by simp at h, fun b ⟨_, _, h, _⟩ => by simp at h, fun b hb => hb, hgl⟩ (fun _ _ => rfl) hv).mono fun e w' hh => ?_
  obtain ⟨v, st', nx', r, β', S', rfl, hf, hs, _, _, _, hr, _, _, rfl⟩ := hh
  simp only [VRel, Rep] at hr
  obtain ⟨cs, rfl, rfl⟩ := hr
  exact ⟨rfl, hf.os, hf.tape, hf.output, hf.size, fun b hb => hf.old b hb fun ⟨_, _, h, _⟩ => by simp at h⟩

theorem walk (a0 : Int) (a1 : Option Addr) (len1 cap1 : Nat) (z1 : List Int) (a2 : Option Addr) (len2 cap2 : Nat) (z2 : List Int) (w : World) (hgl : GlobOk w (fun b => b < w.heap.size)) (w0 : (Lit.int .i64 a0).wf = true) (w1 : IsRow .u8 w a1 len1 cap1 z1) (L1 : len1 ≤ LIM) (w2 : IsRow .u8 w a2 len2 cap2 z2) (L2 : len2 ≤ LIM) :
    Calls Tryd.prog 4 #[.int .i64 a0, .slice a1 len1 cap1, .slice a2 len2 cap2] w fun e w' => e = .returned (.bool true) ∧ Below w.heap.size w w' := by
  have hv : VAll w (fun _ => none) (fun b => b < w.heap.size) [.d (.int .i64 a0), .d (.ints .u8 (z1.take len1)), .d (.ints .u8 (z2.take len2))] [.int .i64 a0, .slice a1 len1 cap1, .slice a2 len2 cap2] := by
    simp only [VAll, VRel]
    exact ⟨_, _, rfl, ⟨[.int .i64 a0], by unfold Rep; exact ⟨rfl, wf_wrap w0⟩, rfl⟩, ⟨_, _, rfl, ⟨_, isRow_rep w1 L1, rfl⟩, ⟨_, _, rfl, ⟨_, isRow_rep w2 L2, rfl⟩, rfl⟩⟩⟩
  exact call_of (w := w) (Imm.learn ⟨_, Tryd.func4, rfl, by decide⟩ fun hk => R.l_keyBack rfl _ _ _ (R.wfd_known hk.2.1) (R.wfd_known hk.2.2.1)) hgl hv

/-- A world for the witness: the settled one, the variable holding what its initialiser lays. -/
noncomputable def laidWorld (os : Os) : World :=
  { World.holding Tryd.prog os ⟨#[], #[], []⟩ with heap := (World.holding Tryd.prog os ⟨#[], #[], []⟩).heap.modify 0 fun
      | .cells _ t frozen => .cells #[.int .u8 1, .int .u8 0, .int .u8 1] t frozen
      | o => o }
theorem laid_met (os : Os) : laidMet Tryd.prog Rows.keyBackRow.laid ((laidWorld os).forCall (fun _ _ => 0) ⟨#[], #[.int .i64 0, .slice none 0 0, .slice none 0 0], []⟩).memory :=
  laidMet_of_run' 8 (by kernel_rfl) (by kernel_rfl)
theorem reads (os : Os) {H : Type} (enc : TypeId × Value → H) : ∃ places, DataW.whole enc Tryd.prog ((laidWorld os).forCall (fun _ _ => 0) ⟨#[], #[.int .i64 0, .slice none 0 0, .slice none 0 0], []⟩).memory Tryd.f4.params.toList Rows.keyBackSpec.vars false (#[.int .i64 0, .slice none 0 0, .slice none 0 0] : Array Value).toList 8 = some ([.lit (.int .i64 0), .nil, .nil], [], places) :=
  ⟨[], by kernel_rfl⟩

set_option maxRecDepth 100000 in
theorem lifted (os : Os) (started : os.Started) (H : Type) (enc : TypeId × Value → H) (F : Stop.Interp) :
    ReturnsInHanded {} Tryd.checked os 4 .any ((OpenSpec.ofChange Rows.keyBackSpec).preRow enc Tryd.prog Tryd.f4 Rows.keyBackRow.domain false Rows.keyBackRow.laid) (((OpenSpec.ofChange Rows.keyBackSpec).at F).post enc Tryd.prog Tryd.f4 false true false false) := by
  obtain ⟨places, hx⟩ := reads os enc
  refine returnsInHanded_of_row (C := Tryd.checked) (s := OpenSpec.ofChange Rows.keyBackSpec) own started (by kernel_rfl) Tryd.func4
    (witness_row_at (enc := enc) (C := Tryd.checked) false (laidWorld os) #[.int .i64 0, .slice none 0 0, .slice none 0 0] rfl (by kernel_rfl) (by kernel_rfl) (by kernel_rfl)
      (OpenSpec.preRow_of_cond 8 hx (by kernel_rfl) (fun k hk => by cases hk) (by kernel_rfl) (laid_met os))) ?_
  intro W base args ds gs before hval0 hW hcnd _ hsz hL _ _
  have hval : ∀ (j : Nat) t v, Tryd.f4.params[j]? = some t → args[j]? = some v → Value.okWide Tryd.prog W .any base t v := hval0
  have hW' := hW
  obtain ⟨p, q, hA0, hV, rfl, hfz, hnd⟩ := hW
  have hA : DataW.TrodAll enc Tryd.prog W 0 (fun _ => true) true Tryd.f4.params.toList args.toList ds p := hA0
  rw [Tryd.params4] at hA hval hsz
  obtain ⟨v0, vs0, d0, ds0, p0, q0, hargs, rfl, rfl, h0, r0⟩ := trodAll_cons hA
  obtain ⟨v1, vs1, d1, ds1, p1, q1, rfl, rfl, rfl, h1, r1⟩ := trodAll_cons r0
  obtain ⟨v2, vs2, d2, ds2, p2, q2, rfl, rfl, rfl, h2, r2⟩ := trodAll_cons r1
  obtain ⟨rfl, rfl, rfl⟩ := trodAll_nil r2
  obtain rfl : args = #[v0, v1, v2] := by cases args; simp_all
  obtain ⟨rfl, rfl⟩ := trodVars_none hV
  obtain ⟨a0, rfl, rfl, rfl, w0⟩ := open_int Tryd.underlying3 (hval 0 3 v0 rfl rfl) h0
  obtain ⟨a1, len1, cap1, rfl⟩ := okWide_slice Tryd.underlying22 (hval 1 22 v1 rfl rfl)
  have k1 := h1
  have lt1 : ∀ x ∈ p1, x.block < W.heap.size := by obtain ⟨m, hm⟩ := k1; exact DataW.trod_lt m _ _ _ hm
  obtain ⟨z1, w1, L1⟩ : ∃ zs, IsRow .u8 W a1 len1 cap1 zs ∧ len1 ≤ LIM := by
    obtain ⟨fuel, hf⟩ := h1
    rcases open_ints Tryd.underlying22 Tryd.underlying5 (by kernel_rfl) hf with ⟨hcs, _⟩ | ⟨x, l, c, zs, hcs, _, hl, hm, hz, hx, hcell, hwz⟩
    · simp [Value.cells] at hcs
      obtain ⟨rfl, rfl, rfl⟩ := hcs
      exact ⟨[], .inl ⟨rfl, rfl, rfl, rfl⟩, Nat.zero_le _⟩
    · simp [Value.cells] at hcs
      obtain ⟨rfl, rfl, rfl⟩ := hcs
      simp only [Prod.mk.injEq] at hx
      obtain ⟨rfl, rfl⟩ := hx
      have hzl : zs.length = cap1 := by simpa using hz
      have hs := sized_slice hsz (j := 1) (t := 22) (e := 5) rfl rfl Tryd.underlying22
      have hb : 1 ≤ Tryd.prog.bytesOf 5 := of_decide_eq_true (by kernel_rfl)
      have hr := reachBytes_lt
      refine ⟨zs, .inr ⟨_, rfl, hl, hm, hzl, hcell, hwz⟩, ?_⟩
      simp only [lits, List.length_map, List.length_take, List.length_drop] at hs
      have h3 := Nat.le_trans (Nat.le_mul_of_pos_right _ hb) hs
      unfold LIM
      omega
  obtain ⟨a2, len2, cap2, rfl⟩ := okWide_slice Tryd.underlying22 (hval 2 22 v2 rfl rfl)
  have k2 := h2
  have lt2 : ∀ x ∈ p2, x.block < W.heap.size := by obtain ⟨m, hm⟩ := k2; exact DataW.trod_lt m _ _ _ hm
  obtain ⟨z2, w2, L2⟩ : ∃ zs, IsRow .u8 W a2 len2 cap2 zs ∧ len2 ≤ LIM := by
    obtain ⟨fuel, hf⟩ := h2
    rcases open_ints Tryd.underlying22 Tryd.underlying5 (by kernel_rfl) hf with ⟨hcs, _⟩ | ⟨x, l, c, zs, hcs, _, hl, hm, hz, hx, hcell, hwz⟩
    · simp [Value.cells] at hcs
      obtain ⟨rfl, rfl, rfl⟩ := hcs
      exact ⟨[], .inl ⟨rfl, rfl, rfl, rfl⟩, Nat.zero_le _⟩
    · simp [Value.cells] at hcs
      obtain ⟨rfl, rfl, rfl⟩ := hcs
      simp only [Prod.mk.injEq] at hx
      obtain ⟨rfl, rfl⟩ := hx
      have hzl : zs.length = cap2 := by simpa using hz
      have hs := sized_slice hsz (j := 2) (t := 22) (e := 5) rfl rfl Tryd.underlying22
      have hb : 1 ≤ Tryd.prog.bytesOf 5 := of_decide_eq_true (by kernel_rfl)
      have hr := reachBytes_lt
      refine ⟨zs, .inr ⟨_, rfl, hl, hm, hzl, hcell, hwz⟩, ?_⟩
      simp only [lits, List.length_map, List.length_take, List.length_drop] at hs
      have h3 := Nat.le_trans (Nat.le_mul_of_pos_right _ hb) hs
      unfold LIM
      omega
  clear hA0 hval0
  have hgl := globOk hL
  refine (walk a0 a1 len1 cap1 z1 a2 len2 cap2 z2 W hgl w0 w1 L1 w2 L2).mono fun e W' ⟨he, bel⟩ => ?_
  subst he
  exact ⟨_, rfl, _, _, _, [], _, [], hW', trodAll_mk1 (shut_bool Tryd.underlying4 _), (trodAll_cons_mk (shut_int Tryd.underlying3 w0) (trodAll_cons_mk (Below.trod laidOut (by kernel_rfl) (of_decide_eq_true (by kernel_rfl)) k1 bel lt1) (trodAll_cons_mk (Below.trod laidOut (by kernel_rfl) (of_decide_eq_true (by kernel_rfl)) k2 bel lt2) trodAll_mk0))), rfl, bel.frame _, fun h => by cases h⟩

theorem said : Rows.KeyBackSaid :=
  OpenClaim.holds_of_cond 4 Tryd.f4 rfl rfl rfl rfl rfl rfl rfl ⟨rfl, rfl, rfl, rfl, rfl⟩ rfl rfl rfl rfl rfl (by kernel_rfl) Tryd.func4 (by kernel_rfl)
    (of_decide_eq_true (by kernel_rfl)) (by unfold Func.isWrapper; first | (rw [if_pos (by decide +kernel)]; kernel_rfl) | (rw [if_neg (by decide +kernel)]; exact ⟨rfl, rfl⟩))
    (fun os started H enc _ F => by rw [OpenClaim.pre_eq_preRow]; exact lifted os started H enc F)

/-- No parameter wants a stand-in; the program's own looks are off. -/
theorem plain (f : FuncId) (fn : Func) (hf : Tryd.pinned.checked.prog.funcNamed Rows.keyBackRow.func = some f) (hfn : Tryd.pinned.checked.prog.funcs[f]? = some fn) :
    false = Tryd.pinned.checked.prog.looks [] ∧ ∀ (j : Nat) t, fn.params[j]? = some t → Tryd.pinned.checked.prog.wantsStandIn t = false := by
  obtain rfl : f = 4 := Option.some.inj ((show Tryd.prog.funcNamed Rows.keyBackRow.func = some 4 by kernel_rfl).symm.trans hf) |>.symm
  obtain rfl : fn = Tryd.f4 := (Option.some.inj (Tryd.func4.symm.trans hfn)).symm
  refine ⟨by kernel_rfl, fun j t ht => ?_⟩
  rw [Tryd.params4] at ht
  have hm := Array.mem_of_getElem? ht
  simp only [List.mem_toArray, List.mem_cons, List.not_mem_nil, or_false] at hm
  have all : ∀ t ∈ [3, 22], Tryd.prog.wantsStandIn t = false := by
    intro t h
    simp only [List.mem_cons, List.not_mem_nil, or_false] at h
    rcases h with rfl | rfl <;> kernel_rfl
  exact all t (by simpa using hm)

/-- THE CARD. -/
theorem card : Rows.KeyBackCardSaid :=
  Claim7.holds_tied_plain_at .later [] _ _ _ _ said (fun _ h => by cases h) (by kernel_rfl) (fun _ h => by cases h) keyBack_row_tie rfl ⟨rfl, rfl⟩ (by kernel_rfl) rfl plain (by kernel_rfl)
#print axioms card
end Go.Proofs.YtniaeiikdgbnfaaDoor.keyBack
