/- The statement 'SealDigests': for every input it returns true, and each argument reads behind the call as it did before. No condition of its own. -/
import Derived.Test.YtniaeiikdgbnfaaDoorCards
import Derived.Test.YtniaeiikdgbnfaaDoorTie
import Derived.Test.YtniaeiikdgbnfaaDoorSD15
import Derived.Test.YtniaeiikdgbnfaaDoorSD19
import Derived.Test.YtniaeiikdgbnfaaDoorSD18
import Derived.WalkKit
import Derived.ProofKit
import Derived.OpenShut
import Derived.ShutString
import Derived.ChangeOld
import Derived.SizedLaws
import Derived.Deep.DeepHandedRow
import Derived.Lib.LaidTab
namespace Go.Proofs.YtniaeiikdgbnfaaDoor.sealDigests
open Go.ChangeShapes Go.WideShapes Go.ChangeAt Go.RowKit Go.Proofs.YtniaeiikdgbnfaaDoor.AW
open Go.ChangeMaps (open_string shut_string)
set_option linter.unusedVariables false

theorem own : ownKnob Tryd.prog.godebug = none := by kernel_rfl
/-- What the row's list says of the package's variables. -/
def tabs : List Tab := [⟨"sallyport/longsum.rounds", 5, 154, 117, .u64, R.L.KK⟩, ⟨"sallyport/longsum.first", 2, 143, 117, .u64, R.L.H0⟩, ⟨"sallyport/shortsum.rounds", 4, 152, 79, .u32, R.KK⟩, ⟨"sallyport/shortsum.first", 1, 134, 79, .u32, R.H0⟩]
instance globs : Globs := ⟨tabGl tabs⟩
theorem tab0 : Tab.ok Tryd.prog ⟨"sallyport/longsum.rounds", 5, 154, 117, .u64, R.L.KK⟩ := ⟨by kernel_rfl, by kernel_rfl, Tryd.underlying154, Tryd.underlying117, by kernel_rfl, by kernel_rfl, by kernel_rfl, of_decide_eq_true (by kernel_rfl)⟩
theorem tab1 : Tab.ok Tryd.prog ⟨"sallyport/longsum.first", 2, 143, 117, .u64, R.L.H0⟩ := ⟨by kernel_rfl, by kernel_rfl, Tryd.underlying143, Tryd.underlying117, by kernel_rfl, by kernel_rfl, by kernel_rfl, of_decide_eq_true (by kernel_rfl)⟩
theorem tab2 : Tab.ok Tryd.prog ⟨"sallyport/shortsum.rounds", 4, 152, 79, .u32, R.KK⟩ := ⟨by kernel_rfl, by kernel_rfl, Tryd.underlying152, Tryd.underlying79, by kernel_rfl, by kernel_rfl, by kernel_rfl, of_decide_eq_true (by kernel_rfl)⟩
theorem tab3 : Tab.ok Tryd.prog ⟨"sallyport/shortsum.first", 1, 134, 79, .u32, R.H0⟩ := ⟨by kernel_rfl, by kernel_rfl, Tryd.underlying134, Tryd.underlying79, by kernel_rfl, by kernel_rfl, by kernel_rfl, of_decide_eq_true (by kernel_rfl)⟩
theorem tabsOk : ∀ x ∈ tabs, x.ok Tryd.prog := fun x hx => by
  unfold tabs at hx
  simp only [List.mem_cons, List.not_mem_nil, or_false] at hx
  rcases hx with rfl | rfl | rfl | rfl
  · exact tab0
  · exact tab1
  · exact tab2
  · exact tab3
theorem laidEq : Rows.sealDigestsRow.laid = tabLaid tabs := by kernel_rfl
theorem globOk {W : World} (h : laidMetH Tryd.prog Rows.sealDigestsRow.laid W) : GlobOk W (fun b => b < W.heap.size) := by
  rw [laidEq] at h
  exact globOk_tabs tabs (fun _ => rfl) tabsOk h

theorem laidOut : laidOutB Tryd.prog = true := by kernel_rfl

/-- A slice of integers that came in. -/
def IsRow (k : IntKind) (w : World) (a : Option Addr) (len cap : Nat) (zs : List Int) : Prop :=
  (a = none ∧ len = 0 ∧ cap = 0 ∧ zs = []) ∨
  ∃ x, a = some x ∧ len ≤ cap ∧ cap ≤ maxLen ∧ zs.length = cap ∧ (∀ i, i < zs.length → w.cell? (x.add i) = some (.int k (zs.getD i 0))) ∧ ∀ n ∈ zs, (Lit.int k n).wf = true

theorem wf_wrap {k : IntKind} {n : Int} (h : (Lit.int k n).wf = true) : k.wrap n = n := by
  rw [wrap_in]
  cases k <;> simp [Lit.wf, IntKind.min, IntKind.max, loK, hiK, IntKind.bits, IntKind.signed] at h ⊢ <;> omega

theorem isRow_rep {k : IntKind} {w : World} {a : Option Addr} {len cap : Nat} {zs : List Int} (h : IsRow k w a len cap zs) (hl : len ≤ LIM) : Rep w (fun b => b < w.heap.size) (.ints k (zs.take len)) [.slice a len cap] := by
  simp only [Rep]
  rcases h with ⟨rfl, rfl, rfl, rfl⟩ | ⟨x, rfl, hlc, hm, hz, hcell, hwf⟩
  · exact ⟨none, 0, rfl, Nat.le_refl _, Nat.zero_le _, by simp, fun h => (h rfl).elim⟩
  · have hlen : (zs.take len).length = len := by rw [List.length_take]; omega
    refine ⟨some x, cap, by rw [hlen], by omega, by omega, fun z hz' => wf_wrap (hwf z (List.mem_of_mem_take hz')), fun hne => ?_⟩
    have h0 : 0 < len := by
      rcases Nat.eq_zero_or_pos len with h | h
      · subst h; exact (hne rfl).elim
      · exact h
    obtain ⟨b, off, spot⟩ := x
    have hspot : spot = none := by simpa [Addr.add] using World.cell?_spot (hcell 0 (by omega))
    subst hspot
    have hc : Cells w b off ((zs.take len).map (Value.int k)) := fun i v hi => by
      rw [List.getElem?_map, List.getElem?_take] at hi
      split at hi
      · rename_i hil
        rw [List.getElem?_eq_getElem (by omega)] at hi
        simp only [Option.map_some, Option.some.injEq] at hi
        subst hi
        have := hcell i (by omega)
        rw [List.getD_eq_getElem?_getD, List.getElem?_eq_getElem (by omega), addr_add] at this
        exact this
      · simp at hi
    refine ⟨b, off, rfl, ?_, hc⟩
    have := hcell 0 (by omega)
    unfold World.cell? at this
    cases hb : w.heap[b]? with
    | none => simp [Addr.add, hb] at this
    | some o => exact (Array.getElem?_eq_some_iff.1 hb).1

theorem call_of {f : FuncId} {args : List AVal} (h : Imm Tryd.prog f args (fun r => r = .d (.bool true))) {w : World} (hgl : GlobOk w (fun b => b < w.heap.size)) {vs : List Value} (hv : VAll w (fun _ => none) (fun b => b < w.heap.size) args vs) :
    Calls Tryd.prog f vs.toArray w fun e w' => e = .returned (.bool true) ∧ Below w.heap.size w w' := by
  refine (h.2 w (fun _ => none) (fun b => b < w.heap.size) vs ⟨fun _ _ h => by simp at h, by simp, fun _ _ _ _ h => by simp at h, fun b ⟨_, _, h, _⟩ => by simp at h, fun b hb => hb, hgl⟩ (fun _ _ => rfl) hv).mono fun e w' hh => ?_
  obtain ⟨v, st', nx', r, β', S', rfl, hf, hs, _, _, _, hr, _, _, rfl⟩ := hh
  simp only [VRel, Rep] at hr
  obtain ⟨cs, rfl, rfl⟩ := hr
  exact ⟨rfl, hf.os, hf.tape, hf.output, hf.size, fun b hb => hf.old b hb fun ⟨_, _, h, _⟩ => by simp at h⟩

theorem walk (a0 : Int) (a1 : Option Addr) (len1 cap1 : Nat) (z1 : List Int) (a2 : Option Addr) (len2 cap2 : Nat) (z2 : List (List Int)) (w : World) (hgl : GlobOk w (fun b => b < w.heap.size)) (w0 : (Lit.int .i64 a0).wf = true) (w1 : IsRow .u8 w a1 len1 cap1 z1) (L1 : len1 ≤ LIM) (w2 : Rep w (fun b => b < w.heap.size) (.sl 1 (z2.map (D.ints .u8))) [.slice a2 len2 cap2]) :
    Calls Tryd.prog 10 #[.int .i64 a0, .slice a1 len1 cap1, .slice a2 len2 cap2] w fun e w' => e = .returned (.bool true) ∧ Below w.heap.size w w' := by
  have hv : VAll w (fun _ => none) (fun b => b < w.heap.size) [.d (.int .i64 a0), .d (.ints .u8 (z1.take len1)), .d (.sl 1 (z2.map (D.ints .u8)))] [.int .i64 a0, .slice a1 len1 cap1, .slice a2 len2 cap2] := by
    simp only [VAll, VRel]
    exact ⟨_, _, rfl, ⟨[.int .i64 a0], by unfold Rep; exact ⟨rfl, wf_wrap w0⟩, rfl⟩, ⟨_, _, rfl, ⟨_, isRow_rep w1 L1, rfl⟩, ⟨_, _, rfl, ⟨_, w2, rfl⟩, rfl⟩⟩⟩
  exact call_of (w := w) (Imm.learn ⟨_, Tryd.func10, rfl, by decide⟩ fun hk => R.l_sealDigests ⟨rfl, rfl, rfl, rfl⟩ _ _ _ (R.wfd_known hk.2.1) hk.2.1.1 (R.known_rows hk.2.2.1.2) (by have := hk.2.2.1.1; rwa [List.length_map] at this)) hgl hv

/-- What an initialiser lays. -/
def lay (zs : List Int) (k : IntKind) : Obj → Obj
  | .cells _ t frozen => .cells (zs.map (Value.int k)).toArray t frozen
  | o => o
/-- A world for the witness: the settled one, the variable holding what its initialiser lays. -/
noncomputable def laidWorld (os : Os) : World :=
  { World.holding Tryd.prog os ⟨#[], #[], []⟩ with heap := (((((World.holding Tryd.prog os ⟨#[], #[], []⟩).heap).modify 5 (lay (R.L.KK : List Int) .u64)).modify 2 (lay (R.L.H0 : List Int) .u64)).modify 4 (lay (R.KK : List Int) .u32)).modify 1 (lay (R.H0 : List Int) .u32) }
theorem laid_met (os : Os) : laidMet Tryd.prog Rows.sealDigestsRow.laid ((laidWorld os).forCall (fun _ _ => 0) ⟨#[], #[.int .i64 0, .slice none 0 0, .slice none 0 0], []⟩).memory :=
  laidMet_of_run' 8 (by kernel_rfl) (by kernel_rfl)
theorem reads (os : Os) {H : Type} (enc : TypeId × Value → H) : ∃ places, DataW.whole enc Tryd.prog ((laidWorld os).forCall (fun _ _ => 0) ⟨#[], #[.int .i64 0, .slice none 0 0, .slice none 0 0], []⟩).memory Tryd.f10.params.toList Rows.sealDigestsSpec.vars false (#[.int .i64 0, .slice none 0 0, .slice none 0 0] : Array Value).toList 8 = some ([.lit (.int .i64 0), .nil, .nil], [], places) :=
  ⟨[], by kernel_rfl⟩

set_option maxRecDepth 100000 in
theorem lifted (os : Os) (started : os.Started) (H : Type) (enc : TypeId × Value → H) (F : Stop.Interp) :
    ReturnsInHanded {} Tryd.checked os 10 .any ((OpenSpec.ofChange Rows.sealDigestsSpec).preRow enc Tryd.prog Tryd.f10 Rows.sealDigestsRow.domain false Rows.sealDigestsRow.laid) (((OpenSpec.ofChange Rows.sealDigestsSpec).at F).post enc Tryd.prog Tryd.f10 false true false false) := by
  obtain ⟨places, hx⟩ := reads os enc
  refine returnsInHanded_of_row (C := Tryd.checked) (s := OpenSpec.ofChange Rows.sealDigestsSpec) own started (by kernel_rfl) Tryd.func10
    (witness_row_at (enc := enc) (C := Tryd.checked) false (laidWorld os) #[.int .i64 0, .slice none 0 0, .slice none 0 0] rfl (by kernel_rfl) (by kernel_rfl) (by kernel_rfl)
      (OpenSpec.preRow_of_cond 8 hx (by kernel_rfl) (fun k hk => by cases hk) (by kernel_rfl) (laid_met os))) ?_
  intro W base args ds gs before hval0 hW hcnd _ hsz hL _ _
  have hval : ∀ (j : Nat) t v, Tryd.f10.params[j]? = some t → args[j]? = some v → Value.okWide Tryd.prog W .any base t v := hval0
  have hW' := hW
  obtain ⟨p, q, hA0, hV, rfl, hfz, hnd⟩ := hW
  have hA : DataW.TrodAll enc Tryd.prog W 0 (fun _ => true) true Tryd.f10.params.toList args.toList ds p := hA0
  rw [Tryd.params10] at hA hval hsz
  obtain ⟨v0, vs0, d0, ds0, p0, q0, hargs, rfl, rfl, h0, r0⟩ := trodAll_cons hA
  obtain ⟨v1, vs1, d1, ds1, p1, q1, rfl, rfl, rfl, h1, r1⟩ := trodAll_cons r0
  obtain ⟨v2, vs2, d2, ds2, p2, q2, rfl, rfl, rfl, h2, r2⟩ := trodAll_cons r1
  obtain ⟨rfl, rfl, rfl⟩ := trodAll_nil r2
  obtain rfl : args = #[v0, v1, v2] := by cases args; simp_all
  obtain ⟨rfl, rfl⟩ := trodVars_none hV
  obtain ⟨a0, rfl, rfl, rfl, w0⟩ := open_int Tryd.underlying3 (hval 0 3 v0 rfl rfl) h0
  obtain ⟨a1, len1, cap1, rfl⟩ := okWide_slice Tryd.underlying22 (hval 1 22 v1 rfl rfl)
  have k1 := h1
  have lt1 : ∀ x ∈ p1, x.block < W.heap.size := by obtain ⟨m, hm⟩ := k1; exact DataW.trod_lt m _ _ _ hm
  obtain ⟨z1, w1, L1⟩ : ∃ zs, IsRow .u8 W a1 len1 cap1 zs ∧ len1 ≤ LIM := by
    obtain ⟨fuel, hf⟩ := h1
    rcases open_ints Tryd.underlying22 Tryd.underlying5 (by kernel_rfl) hf with ⟨hcs, _⟩ | ⟨x, l, c, zs, hcs, _, hl, hm, hz, hx, hcell, hwz⟩
    · simp [Value.cells] at hcs
      obtain ⟨rfl, rfl, rfl⟩ := hcs
      exact ⟨[], .inl ⟨rfl, rfl, rfl, rfl⟩, Nat.zero_le _⟩
    · simp [Value.cells] at hcs
      obtain ⟨rfl, rfl, rfl⟩ := hcs
      simp only [Prod.mk.injEq] at hx
      obtain ⟨rfl, rfl⟩ := hx
      have hzl : zs.length = cap1 := by simpa using hz
      have hs := sized_slice hsz (j := 1) (t := 22) (e := 5) rfl rfl Tryd.underlying22
      have hb : 1 ≤ Tryd.prog.bytesOf 5 := of_decide_eq_true (by kernel_rfl)
      have hr := reachBytes_lt
      refine ⟨zs, .inr ⟨_, rfl, hl, hm, hzl, hcell, hwz⟩, ?_⟩
      simp only [lits, List.length_map, List.length_take, List.length_drop] at hs
      have h3 := Nat.le_trans (Nat.le_mul_of_pos_right _ hb) hs
      unfold LIM
      omega
  obtain ⟨a2, len2, cap2, rfl⟩ := okWide_slice Tryd.underlying53 (hval 2 53 v2 rfl rfl)
  have k2 := h2
  have lt2 : ∀ x ∈ p2, x.block < W.heap.size := by obtain ⟨m, hm⟩ := k2; exact DataW.trod_lt m _ _ _ hm
  obtain ⟨z2, w2⟩ : ∃ xss : List (List Int), Rep W (fun b => b < W.heap.size) (.sl 1 (xss.map (D.ints .u8))) [.slice a2 len2 cap2] := by
    obtain ⟨fuel, hf⟩ := h2
    exact rows_in Tryd.underlying53 Tryd.underlying22 Tryd.underlying5 (by kernel_rfl) (by kernel_rfl) (of_decide_eq_true (by kernel_rfl)) (of_decide_eq_true (by kernel_rfl)) hf (weights_arg hsz (j := 2) (t := 53) rfl rfl)
  clear hA0 hval0
  have hgl := globOk hL
  refine (walk a0 a1 len1 cap1 z1 a2 len2 cap2 z2 W hgl w0 w1 L1 w2).mono fun e W' ⟨he, bel⟩ => ?_
  subst he
  exact ⟨_, rfl, _, _, _, [], _, [], hW', trodAll_mk1 (shut_bool Tryd.underlying4 _), (trodAll_cons_mk (shut_int Tryd.underlying3 w0) (trodAll_cons_mk (Below.trod laidOut (by kernel_rfl) (of_decide_eq_true (by kernel_rfl)) k1 bel lt1) (trodAll_cons_mk (Below.trod laidOut (by kernel_rfl) (of_decide_eq_true (by kernel_rfl)) k2 bel lt2) trodAll_mk0))), rfl, bel.frame _, fun h => by cases h⟩

theorem said : Rows.SealDigestsSaid :=
  OpenClaim.holds_of_cond 10 Tryd.f10 rfl rfl rfl rfl rfl rfl rfl ⟨rfl, rfl, rfl, rfl, rfl⟩ rfl rfl rfl rfl rfl (by kernel_rfl) Tryd.func10 (by kernel_rfl)
    (of_decide_eq_true (by kernel_rfl)) (by unfold Func.isWrapper; first | (rw [if_pos (by decide +kernel)]; kernel_rfl) | (rw [if_neg (by decide +kernel)]; exact ⟨rfl, rfl⟩))
    (fun os started H enc _ F => by rw [OpenClaim.pre_eq_preRow]; exact lifted os started H enc F)

/-- No parameter wants a stand-in; the program's own looks are off. -/
theorem plain (f : FuncId) (fn : Func) (hf : Tryd.pinned.checked.prog.funcNamed Rows.sealDigestsRow.func = some f) (hfn : Tryd.pinned.checked.prog.funcs[f]? = some fn) :
    false = Tryd.pinned.checked.prog.looks [] ∧ ∀ (j : Nat) t, fn.params[j]? = some t → Tryd.pinned.checked.prog.wantsStandIn t = false := by
  obtain rfl : f = 10 := Option.some.inj ((show Tryd.prog.funcNamed Rows.sealDigestsRow.func = some 10 by kernel_rfl).symm.trans hf) |>.symm
  obtain rfl : fn = Tryd.f10 := (Option.some.inj (Tryd.func10.symm.trans hfn)).symm
  refine ⟨by kernel_rfl, fun j t ht => ?_⟩
  rw [Tryd.params10] at ht
  have hm := Array.mem_of_getElem? ht
  simp only [List.mem_toArray, List.mem_cons, List.not_mem_nil, or_false] at hm
  have all : ∀ t ∈ [3, 22, 53], Tryd.prog.wantsStandIn t = false := by
    intro t h
    simp only [List.mem_cons, List.not_mem_nil, or_false] at h
    rcases h with rfl | rfl | rfl <;> kernel_rfl
  exact all t (by rcases hm with rfl | rfl | rfl <;> simp)

/-- THE CARD. -/
theorem card : Rows.SealDigestsCardSaid :=
  Claim7.holds_tied_plain_at .later [] _ _ _ _ said (fun _ h => by cases h) (by kernel_rfl) (fun _ h => by cases h) sealDigests_row_tie rfl ⟨rfl, rfl⟩ (by kernel_rfl) rfl plain (by kernel_rfl)
#print axioms card
end Go.Proofs.YtniaeiikdgbnfaaDoor.sealDigests
