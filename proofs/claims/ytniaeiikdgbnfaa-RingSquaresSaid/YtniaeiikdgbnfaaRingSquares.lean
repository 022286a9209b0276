/- The statement 'RingSquares': for every input it returns true, and each argument reads behind the call as it did before. No condition of its own. -/
import Derived.Test.YtniaeiikdgbnfaaRows
import Derived.Test.YtniaeiikdgbnfaaL7
import Derived.WalkKit
import Derived.ProofKit
import Derived.OpenShut
import Derived.ShutString
import Derived.ChangeOld
import Derived.SizedLaws
namespace Go.Proofs.Ytniaeiikdgbnfaa.ringSquares
open Go.ChangeShapes Go.WideShapes Go.ChangeAt Go.RowKit Go.Proofs.Ytniaeiikdgbnfaa.AW
open Go.ChangeMaps (open_string shut_string)
set_option linter.unusedVariables false

theorem own : ownKnob Try.prog.godebug = none := by kernel_rfl
theorem laidOut : laidOutB Try.prog = true := by kernel_rfl

/-- A slice of integers that came in. -/
def IsRow (k : IntKind) (w : World) (a : Option Addr) (len cap : Nat) (zs : List Int) : Prop :=
  (a = none ∧ len = 0 ∧ cap = 0 ∧ zs = []) ∨
  ∃ x, a = some x ∧ len ≤ cap ∧ cap ≤ maxLen ∧ zs.length = cap ∧ (∀ i, i < zs.length → w.cell? (x.add i) = some (.int k (zs.getD i 0))) ∧ ∀ n ∈ zs, (Lit.int k n).wf = true

theorem wf_wrap {k : IntKind} {n : Int} (h : (Lit.int k n).wf = true) : k.wrap n = n := by
  rw [wrap_in]
  cases k <;> simp [Lit.wf, IntKind.min, IntKind.max, loK, hiK, IntKind.bits, IntKind.signed] at h ⊢ <;> omega

theorem isRow_rep {k : IntKind} {w : World} {a : Option Addr} {len cap : Nat} {zs : List Int} (h : IsRow k w a len cap zs) (hl : len ≤ LIM) : Rep w (fun b => b < w.heap.size) (.ints k (zs.take len)) [.slice a len cap] := by
  simp only [Rep]
  rcases h with ⟨rfl, rfl, rfl, rfl⟩ | ⟨x, rfl, hlc, hm, hz, hcell, hwf⟩
  · exact ⟨none, 0, rfl, Nat.le_refl _, Nat.zero_le _, by simp, fun h => (h rfl).elim⟩
  · have hlen : (zs.take len).length = len := by rw [List.length_take]; omega
    refine ⟨some x, cap, by rw [hlen], by omega, by omega, fun z hz' => wf_wrap (hwf z (List.mem_of_mem_take hz')), fun hne => ?_⟩
    have h0 : 0 < len := by
      rcases Nat.eq_zero_or_pos len with h | h
      · subst h; exact (hne rfl).elim
      · exact h
    obtain ⟨b, off, spot⟩ := x
    have hspot : spot = none := by simpa [Addr.add] using World.cell?_spot (hcell 0 (by omega))
    subst hspot
    have hc : Cells w b off ((zs.take len).map (Value.int k)) := fun i v hi => by
      rw [List.getElem?_map, List.getElem?_take] at hi
      split at hi
      · rename_i hil
        rw [List.getElem?_eq_getElem (by omega)] at hi
        simp only [Option.map_some, Option.some.injEq] at hi
        subst hi
        have := hcell i (by omega)
        rw [List.getD_eq_getElem?_getD, List.getElem?_eq_getElem (by omega), addr_add] at this
        exact this
      · simp at hi
    refine ⟨b, off, rfl, ?_, hc⟩
    have := hcell 0 (by omega)
    unfold World.cell? at this
    cases hb : w.heap[b]? with
    | none => simp [Addr.add, hb] at this
    | some o => exact (Array.getElem?_eq_some_iff.1 hb).1

theorem call_of {f : FuncId} {args : List AVal} (h : Imm Try.prog f args (fun r => r = .d (.bool true))) {w : World} {vs : List Value} (hv : VAll w (fun _ => none) (fun b => b < w.heap.size) args vs) :
    Calls Try.prog f vs.toArray w fun e w' => e = .returned (.bool true) ∧ Below w.heap.size w w' := by
  refine (h.2 w (fun _ => none) (fun b => b < w.heap.size) vs ⟨fun _ _ h => by simp at h, by simp, fun _ _ _ _ h => by simp at h, fun b ⟨_, _, h, _⟩ => by simp at h, fun b hb => hb⟩ (fun _ _ => rfl) hv).mono fun e w' hh => ?_
  obtain ⟨v, st', nx', r, β', S', rfl, hf, hs, _, _, _, hr, _, _, rfl⟩ := hh
  simp only [VRel, Rep] at hr
  obtain ⟨cs, rfl, rfl⟩ := hr
  exact ⟨rfl, hf.os, hf.tape, hf.output, hf.size, fun b hb => hf.old b hb fun ⟨_, _, h, _⟩ => by simp at h⟩

theorem walk (a0 : Option Addr) (len0 cap0 : Nat) (z0 : List Int) (a1 : Option Addr) (len1 cap1 : Nat) (z1 : List Int) (a2 : Int) (w : World) (w0 : IsRow .u32 w a0 len0 cap0 z0) (L0 : len0 ≤ LIM) (w1 : IsRow .u32 w a1 len1 cap1 z1) (L1 : len1 ≤ LIM) (w2 : (Lit.int .i64 a2).wf = true) :
    Calls Try.prog 7 #[.slice a0 len0 cap0, .slice a1 len1 cap1, .int .i64 a2] w fun e w' => e = .returned (.bool true) ∧ Below w.heap.size w w' := by
  have hv : VAll w (fun _ => none) (fun b => b < w.heap.size) [.d (.ints .u32 (z0.take len0)), .d (.ints .u32 (z1.take len1)), .d (.int .i64 a2)] [.slice a0 len0 cap0, .slice a1 len1 cap1, .int .i64 a2] := by
    simp only [VAll, VRel]
    exact ⟨_, _, rfl, ⟨_, isRow_rep w0 L0, rfl⟩, ⟨_, _, rfl, ⟨_, isRow_rep w1 L1, rfl⟩, ⟨_, _, rfl, ⟨[.int .i64 a2], by unfold Rep; exact ⟨rfl, wf_wrap w2⟩, rfl⟩, rfl⟩⟩⟩
  exact call_of (Imm.learn ⟨_, Try.func7, rfl, by decide⟩ fun hk => R.f7 _ _ _ (R.wfl_known hk.1) (R.wfl_known hk.2.1)) hv

set_option maxRecDepth 100000 in
theorem lifted (os : Os) (started : os.Started) (H : Type) (enc : TypeId × Value → H) :
    ReturnsInHanded {} Try.checked os 7 .any (Rows.ringSquaresSpec.pre6 enc Try.prog Try.f7 Rows.ringSquaresRow.domain false) (Rows.ringSquaresSpec.post enc Try.prog Try.f7 false true false false) := by
  refine returnsInHanded_of_change_sized (C := Try.checked) own started (by kernel_rfl) Try.func7
    (ChangeSpec.witness6 (enc := enc) (C := Try.checked) false ⟨#[], #[.slice none 0 0, .slice none 0 0, .int .i64 0], []⟩ 8 (by kernel_rfl) (by kernel_rfl) (by kernel_rfl) (by kernel_rfl)) ?_
  intro W base args ds gs before hval0 hW hcnd hsz _
  have hval : ∀ (j : Nat) t v, Try.f7.params[j]? = some t → args[j]? = some v → Value.okWide Try.prog W .any base t v := hval0
  have hW' := hW
  obtain ⟨p, q, hA0, hV, rfl, hfz, hnd⟩ := hW
  have hA : DataW.TrodAll enc Try.prog W 0 (fun _ => true) true Try.f7.params.toList args.toList ds p := hA0
  rw [Try.params7] at hA hval hsz
  obtain ⟨v0, vs0, d0, ds0, p0, q0, hargs, rfl, rfl, h0, r0⟩ := trodAll_cons hA
  obtain ⟨v1, vs1, d1, ds1, p1, q1, rfl, rfl, rfl, h1, r1⟩ := trodAll_cons r0
  obtain ⟨v2, vs2, d2, ds2, p2, q2, rfl, rfl, rfl, h2, r2⟩ := trodAll_cons r1
  obtain ⟨rfl, rfl, rfl⟩ := trodAll_nil r2
  obtain rfl : args = #[v0, v1, v2] := by cases args; simp_all
  obtain ⟨rfl, rfl⟩ := trodVars_none hV
  obtain ⟨a0, len0, cap0, rfl⟩ := okWide_slice Try.underlying23 (hval 0 23 v0 rfl rfl)
  have k0 := h0
  have lt0 : ∀ x ∈ p0, x.block < W.heap.size := by obtain ⟨m, hm⟩ := k0; exact DataW.trod_lt m _ _ _ hm
  obtain ⟨z0, w0, L0⟩ : ∃ zs, IsRow .u32 W a0 len0 cap0 zs ∧ len0 ≤ LIM := by
    obtain ⟨fuel, hf⟩ := h0
    rcases open_ints Try.underlying23 Try.underlying31 (by kernel_rfl) hf with ⟨hcs, _⟩ | ⟨x, l, c, zs, hcs, _, hl, hm, hz, hx, hcell, hwz⟩
    · simp [Value.cells] at hcs
      obtain ⟨rfl, rfl, rfl⟩ := hcs
      exact ⟨[], .inl ⟨rfl, rfl, rfl, rfl⟩, Nat.zero_le _⟩
    · simp [Value.cells] at hcs
      obtain ⟨rfl, rfl, rfl⟩ := hcs
      simp only [Prod.mk.injEq] at hx
      obtain ⟨rfl, rfl⟩ := hx
      have hzl : zs.length = cap0 := by simpa using hz
      have hs := sized_slice hsz (j := 0) (t := 23) (e := 31) rfl rfl Try.underlying23
      have hb : 1 ≤ Try.prog.bytesOf 31 := of_decide_eq_true (by kernel_rfl)
      have hr := reachBytes_lt
      refine ⟨zs, .inr ⟨_, rfl, hl, hm, hzl, hcell, hwz⟩, ?_⟩
      simp only [lits, List.length_map, List.length_take, List.length_drop] at hs
      have h3 := Nat.le_trans (Nat.le_mul_of_pos_right _ hb) hs
      unfold LIM
      omega
  obtain ⟨a1, len1, cap1, rfl⟩ := okWide_slice Try.underlying23 (hval 1 23 v1 rfl rfl)
  have k1 := h1
  have lt1 : ∀ x ∈ p1, x.block < W.heap.size := by obtain ⟨m, hm⟩ := k1; exact DataW.trod_lt m _ _ _ hm
  obtain ⟨z1, w1, L1⟩ : ∃ zs, IsRow .u32 W a1 len1 cap1 zs ∧ len1 ≤ LIM := by
    obtain ⟨fuel, hf⟩ := h1
    rcases open_ints Try.underlying23 Try.underlying31 (by kernel_rfl) hf with ⟨hcs, _⟩ | ⟨x, l, c, zs, hcs, _, hl, hm, hz, hx, hcell, hwz⟩
    · simp [Value.cells] at hcs
      obtain ⟨rfl, rfl, rfl⟩ := hcs
      exact ⟨[], .inl ⟨rfl, rfl, rfl, rfl⟩, Nat.zero_le _⟩
    · simp [Value.cells] at hcs
      obtain ⟨rfl, rfl, rfl⟩ := hcs
      simp only [Prod.mk.injEq] at hx
      obtain ⟨rfl, rfl⟩ := hx
      have hzl : zs.length = cap1 := by simpa using hz
      have hs := sized_slice hsz (j := 1) (t := 23) (e := 31) rfl rfl Try.underlying23
      have hb : 1 ≤ Try.prog.bytesOf 31 := of_decide_eq_true (by kernel_rfl)
      have hr := reachBytes_lt
      refine ⟨zs, .inr ⟨_, rfl, hl, hm, hzl, hcell, hwz⟩, ?_⟩
      simp only [lits, List.length_map, List.length_take, List.length_drop] at hs
      have h3 := Nat.le_trans (Nat.le_mul_of_pos_right _ hb) hs
      unfold LIM
      omega
  obtain ⟨a2, rfl, rfl, rfl, w2⟩ := open_int Try.underlying3 (hval 2 3 v2 rfl rfl) h2
  clear hA0 hval0
  refine (walk a0 len0 cap0 z0 a1 len1 cap1 z1 a2 W w0 L0 w1 L1 w2).mono fun e W' ⟨he, bel⟩ => ?_
  subst he
  exact ⟨_, rfl, _, _, _, [], _, [], hW', trodAll_mk1 (shut_bool Try.underlying4 _), (trodAll_cons_mk (Below.trod laidOut (by kernel_rfl) (of_decide_eq_true (by kernel_rfl)) k0 bel lt0) (trodAll_cons_mk (Below.trod laidOut (by kernel_rfl) (of_decide_eq_true (by kernel_rfl)) k1 bel lt1) (trodAll_cons_mk (shut_int Try.underlying3 w2) trodAll_mk0))), rfl, bel.frame _, fun h => by cases h⟩

theorem over : Rows.ringSquaresRow.holds Try.pinned (OpenSpec.ofChange Rows.ringSquaresSpec) :=
  OpenClaim.holds_of_wide 7 Try.f7 rfl rfl rfl rfl rfl rfl rfl ⟨rfl, rfl, rfl, rfl, rfl⟩ rfl rfl rfl rfl rfl (by kernel_rfl) Try.func7 (by kernel_rfl)
    (of_decide_eq_true (by kernel_rfl)) (by unfold Func.isWrapper; first | (rw [if_pos (by decide +kernel)]; kernel_rfl) | (rw [if_neg (by decide +kernel)]; exact ⟨rfl, rfl⟩))
    (fun os started H enc _ => lifted os started H enc)

theorem holds : Rows.RingSquaresSaid := over
#print axioms holds
end Go.Proofs.Ytniaeiikdgbnfaa.ringSquares
