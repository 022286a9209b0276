/- Parts AW26, AW27, AW28, AW29, AW30, AW31, AW32, AW33, AW34, AW35, AW36, AW37. No condition of its own. -/
import Derived.Test.YtniaeiikdgbnfaaDoorSD5
import Derived.Maps.AppendAt
import Derived.Laws.Externs
import GoSem.Extern.BytealgMakeNoZero

namespace Go.Proofs.YtniaeiikdgbnfaaDoor.AW
open Go Go.RowKit
set_option linter.unusedSectionVars false
variable [Globs]

def pend : Exit → Option Code
  | .ret => some .ret
  | .exit id => some (.exit id)
  | _ => none

section
variable {P : Program} {C : Ctx} {s : AState} {T : Told} {β : Nat → Option Value} {S : Nat → Prop} {a : Act} {w : World}

theorem grown_put (W : World) (l : Nat) (o : Obj) : W.grownBy (W.putObj l o) (some l) :=
  ⟨rfl, rfl, rfl, by simp, fun k _ hk => World.putObj_heap_other (fun e => hk (by rw [e]))⟩

theorem not_owned_of {st : List (Nat × Ob)} (h : SRel w β S st) {l : Nat} {o : Obj} (hl : w.heap[l]? = some o) (ho : ∀ cs t f, o ≠ .cells cs t f) : ¬ Owned β st l := fun hb => by
  obtain ⟨cs, t, hc⟩ := h.cells hb
  rw [hl] at hc
  injection hc with hc
  exact ho _ _ _ hc

/-- THE LAW. -/
theorem AWp.rangeFunc {ι : Type} {g : Operand} {ps : Array Tmp} {assign body : Code} {Q : Exit → AState → Prop} (T : Told) {gf : FuncId} {caps : List D} {n : Nat} {es : Nat → List D} (hit : AIter P gf caps n es)
    (sl : List (Nat × AVal)) (st : ι → List (Nat × Ob)) (n0 nx p : Nat) (φ : Nat → ι → Prop) (χ : Exit → ι → Prop)
    (hrd : C.rd = none) (hgc : constOk P 0 g) (hg : aev P s 0 g = .d (.fn gf caps)) (hes : ∀ k, k < n → (es k).length = ps.size) (hps : ps.toList.all (fun t => decide (t < n0)) = true) (hnd : nodupB ps.toList = true)
    (hp : C.m ≤ p) (hpx : p ≤ nx) (hsl : belowS p sl = true) (h0 : ∃ i l, l.length = nx ∧ φ 0 i ∧ Wk C.m s n0 sl (st i) l)
    (round : ∀ k i, k < n → φ k i → ∀ w0 S0 E0 B0 r, awp P ⟨w0, S0, E0, p, B0, some r⟩ T assign ⟨n0, frL (ps.toList.zip ((es k).map .d) ++ sl), st i, nx⟩
      (thenQ (fun s1 => ∀ w0 S0 E0 B0, awp P ⟨w0, S0, E0, p, B0, some r⟩ T body s1 (roundQ p nx st (φ (k + 1)) χ)) fun _ _ => False))
    (done : ∀ i, φ n i → Q .normal ⟨n0, frL sl, st i, nx⟩) (hret : ∀ i, χ .ret i → Q .ret ⟨n0, frL sl, st i, nx⟩) (hexit : ∀ id i, χ (.exit id) i → Q (.exit id) ⟨n0, frL sl, st i, nx⟩) :
    AWp P C (.rangeFunc g ps assign body) s Q := by
  refine ⟨fun a w ⟨β0, S, h⟩ => ?_⟩
  obtain ⟨i0, l0, hl0, hφ0, hw⟩ := h0
  obtain ⟨β, hB⟩ : ∃ β, ARelB C ⟨n0, frL sl, st i0, nx⟩ β S a w := ⟨_, by have := hw.relB h; rwa [hl0] at this⟩
  have hgv := aev_rel h hgc
  rw [hg] at hgv
  simp only [VRel, Rep] at hgv
  obtain ⟨cs, ⟨lb, rfl, hlb⟩, hgv⟩ := hgv
  replace hgv : a.eval g = .func (.func gf) #[] lb := hgv
  obtain ⟨enc, henc, hiter⟩ := hit.run w S lb hlb
  have hencs : ∀ k, k < n → (enc k).size = ps.size := fun k hk => by
    have := VAll.length _ _ (henc k hk)
    simpa [hes k hk] using this
  have hpl : ∀ t ∈ ps.toList, t < n0 := fun t ht => by simpa using List.all_eq_true.1 hps t ht
  rw [hrd]
  obtain ⟨CL, hCL⟩ : ∃ CL : Ctx, CL = ⟨w, S, Owned β (st i0), p, β, none⟩ := ⟨_, rfl⟩
  have hBL : ARelB CL ⟨n0, frL sl, st i0, nx⟩ β S { tmps := a.tmps, defers := [] } w := by
    rw [hCL]
    exact ⟨hB.fr, hB.size, hB.st, ⟨Nat.le_refl _, rfl, rfl, rfl, fun _ _ _ => rfl, fun b hb => .inl hb, fun b hb => .inl hb⟩, hB.nx, ⟨fun d hd => by simp at hd, by simp, fun _ => rfl⟩, fun _ _ => rfl, hpx⟩
  have hm : CL.m = p := by rw [hCL]
  have hw0 : CL.w0 = w := by rw [hCL]
  refine wpIn_rangeFunc fun fn hfn => ?_
  obtain ⟨rc, hrc⟩ : ∃ rc : LoopState → Option Code → Loop, rc = fun st pe => { state := st, pending := pe, fn, tmps := a.tmps, params := ps, assign, body, defers := w.heap.size } := ⟨_, rfl⟩
  obtain ⟨W1, hW1⟩ : ∃ W1, (w.alloc (.deferred (some []))).alloc (.loop (rc .ready none)) = W1 := ⟨_, rfl⟩
  have hL1 : W1.heap[w.heap.size + 1]? = some (.loop (rc .ready none)) := by
    rw [← hW1]; have := World.alloc_heap_new (w.alloc (.deferred (some []))) (.loop (rc .ready none)); rwa [World.size_alloc] at this
  have hK1 : W1.heap[w.heap.size]? = some (.deferred (some [])) := by
    rw [← hW1]; exact (Below.heap_alloc _ _ _ (by simp)).trans (World.alloc_heap_new w _)
  have hSlt : ∀ b, S b → b < w.heap.size := hB.st.inS
  have hIn1 : InLoop CL n0 nx sl (st i0) a.tmps w.heap.size (w.heap.size + 1) S (rc .ready none) W1 := by
    refine ⟨β, S, hL1, hK1, fun hs => ?_, fun hs => ?_, fun _ h => h, ?_⟩
    · have := hSlt _ hs; omega
    · have := hSlt _ hs; omega
    · rw [← hW1]; exact (hBL.grown (grown_alloc _ _) (by simp)).grown (grown_alloc _ _) (by simp)
  refine ⟨w.heap.size + 1, [{ target := .collected w.heap.size, args := #[] }], W1, { target := .fn (.func gf) lb, args := #[.func (.yield (w.heap.size + 1)) #[] #[]] }, W1, gf,
    #[.func (.yield (w.heap.size + 1)) #[] #[]] ++ lb, W1, ?_, ?_, fun _ _ => trivial, ?_, fun h => by simp [fence, Fence.wide] at h, ?_⟩
  · rw [← hW1, hrc]; exact run_enterLoop_outer _ _ _ _ _
  · simp only [resolve, hgv]
    simp [go_sem]
  · simp [invoke, go_sem, callFunc_enters hit.enters]
  refine callsIn_fence.2 (Calls.mono (hiter (w.heap.size + 1) (fun k W => ∃ i, φ k i ∧ InLoop CL n0 nx sl (st i) a.tmps w.heap.size (w.heap.size + 1) S (rc .ready none) W)
    (fun W => ∃ e c i, pend e = some c ∧ χ e i ∧ InLoop CL n0 nx sl (st i) a.tmps w.heap.size (w.heap.size + 1) S (rc .done (some c)) W) W1
    (fun k W W' ⟨i, h1, h2⟩ hg => ⟨i, h1, h2.grown hg⟩) (fun W W' ⟨e, c, i, h1, h2, h3⟩ hg => ⟨e, c, i, h1, h2, h3.grown hg⟩) ?_ ?_ ⟨i0, hφ0, hIn1⟩) ?_)
  · rintro k W ⟨i, h1, h2⟩ b hb
    obtain ⟨β', S', _, _, _, _, _, h6⟩ := h2.out
    have := h6.frame.old b (by rw [hw0]; exact hSlt b hb) (by rw [hCL]; exact fun ho => (hB.st.own b ho).1 hb)
    rw [hw0] at this
    exact this
  · -- one round
    rintro k W hk ⟨i, hφ, hin⟩
    obtain ⟨β1, S1, hl, hD, hnD, hnl, hSS, h1⟩ := hin.out
    have hllt : w.heap.size + 1 < W.heap.size := (Array.getElem?_eq_some_iff.1 hl).1
    have hDlt : w.heap.size < W.heap.size := (Array.getElem?_eq_some_iff.1 hD).1
    refine ⟨fn, _, assign, body, by have := run_yield (P := P) (args := enc k) hl (by rw [hrc]; exact hencs k hk); rw [hrc] at this; exact this, roundIn_of_wpIn hfn ?_⟩
    have hno1 : ¬ Owned β1 (st i) (w.heap.size + 1) := not_owned_of h1.st hl (by simp)
    have hnoD1 : ¬ Owned β1 (st i) w.heap.size := not_owned_of h1.st hD (by simp)
    have hencW : VAll W β1 S1 ((es k).map .d) (enc k).toList := by
      refine VAll.keep (fun b hb => ⟨hSS b hb, ?_⟩) (fun j u e => by cases e) _ _ (henc k hk)
      have := h1.frame.old b (by rw [hw0]; exact hSlt b hb) (by rw [hCL]; exact fun ho => (hB.st.own b ho).1 hb)
      rw [hw0] at this
      exact this
    have hsz : a.tmps.size = n0 := hB.size
    have hA : ARelB ⟨W, S1, Owned β1 (st i), p, β1, some (w.heap.size + 1)⟩ ⟨n0, frL (ps.toList.zip ((es k).map .d) ++ sl), st i, nx⟩ β1 S1
        { tmps := (ps.zip (enc k)).foldl (fun t (p, v) => t.setIfInBounds p v) a.tmps, defers := [] } W := by
      have e : (ps.zip (enc k)).foldl (fun t (x : Tmp × Value) => t.setIfInBounds x.1 x.2) a.tmps = (ps.toList.zip (enc k).toList).foldl (fun t (x : Tmp × Value) => t.setIfInBounds x.1 x.2) a.tmps := by
        rw [← Array.foldl_toList, Array.toList_zip]
      refine ⟨fun t => ?_, ?_, h1.st, ⟨Nat.le_refl _, rfl, rfl, rfl, fun _ _ _ => rfl, fun b hb => .inl hb, fun b hb => .inl hb⟩, h1.nx, ⟨fun d hd => by simp at hd, by simp, fun _ => rfl⟩, fun _ _ => rfl, hpx⟩
      · show VRel W β1 S1 _ (((ps.zip (enc k)).foldl (fun t (x : Tmp × Value) => t.setIfInBounds x.1 x.2) a.tmps).getD t undef)
        rw [e]
        exact frL_params (nodupB_spec hnd) (fun t ht => by rw [hsz]; exact hpl t ht) (by simp [hes k hk]) hencW h1.fr t
      · show ((ps.zip (enc k)).foldl (fun t (x : Tmp × Value) => t.setIfInBounds x.1 x.2) a.tmps).size = n0
        rw [e, foldl_size]; exact hsz
    refine wpIn_mono (awp_sound (C := ⟨W, S1, Owned β1 (st i), p, β1, some (w.heap.size + 1)⟩) assign ⟨β1, S1, hA⟩ (round k i hk hφ _ _ _ _ _)) ?_
    rintro e a1 W2 ⟨s1, ⟨β2, S2, h2⟩, hq⟩
    cases e <;> simp only [thenQ] at hq
    have h12 := h1.seg (by rw [hm]; exact Nat.le_refl _) (belowS_fr hsl) h2
    have hl2 : W2.heap[w.heap.size + 1]? = some (.loop (rc .ready none)) := (h2.frame.old _ hllt hno1).trans hl
    have hD2 : W2.heap[w.heap.size]? = some (.deferred (some [])) := (h2.frame.old _ hDlt hnoD1).trans hD
    have nS2 : ∀ b, b < W.heap.size → ¬ Owned β1 (st i) b → ¬ S1 b → ¬ (S1 b ∨ S2 b) := fun b hb ho hs hh => by
      rcases hh with hh | hh
      · exact hs hh
      · rcases h2.frame.inS b hh with h | h | h
        · exact hs h
        · exact ho h
        · simp only at h; omega
    have hnl2 := nS2 _ hllt hno1 hnl
    have hnD2 := nS2 _ hDlt hnoD1 hnD
    have hno2 : ¬ Owned β2 s1.st (w.heap.size + 1) := not_owned_of h2.st hl2 (by simp)
    refine ⟨_, run_beginRound hl2 (by rw [hrc]), ?_⟩
    obtain ⟨W3, hW3⟩ : ∃ W3, W2.putObj (w.heap.size + 1) (.loop { rc .ready none with state := .busy }) = W3 := ⟨_, rfl⟩
    rw [hW3]
    have hl3 : W3.heap[w.heap.size + 1]? = some (.loop { rc .ready none with state := .busy }) := by rw [← hW3]; exact World.putObj_heap_same (Array.getElem?_eq_some_iff.1 hl2).1
    have hD3 : W3.heap[w.heap.size]? = some (.deferred (some [])) := by rw [← hW3]; exact (World.putObj_heap_other (by omega)).trans hD2
    have h3 : ARelB CL ⟨n0, frL sl, s1.st, s1.nx⟩ β2 (fun b => S1 b ∨ S2 b) { tmps := a.tmps, defers := [] } W3 := by
      rw [← hW3]
      exact h12.grown (grown_put _ _ _) fun g e => by cases e; exact ⟨hnl2, hno2, by rw [hw0]; omega, rfl⟩
    have h2' : ARelB ⟨W3, (fun b => S1 b ∨ S2 b), Owned β2 s1.st, p, β2, some (w.heap.size + 1)⟩ s1 β2 (fun b => S1 b ∨ S2 b) a1 W3 := by
      have hd := h2.defers.2.2 (by simp)
      refine ⟨fun t => VRel.keep (fun b hb => ⟨.inr hb, ?_⟩) (fun _ _ e => e) _ _ (h2.fr t), h2.size, h3.st, ⟨Nat.le_refl _, rfl, rfl, rfl, fun _ _ _ => rfl, fun b hb => .inl hb, fun b hb => .inl hb⟩, h2.nx, ⟨fun d hd' => by rw [hd] at hd'; simp at hd', by rw [hd]; simp, fun _ => hd⟩, fun _ _ => rfl, h2.nxm⟩
      rw [← hW3]
      exact World.putObj_heap_other fun e => hnl2 (.inr (e ▸ hb))
    refine wpIn_mono (awp_sound (C := ⟨W3, (fun b => S1 b ∨ S2 b), Owned β2 s1.st, p, β2, some (w.heap.size + 1)⟩) body ⟨β2, _, h2'⟩ (hq _ _ _ _)) ?_
    rintro e a3 W4 ⟨s3, ⟨β3, S3, h4⟩, hq4⟩
    have h34 := h3.seg (by rw [hm]; exact Nat.le_refl _) (belowS_fr hsl) h4
    have hl3lt : w.heap.size + 1 < W3.heap.size := (Array.getElem?_eq_some_iff.1 hl3).1
    have hno3 : ¬ Owned β2 s1.st (w.heap.size + 1) := hno2
    have hnoD3 : ¬ Owned β2 s1.st w.heap.size := not_owned_of h2.st hD2 (by simp)
    have hl4 : W4.heap[w.heap.size + 1]? = some (.loop { rc .ready none with state := .busy }) := (h4.frame.old _ hl3lt hno3).trans hl3
    have hD4 : W4.heap[w.heap.size]? = some (.deferred (some [])) := (h4.frame.old _ (by simp only; omega) hnoD3).trans hD3
    have nS4 : ∀ b, b < W3.heap.size → ¬ Owned β2 s1.st b → ¬ (S1 b ∨ S2 b) → ¬ ((S1 b ∨ S2 b) ∨ S3 b) := fun b hb ho hs hh => by
      rcases hh with hh | hh
      · exact hs hh
      · rcases h4.frame.inS b hh with h | h | h
        · exact hs h
        · exact ho h
        · simp only at h; omega
    have hnl4 := nS4 _ hl3lt hno3 hnl2
    have hnD4 := nS4 _ (by omega) hnoD3 hnD2
    have hno4 : ¬ Owned β3 s3.st (w.heap.size + 1) := not_owned_of h4.st hl4 (by simp)
    have fin : ∀ (jump : Option Code) (φ' : ι → Prop), OutR p nx st φ' s3 → ∃ i', φ' i' ∧
        (Instr.endRound (w.heap.size + 1) jump).run P W4 = .ok (.bool jump.isNone) (W4.putObj (w.heap.size + 1) (.loop (rc (if jump.isNone then .ready else .done) jump))) ∧
        InLoop CL n0 nx sl (st i') a.tmps w.heap.size (w.heap.size + 1) S (rc (if jump.isNone then .ready else .done) jump) (W4.putObj (w.heap.size + 1) (.loop (rc (if jump.isNone then .ready else .done) jump))) := fun jump φ' ⟨i', l', hl', hφ', hok, hst⟩ => by
      refine ⟨i', hφ', ?_, ?_⟩
      · have := run_endRound (P := P) jump hl4
        rw [hrc] at this ⊢
        exact this
      · have h5 := h34.grown (grown_put W4 (w.heap.size + 1) (.loop (rc (if jump.isNone then .ready else .done) jump))) fun g e => by cases e; exact ⟨hnl4, hno4, by rw [hw0]; omega, rfl⟩
        have h6 := h5.ren (l := l') (st := st i') (fr := frL sl) (by rw [hm]; exact hok) hst fun t => by
          refine VRel.keep (fun b hb => ⟨hb, rfl⟩) (fun j u e => ?_) _ _ (belowV_rel _ _ (belowS_fr hsl t) (h5.fr t))
          unfold cut at e
          split at e
          · rename_i hj
            have hpin := (wkB_spec hok).2.2.1 j hj
            have e2 : rho l' s3.nx j = j := by unfold rho; rw [hpin]
            show β3 (rho l' s3.nx j) = some u
            rw [e2]; exact e
          · cases e
        rw [hl'] at h6
        refine ⟨_, _, World.putObj_heap_same (Array.getElem?_eq_some_iff.1 hl4).1, (World.putObj_heap_other (by omega)).trans hD4, hnD4, hnl4, fun b hb => .inl (.inl (hSS b hb)), h6⟩
    cases e <;> simp only [roundQ] at hq4
    case normal =>
      obtain ⟨i', h7, h8, h9⟩ := fin none _ hq4
      exact ⟨_, _, h8, .inl ⟨rfl, i', h7, h9⟩⟩
    case ret =>
      obtain ⟨i', h7, h8, h9⟩ := fin (some .ret) _ hq4
      exact ⟨_, _, h8, .inr ⟨rfl, .ret, .ret, i', rfl, h7, h9⟩⟩
    case exit id =>
      obtain ⟨i', h7, h8, h9⟩ := fin (some (.exit id)) _ hq4
      exact ⟨_, _, h8, .inr ⟨rfl, .exit id, .exit id, i', rfl, h7, h9⟩⟩
  · -- behind the iterator
    have fin : ∀ (i : ι) (r : Loop) (W : World) (o : Obj), InLoop CL n0 nx sl (st i) a.tmps w.heap.size (w.heap.size + 1) S r W →
        ARel C ⟨n0, frL sl, st i, nx⟩ { a with defers := [{ target := .collected w.heap.size, args := #[] }] ++ a.defers } (W.putObj (w.heap.size + 1) o) := fun i r W o hin => by
      obtain ⟨β', S', hl, hD, hnD, hnl, hSS, h1⟩ := hin.out
      have hno : ¬ Owned β' (st i) (w.heap.size + 1) := not_owned_of h1.st hl (by simp)
      have h5 := h1.grown (grown_put W (w.heap.size + 1) o) fun g e => by cases e; exact ⟨hnl, hno, by rw [hw0]; omega, rfl⟩
      rw [hCL] at h5
      have h6 := hB.seg hp (belowS_fr hsl) h5
      refine ⟨β', _, h6.fr, h6.size, h6.st, h6.frame, h6.nx, ⟨fun d hd => ?_, ?_, fun hr => (hr hrd).elim⟩, h6.pin, h6.nxm⟩
      · rcases List.mem_append.1 hd with hd | hd
        · simp only [List.mem_singleton] at hd
          subst hd
          refine ⟨_, rfl, (World.putObj_heap_other (by omega)).trans hD, fun hs => ?_, hB.frame.size⟩
          rcases hs with hs | hs
          · have := hSlt _ hs; omega
          · exact hnD hs
        · exact h6.defers.1 d hd
      · simp only [List.singleton_append, List.nodup_cons]
        refine ⟨fun hm => ?_, h6.defers.2.1⟩
        obtain ⟨D, e, hD', _⟩ := hB.defers.1 _ hm
        have : D = w.heap.size := by simpa using e.symm
        subst this
        have := (Array.getElem?_eq_some_iff.1 hD').1
        omega
    rintro e W ⟨⟨v, rfl⟩, (⟨i, hφ, hin⟩ | ⟨e, c, i, hc, hχ, hin⟩)⟩
    · obtain ⟨_, _, hl, _⟩ := hin.out
      exact ⟨none, _, by have := run_endLoop (P := P) hl (by rw [hrc]; simp); rw [hrc] at this; exact this, _, fin i _ _ _ hin, done i hφ⟩
    · obtain ⟨_, _, hl, _⟩ := hin.out
      refine ⟨some c, _, by have := run_endLoop (P := P) hl (by rw [hrc]; simp); rw [hrc] at this; exact this, ?_⟩
      cases e <;> simp only [pend] at hc <;> first | (cases hc; done) | skip
      · injection hc with hc; subst hc
        exact wpIn_exit ⟨_, fin i _ _ _ hin, hexit _ i hχ⟩
      · injection hc with hc; subst hc
        exact wpIn_ret ⟨_, fin i _ _ _ hin, hret i hχ⟩

end

section
variable {P : Program} {b : Frame} {a : Act} {k : List Item} {cs : List Frame} {w : World} {F : Fence} {n : Nat} {Q : Exit → Act → World → Prop}

theorem stepR_scope' {c : Code} : step P (lone (b.atR a (.code (.scope c) :: k)) cs w) = .next (lone (b.atR a (.code c :: .inScope c :: k)) cs w) :=
  step_lone_go (by simp [stepG, stepG.exec, Frame.atR])
theorem stepR_inScope' {c : Code} : step P (lone (b.atR a (.inScope c :: k)) cs w) = .next (lone (b.atR a k) cs w) :=
  step_lone_go (by simp [stepG, stepG.exec, Frame.atR])

def gotoPost (L : Nat) (N : Act → World → Prop) (Q : Exit → Act → World → Prop) : Exit → Act → World → Prop
  | .goto l, a, w => l = L ∧ N a w
  | .normal, a, w => Q .normal a w
  | .exit i, a, w => Q (.exit i) a w
  | .ret, a, w => Q .ret a w
  | .panic c, a, w => Q (.panic c) a w
  | .outgrown, a, w => Q .outgrown a w

theorem wpIn_scope {c rest : Code} {L : Nat} (hf : findLabel c L = some rest) (I : Nat → Act → World → Prop) (h0 : c.wpIn F n P (gotoPost L (fun a w => ∃ m, I m a w) Q) a w)
    (round : ∀ m a w, I m a w → rest.wpIn F n P (gotoPost L (fun a w => ∃ m', m' < m ∧ I m' a w) Q) a w) : (Code.scope c).wpIn F n P Q a w := by
  intro b k cs hro hb hr
  have fin : ∀ {M : Machine} {e : Exit} {a1 : Act} {w1 : World} {N : Act → World → Prop}, gotoPost L N Q e a1 w1 → ArrivesIn (Machine.fenced P F) P M b (.inScope c :: k) cs e a1 w1 →
      (Q e a1 w1 ∧ ArrivesIn (Machine.fenced P F) P M b k cs e a1 w1) ∨ (N a1 w1 ∧ StepsIn (Machine.fenced P F) P M (lone (b.atR a1 (.code rest :: .inScope c :: k)) cs w1)) := fun {M e a1 w1 N} hq harr => by
    cases e with
    | normal => exact .inl ⟨hq, StepsIn.trans harr (.one (fenced_calm (n := n) hb hr rfl) stepR_inScope')⟩
    | exit id => exact .inl ⟨hq, fun k' hk => harr.1 k' (by simpa [exitTo] using hk), fun hr' hk => harr.2 hr' (by simpa [exitTo] using hk)⟩
    | goto l =>
      obtain ⟨rfl, hN⟩ := hq
      exact .inr ⟨hN, harr.1 _ (by simp [gotoIn, hf])⟩
    | ret => exact .inl ⟨hq, harr⟩
    | panic ch => exact .inl ⟨hq, harr⟩
    | outgrown => exact .inl ⟨hq, harr⟩
  have key : ∀ m a w, I m a w → ∃ e a' w', Q e a' w' ∧ ArrivesIn (Machine.fenced P F) P (lone (b.atR a (.code rest :: .inScope c :: k)) cs w) b k cs e a' w' := by
    intro m
    induction m using Nat.strongRecOn with
    | _ m ih =>
      intro a w hI
      obtain ⟨e, a1, w1, hq, harr⟩ := round m a w hI b (.inScope c :: k) cs hro hb hr
      rcases fin hq harr with ⟨h1, h2⟩ | ⟨⟨m', hlt, hI'⟩, hs⟩
      · exact ⟨e, a1, w1, h1, h2⟩
      · obtain ⟨e2, a2, w2, hq2, harr2⟩ := ih m' hlt a1 w1 hI'
        exact ⟨e2, a2, w2, hq2, .of_steps hs harr2⟩
  have hs0 : StepsIn (Machine.fenced P F) P (lone (b.atR a (.code (.scope c) :: k)) cs w) (lone (b.atR a (.code c :: .inScope c :: k)) cs w) := .one (fenced_calm (n := n) hb hr rfl) stepR_scope'
  obtain ⟨e, a1, w1, hq, harr⟩ := h0 b (.inScope c :: k) cs hro hb hr
  rcases fin hq harr with ⟨h1, h2⟩ | ⟨⟨m', hI'⟩, hs⟩
  · exact ⟨e, a1, w1, h1, .of_steps hs0 h2⟩
  · obtain ⟨e2, a2, w2, hq2, harr2⟩ := key m' a1 w1 hI'
    exact ⟨e2, a2, w2, hq2, .of_steps hs0 (.of_steps hs harr2)⟩
end

/-- The end of a stretch within a scope. -/
def scopeQ (L : Nat) (N : AState → Prop) (Q : Exit → AState → Prop) : Exit → AState → Prop
  | .goto l, s => (l == L) = true ∧ N s
  | .normal, s => Q .normal s
  | .exit i, s => Q (.exit i) s
  | .ret, s => Q .ret s
  | .panic c, s => Q (.panic c) s
  | .outgrown, s => Q .outgrown s

structure Begin {ι : Type} (m n nx : Nat) (sl : ι → List (Nat × AVal)) (st : ι → List (Nat × Ob)) (φ : ι → Prop) (s' : AState) : Prop where
  out : ∃ i' l, φ i' ∧ l.length = nx ∧ Wk m s' n (sl i') (st i') l

section
variable {P : Program} {C : Ctx} {s : AState} {T : Told}

/-- A SCOPE WITH ONE LABEL, to which one jumps back. -/
theorem AWp.scope {ι : Type} {c rest : Code} {L : Nat} {Q : Exit → AState → Prop} (hf : findLabel c L = some rest) (sl : ι → List (Nat × AVal)) (st : ι → List (Nat × Ob)) (n0 nx : Nat) (μ : ι → Nat) (φ : ι → Prop)
    (start : awp P C T c s (scopeQ L (Begin C.m n0 nx sl st φ) Q))
    (round : ∀ i, φ i → awp P C T rest ⟨n0, frL (sl i), st i, nx⟩ (scopeQ L (Again C.m n0 nx sl st (μ i) μ φ) Q)) : AWp P C (.scope c) s Q := by
  refine ⟨fun a w h => ?_⟩
  have conv : ∀ {N : AState → Prop} {N' : Act → World → Prop} {e : Exit} {a' : Act} {w' : World} {s' : AState}, (∀ s a w, ARel C s a w → N s → N' a w) → ARel C s' a' w' → scopeQ L N Q e s' →
      gotoPost L N' (fun e a' w' => ∃ s', ARel C s' a' w' ∧ Q e s') e a' w' := fun {N N' e a' w' s'} hN hr hq => by
    cases e <;> simp only [scopeQ] at hq
    case goto l => exact ⟨by simpa using hq.1, hN _ _ _ hr hq.2⟩
    all_goals exact ⟨s', hr, hq⟩
  refine wpIn_scope hf (fun m a w => ∃ i, m = μ i ∧ φ i ∧ ARel C ⟨n0, frL (sl i), st i, nx⟩ a w) (wpIn_mono (awp_sound c h start) fun e a' w' ⟨s', h1, h2⟩ => conv (fun s a w hr ⟨i, l, hφ, hl, hw⟩ => ⟨μ i, i, rfl, hφ, by rw [← hl]; exact hw.rel hr⟩) h1 h2)
    fun m a w ⟨i, hm, hφ, hr⟩ => wpIn_mono (awp_sound rest hr (round i hφ)) fun e a' w' ⟨s', h1, h2⟩ => conv (fun s a w hr ⟨i', l, hlt, hφ', hl, hw⟩ => ⟨μ i', by rw [hm]; exact hlt, i', rfl, hφ', by rw [← hl]; exact hw.rel hr⟩) h1 h2
end

theorem pickT {b : Bool} {A B : Prop} (h : b = true) (ha : A) : (b = true → A) ∧ (b = false → B) := ⟨fun _ => ha, fun e => by rw [h] at e; cases e⟩
theorem pickF {b : Bool} {A B : Prop} (h : b = false) (hb : B) : (b = true → A) ∧ (b = false → B) := ⟨fun e => (by rw [h] at e; cases e), fun _ => hb⟩
theorem pickT2 {b : Bool} {A B : Prop} (h : b = true) (hb : B) : (b = false → A) ∧ (b = true → B) := ⟨fun e => (by rw [h] at e; cases e), fun _ => hb⟩
theorem pickF2 {b : Bool} {A B : Prop} (h : b = false) (ha : A) : (b = false → A) ∧ (b = true → B) := ⟨fun _ => ha, fun e => by rw [h] at e; cases e⟩
theorem dT {p : Prop} [Decidable p] (h : p) : decide p = true := decide_eq_true h
theorem dF {p : Prop} [Decidable p] (h : ¬ p) : decide p = false := decide_eq_false h
theorem nT {p : Prop} [Decidable p] (h : ¬ p) : (!decide p) = true := by rw [decide_eq_false h]; rfl
theorem nF {p : Prop} [Decidable p] (h : p) : (!decide p) = false := by rw [decide_eq_true h]; rfl
theorem nbT {b : Bool} (h : b = false) : (!b) = true := by rw [h]; rfl
theorem nbF {b : Bool} (h : b = true) : (!b) = false := by rw [h]; rfl

/-- What a test says, either way. -/
class Tst (b : Bool) (p q : outParam Prop) : Prop where
  t : b = true → p
  f : b = false → q
instance (priority := 100) tst0 {b : Bool} : Tst b (b = true) (b = false) := ⟨id, id⟩
instance tst1 {p : Prop} [Decidable p] : Tst (decide p) p (¬ p) := ⟨of_decide_eq_true, of_decide_eq_false⟩
instance tst2 {p : Prop} [Decidable p] : Tst (!decide p) (¬ p) p := ⟨fun h => by simpa using h, fun h => by simpa using h⟩
instance (priority := 500) tst3 {b : Bool} : Tst (!b) (b = false) (b = true) := ⟨fun h => by simpa using h, fun h => by simpa using h⟩
theorem gS {b : Bool} {p q A B : Prop} [h : Tst b p q] (ha : p → A) (hb : q → B) : (b = true → A) ∧ (b = false → B) := ⟨fun e => ha (h.t e), fun e => hb (h.f e)⟩
theorem gZ {b : Bool} {p q A B : Prop} [h : Tst b p q] (ha : q → A) (hb : p → B) : (b = false → A) ∧ (b = true → B) := ⟨fun e => ha (h.f e), fun e => hb (h.t e)⟩

/-! ### Steps of the walk: what decides a test is tried where the step is taken -/
section
variable {b : Bool} {p A B : Prop}
theorem gT (ha : A) (h : b = true := by first | assumption | exact dT (by first | assumption | omega) | exact nT (by first | assumption | omega) | exact nbT (by assumption) | rfl) : (b = true → A) ∧ (b = false → B) := pickT h ha
theorem gU (hb : B) (h : b = true := by first | assumption | exact dT (by first | assumption | omega) | exact nT (by first | assumption | omega) | exact nbT (by assumption) | rfl) : (b = false → A) ∧ (b = true → B) := pickT2 h hb
theorem gF (hb : B) (h : b = false := by first | assumption | exact dF (by first | assumption | omega) | exact nF (by first | assumption | omega) | exact nbF (by assumption) | rfl) : (b = true → A) ∧ (b = false → B) := pickF h hb
theorem gV (ha : A) (h : b = false := by first | assumption | exact dF (by first | assumption | omega) | exact nF (by first | assumption | omega) | exact nbF (by assumption) | rfl) : (b = false → A) ∧ (b = true → B) := pickF2 h ha
theorem nTt (ha : A) (h : b = true := by first | assumption | exact dT (by assumption) | exact nT (by assumption) | exact nbT (by assumption) | rfl) : (b = true → A) ∧ (b = false → B) := pickT h ha
theorem nU (hb : B) (h : b = true := by first | assumption | exact dT (by assumption) | exact nT (by assumption) | exact nbT (by assumption) | rfl) : (b = false → A) ∧ (b = true → B) := pickT2 h hb
theorem nFf (hb : B) (h : b = false := by first | assumption | exact dF (by assumption) | exact nF (by assumption) | exact nbF (by assumption) | rfl) : (b = true → A) ∧ (b = false → B) := pickF h hb
theorem nV (ha : A) (h : b = false := by first | assumption | exact dF (by assumption) | exact nF (by assumption) | exact nbF (by assumption) | rfl) : (b = false → A) ∧ (b = true → B) := pickF2 h ha
theorem gA (hb : B) (ha : A := by first | rfl | decide | assumption | omega | decide +kernel | exact ⟨rfl, rfl⟩ | exact ⟨rfl, rfl, rfl, rfl⟩ | exact fun h => Bool.noConfusion h | exact fun _ => rfl | exact Nat.le_of_ble_eq_true rfl | (simp only [List.length_map, List.length_append, List.length_replicate, List.length_take, List.length_drop, List.length_set, List.length_cons, List.length_nil]; omega)) : A ∧ B := ⟨ha, hb⟩
end

end Go.Proofs.YtniaeiikdgbnfaaDoor.AW
namespace Go.Proofs.YtniaeiikdgbnfaaDoor.AW
open Go Go.RowKit
set_option linter.unusedSectionVars false
variable [Globs]
variable {P : Program} {C : Ctx} {s : AState}

theorem run_append_zeros (w : World) (t t2 ty e : TypeId) (i : TypeInfo) (z : Value) (k2 : IntKind) (ht : P.underlying t = some (.slice e)) (ht2 : P.underlying t2 = some (.int k2)) (hi : P.info? e = some i) (hz : i.zero = some z)
    (n : Nat) (h0 : 0 < n) (h63 : (n : Int) ≤ 9223372036854775807) (h48 : n * i.bytes ≤ 281474976710656) (hs : i.size = 1) :
    (Builtin.append_ #[t, t2] ty #[.slice none 0 0, .int .i64 n]).run P w =
      .ok (.slice (some ⟨w.heap.size, 0, none⟩) n (grownCap w n 0 e)) (w.drew.alloc (.cells (Builtin.zeroCells z.cells n ++ Builtin.zeroCells z.cells (grownCap w n 0 e - n)) e)) := by
  have hn : n ≠ 0 := by omega
  have h63' : ¬ (9223372036854775807 < (n : Int)) := by omega
  have h48' : ¬ (281474976710656 < Builtin.nextslicecap n 0 * i.bytes) := by rw [nextslicecap_zero h0]; omega
  have hw : IntKind.i64.wrap (n : Int) = n := wrap_in.2 ⟨by simp only [loK]; omega, by simp only [hiK]; omega⟩
  have h48i : ¬ ((281474976710656 : Int) < (n : Int) * (i.bytes : Int)) := by
    have : ((n * i.bytes : Nat) : Int) = (n : Int) * (i.bytes : Int) := by push_cast; rfl
    omega
  have hneg : ¬ ((n : Int) < 0) := by omega
  simp [Builtin.append_, run_underlying ht, run_underlying ht2, sizeOf, typeInfo, zeroValue, hi, hz, asInt, asIntOf, hw, hn, hneg, h63', h48', h48i, hs, Question.forced, run_firstCells_none, newRow, grownCap]

/-- The room of nil. -/
theorem ao_cap {x : Bool} {o : Oper} {y : Operand} {t e : TypeId} {d : D} {K : AState → AVal → Prop} (ho : o.op = .call { callee := .builtin .cap, args := #[y], argTypes := #[t] }) (hc : constOk P t y) (ht : P.underlying t = some (.slice e))
    (hv : aev P s t y = .nls d) (hK : K s (.d (.int .i64 0))) : AOther P C x s o K := by
  refine ⟨fun β S a w h => ?_⟩
  have hy := aev_rel h hc
  rw [hv] at hy
  simp only [VRel] at hy
  refine ⟨.int .i64 0, w, s, _, β, S, .inl ?_, fun _ => Ext.refl w, h, vrel_int (by decide), hK⟩
  have e1 : (Builtin.cap_ #[t] o.type #[a.eval y]).run P w = .ok (.int .i64 0) w := by
    rw [hy.1]
    simp [Builtin.cap_, run_underlying ht, goInt]
  simp [execOp, ho, resolve, invoke, builtin, e1]

theorem zero_cells {k : IntKind} {n : Nat} : (Builtin.zeroCells (#[Value.int k 0]) n).toList = List.replicate n (Value.int k 0) := by
  apply List.ext_getElem
  · simp [Builtin.zeroCells]
  · intro i h1 h2
    simp [Builtin.zeroCells, Nat.mod_one]

/-- So many noughts behind nil. -/
theorem ao_appz {x : Bool} {o : Oper} {y z : Operand} {t t2 e : TypeId} {i : TypeInfo} {k k2 : IntKind} {d : D} {n : Nat} {K : AState → AVal → Prop}
    (ho : o.op = .call { callee := .builtin .append, args := #[y, z], argTypes := #[t, t2] }) (hc : constOk P t y) (hc2 : constOk P t2 z) (hy : aev P s t y = .nls d) (hz : aev P s t2 z = .d (.int .i64 n))
    (ht : P.underlying t = some (.slice e)) (ht2 : P.underlying t2 = some (.int k2)) (hi : P.info? e = some i) (hzero : i.zero = some (.int k 0)) (hs : i.size = 1) (hb : i.bytes ≤ 256) (h0 : 0 < n) (hn : n ≤ 1073741824)
    (hK : K (s.newO (.row k e (List.replicate n 0))) (.own s.nx)) : AOther P C x s o K := by
  refine ⟨fun β S a w h => ?_⟩
  have hyv := aev_rel h hc
  have hzv := aev_rel h hc2
  rw [hy] at hyv
  rw [hz] at hzv
  simp only [VRel] at hyv
  obtain ⟨hzv, _⟩ := d_int hzv
  have hbb : n * i.bytes ≤ 281474976710656 := by
    have : n * i.bytes ≤ 1073741824 * 256 := Nat.mul_le_mul hn hb
    omega
  have e1 := run_append_zeros (P := P) w t t2 o.type e i (.int k 0) k2 ht ht2 hi hzero n h0 (by omega) hbb hs
  rw [← hyv.1, ← hzv] at e1
  have hg : w.grownBy (w.drew.alloc (.cells (Builtin.zeroCells (Value.int k 0).cells n ++ Builtin.zeroCells (Value.int k 0).cells (grownCap w n 0 e - n)) e)) none :=
    ⟨rfl, rfl, rfl, by simp, fun b hb _ => by
      show (w.heap.push _)[b]? = _
      rw [Array.getElem?_push, if_neg (by omega)]⟩
  have hge := grownCap_ge w n 0 e
  refine ⟨.slice (some ⟨w.heap.size, 0, none⟩) n (grownCap w n 0 e), _, _, .own s.nx, updO β s.nx (.slice (some ⟨w.heap.size, 0, none⟩) n (grownCap w n 0 e)), S, .inl ?_, fun _ b hb => hg.block b hb (by simp), h.fresh hg (v := .slice (some ⟨w.heap.size, 0, none⟩) n (grownCap w n 0 e)) (fun b hb => ?_) ?_, by simp only [VRel, updO, if_true], hK⟩
  · simp [execOp, ho, resolve, invoke, builtin, e1]
  · have : b = w.heap.size := by
      simp only [blk] at hb
      split at hb
      · cases hb
      · injection hb with hb; exact hb.symm
    subst this
    simp
  · simp only [ORel]
    refine ⟨.inr ⟨w.heap.size, grownCap w n 0 e, Builtin.zeroCells (Value.int k 0).cells n ++ Builtin.zeroCells (Value.int k 0).cells (grownCap w n 0 e - n), by simp, by omega, ?_, by simpa using hge, grownCap_le_maxLen w n 0 e (by unfold maxLen; omega), ?_, by simp, ?_⟩, ?_, by simp; unfold LIM; omega⟩
    · show (w.heap.push _)[w.heap.size]? = _
      rw [Array.getElem?_push, if_pos rfl]
    · simp [Value.cells, size_zeroCells]
      omega
    · simp [Value.cells, zero_cells]
    · intro v hv
      rw [(List.mem_replicate.1 hv).2, wrap_in]; cases k <;> simp [loK, hiK]

/-- An owned row's room alone. -/
theorem ao_cut0 {x : Bool} {o : Oper} {y h0 : Operand} {t e : TypeId} {k : IntKind} {e' : TypeId} {xs : List Int} {j : Nat} {K : AState → AVal → Prop} (ho : o.op = .slice t y none (some h0) none) (hc : constOk P t y) (hc2 : constOk P 0 h0)
    (ht : P.underlying t = some (.slice e)) (hsz : szT P e = some 1) (hy : aev P s t y = .own j) (hh : aev P s 0 h0 = .d (.int .i64 0)) (hj : getO s.st j = some (.row k e' xs)) (hm : C.m ≤ j) (hne : xs ≠ [])
    (hK : K { s with st := setOd j (.row k e' []) s.st, fr := fun t => dropV j (s.fr t) } (.own j)) : AOther P C x s o K := by
  refine ⟨fun β S a w h => ?_⟩
  have hyv := aev_rel h hc
  have hhv := aev_rel h hc2
  rw [hy] at hyv
  rw [hh] at hhv
  obtain ⟨hhv, _⟩ := d_int hhv
  obtain ⟨bv, hβ, hob⟩ := h.st.obj j _ (getO_mem hj)
  simp only [VRel] at hyv
  rw [hβ] at hyv
  injection hyv with hyv
  have hob' := hob
  simp only [ORel] at hob
  rcases hob.1 with ⟨A, e1, e2, _⟩ | ⟨g, cap, cur, e1, hcp, hheap, hle, hmax, hcs, _, _⟩
  · exact absurd (List.eq_nil_of_length_eq_zero e2) hne
  · have hrun := slice_run (P := P) (w := w) (A := some ⟨g, 0, none⟩) (len := xs.length) (cap := cap) (lo := none) (hi := some (.int .i64 0)) (l := 0) (h := 0) ht hsz (by omega) (.inl ⟨rfl, rfl⟩) (.inr ⟨_, rfl⟩) (Int.le_refl _) (Int.le_refl _)
    have hv' : (if cap = (0 : Int).toNat then some ⟨g, 0, none⟩ else (some (⟨g, 0, none⟩ : Addr)).map (·.add ((0 : Int).toNat * 1))) = some ⟨g, 0, none⟩ := by
      rw [if_neg (by simp; omega)]; simp [addr_add]
    rw [hv'] at hrun
    simp only [Int.toNat_zero, Nat.sub_zero] at hrun
    have hgr : w.grownBy w (blk bv) := ⟨rfl, rfl, rfl, Nat.le_refl _, fun _ _ _ => rfl⟩
    refine ⟨.slice (some ⟨g, 0, none⟩) 0 cap, w, _, .own j, updO β j (.slice (some ⟨g, 0, none⟩) 0 cap), S, .inl ?_, fun _ => Ext.refl w, h.move hm (getO_mem hj) hβ hgr (v' := .slice (some ⟨g, 0, none⟩) 0 cap) (fun b hb => .inl ?_) ?_, by simp only [VRel, updO, if_true], hK⟩
    · simp only [execOp, ho, Option.map_none, Option.map_some, hhv, ← hyv, e1]
      exact run_value2 hrun
    · rw [e1]; simpa [blk] using hb
    · simp only [ORel]
      exact ⟨.inr ⟨g, cap, cur, by simp, hcp, hheap, by simp, hmax, hcs, by simp, by simp⟩, by simp, by simp [LIM]⟩

end Go.Proofs.YtniaeiikdgbnfaaDoor.AW
namespace Go.Proofs.YtniaeiikdgbnfaaDoor.AW
open Go Go.RowKit
set_option linter.unusedSectionVars false
variable [Globs]
set_option linter.unusedVariables false

section
variable {P : Program} {C : Ctx} {s : AState} {β : Nat → Option Value} {S : Nat → Prop} {a : Act} {w : World}

theorem VAll.set_at : ∀ {cs : List AVal} {vs : List Value} {i : Nat} {y : AVal} {v : Value}, VAll w β S cs vs → vs[i]? = some v → VRel w β S y v → VAll w β S (cs.set i y) vs
  | [], vs, i, y, v, h, _, _ => by simpa using h
  | c :: cs, vs, i, y, v, h, hi, hy => by
    simp only [VAll] at h
    obtain ⟨u, r, rfl, h1, h2⟩ := h
    cases i with
    | zero =>
      simp only [List.getElem?_cons_zero, Option.some.injEq] at hi
      subst hi
      simp only [List.set_cons_zero, VAll]
      exact ⟨_, _, rfl, hy, h2⟩
    | succ i =>
      simp only [List.getElem?_cons_succ] at hi
      simp only [List.set_cons_succ, VAll]
      exact ⟨_, _, rfl, h1, VAll.set_at h2 hi hy⟩

theorem isEm_slice {x : AVal} {v : Value} (h : isEm x = true) (hv : VRel w β S x v) : ∃ A, v = .slice A 0 0 := by
  unfold isEm at h
  split at h
  · simp only [VRel] at hv; exact hv.1
  · simp only [VRel] at hv; exact ⟨none, hv.1⟩
  · cases h

theorem ARelB.adoptPart (h : ARelB C s β S a w) {j i : Nat} {t : TypeId} {cs : List AVal} {x : AVal} (hj : getO s.st j = some (.cell t cs)) (hi : cs[i]? = some x) (he : isEm x = true) (k : IntKind) (tt : TypeId) :
    ∃ β', ARelB C { s with st := setO j (.cell t (cs.set i (.own s.nx))) ((s.nx, .row k tt []) :: s.st), nx := s.nx + 1 } β' S a w ∧ ∀ j', j' < s.nx → β' j' = β j' := by
  obtain ⟨bv, hβ0, hob⟩ := h.st.obj j _ (getO_mem hj)
  have hob' := hob
  simp only [ORel] at hob
  obtain ⟨g, vs, rfl, hh, hv⟩ := hob
  obtain ⟨v, hvi, hxv⟩ := VAll.get _ _ hv i x hi
  obtain ⟨A, rfl⟩ := isEm_slice he hxv
  have hb : blk (.slice A 0 0) = none := blk_empty A
  have hr : ORel w (updO β s.nx (.slice A 0 0)) S (.slice A 0 0) (.row k tt []) := by
    simp only [ORel]; exact ⟨.inl ⟨A, rfl, rfl, rfl⟩, by simp, by simp⟩
  have h1 := h.fresh (World.grownBy.refl w _) (o' := .row k tt []) (v := .slice A 0 0) (by simp [hb]) hr
  have hβ : ∀ i u, β i = some u → updO β s.nx (.slice A 0 0) i = some u := fun i u e => by
    unfold updO
    rw [if_neg]
    · exact e
    · rintro rfl; rw [h.nx _ (Nat.le_refl _)] at e; cases e
  have hjn : j ≠ s.nx := by rintro rfl; rw [h.nx _ (Nat.le_refl _)] at hβ0; cases hβ0
  refine ⟨_, h1.touch (j := j) (o := .cell t cs) (v := .pointer (some ⟨g, 0, none⟩)) (List.mem_cons_of_mem _ (getO_mem hj)) (hβ _ _ hβ0) (World.grownBy.refl w _) ?_, fun j' hj' => ?_⟩
  · simp only [ORel]
    refine ⟨g, vs, rfl, hh, ?_⟩
    refine VAll.set_at (VAll.keep (fun b hb => ⟨hb, rfl⟩) hβ _ _ hv) hvi ?_
    simp only [VRel]
    simp [updO]
  · unfold updO
    rw [if_neg (by omega)]

/-- The same, of what a function leaves. -/
theorem CSpec.adoptPart {f : FuncId} {args : List AVal} {st : List (Nat × Ob)} {m : Nat} {K K' : List (Nat × Ob) → Nat → AVal → Prop} (h : CSpec P f args st m K)
    (hK : ∀ st' nx' r, K st' nx' r → K' st' nx' r ∨ ∃ j t cs i x k tt, getO st' j = some (.cell t cs) ∧ cs[i]? = some x ∧ isEm x = true ∧ K' (setO j (.cell t (cs.set i (.own nx'))) ((nx', .row k tt []) :: st')) (nx' + 1) r) : CSpec P f args st m K' := by
  refine ⟨h.1, fun w β S vs hs hβ ha => Calls.mono (h.2 w β S vs hs hβ ha) fun e w' ⟨v, st', nx', r, β', S', h1, h2, h3, h4, h5, h6, h7, h8⟩ => ?_⟩
  rcases hK st' nx' r h8 with h9 | ⟨j, t, cs, i, x, k, tt, h9, h10, h11, h12⟩
  · exact ⟨v, st', nx', r, β', S', h1, h2, h3, h4, h5, h6, h7, h9⟩
  · have hA : ARelB ⟨w, S, Owned β st, m, β, none⟩ ⟨0, fun _ => .any, st', nx'⟩ β' S' ⟨#[], []⟩ w' :=
      ⟨fun t => by simp only [VRel], rfl, h3, h2, h4, ⟨fun d hd => by simp at hd, by simp, fun _ => rfl⟩, h6, h5⟩
    obtain ⟨β2, hB, hkeep⟩ := hA.adoptPart h9 h10 h11 k tt
    refine ⟨v, _, nx' + 1, r, β2, S', h1, hB.frame, hB.st, hB.nx, Nat.le_succ_of_le h5, fun j' hj' => ?_, ?_, h12⟩
    · rw [hkeep j' (Nat.lt_of_lt_of_le hj' h5), h6 j' hj']
    · refine VRel.keep (fun b hb => ⟨hb, rfl⟩) (fun j' u hu => ?_) _ _ h7
      rcases Nat.lt_or_ge j' nx' with hl | hl
      · rw [hkeep j' hl]; exact hu
      · rw [h4 j' hl] at hu; cases hu

/-- A result that is an empty slice, as an owned row. -/
theorem CSpec.adoptR {f : FuncId} {args : List AVal} {st : List (Nat × Ob)} {m : Nat} {K K' : List (Nat × Ob) → Nat → AVal → Prop} (h : CSpec P f args st m K)
    (hK : ∀ st' nx' r, K st' nx' r → K' st' nx' r ∨ isEm r = true ∧ ∃ k tt, K' ((nx', .row k tt []) :: st') (nx' + 1) (.own nx')) : CSpec P f args st m K' := by
  refine ⟨h.1, fun w β S vs hs hβ ha => Calls.mono (h.2 w β S vs hs hβ ha) fun e w' ⟨v, st', nx', r, β', S', h1, h2, h3, h4, h5, h6, h7, h8⟩ => ?_⟩
  rcases hK st' nx' r h8 with h9 | ⟨h9, k, tt, h10⟩
  · exact ⟨v, st', nx', r, β', S', h1, h2, h3, h4, h5, h6, h7, h9⟩
  · have hA : ARelB ⟨w, S, Owned β st, m, β, none⟩ ⟨0, fun _ => .any, st', nx'⟩ β' S' ⟨#[], []⟩ w' :=
      ⟨fun t => by simp only [VRel], rfl, h3, h2, h4, ⟨fun d hd => by simp at hd, by simp, fun _ => rfl⟩, h6, h5⟩
    obtain ⟨A, rfl⟩ := isEm_slice h9 h7
    have hb : blk (.slice A 0 0) = none := blk_empty A
    have hr : ORel w' (updO β' nx' (.slice A 0 0)) S' (.slice A 0 0) (.row k tt []) := by
      simp only [ORel]; exact ⟨.inl ⟨A, rfl, rfl, rfl⟩, by simp, by simp⟩
    have hB := hA.fresh (World.grownBy.refl w' _) (o' := .row k tt []) (v := .slice A 0 0) (by simp [hb]) hr
    refine ⟨_, _, nx' + 1, .own nx', _, S', h1, hB.frame, hB.st, hB.nx, Nat.le_succ_of_le h5, fun j' hj' => ?_, ?_, h10⟩
    · show updO β' nx' (.slice A 0 0) j' = β j'
      unfold updO
      rw [if_neg (by omega), h6 j' hj']
    · simp only [VRel]
      show updO β' nx' (.slice A 0 0) nx' = _
      simp [updO]

/-- What holds of a function's leavings may be said in another way. -/
theorem CSpec.mono {f : FuncId} {args : List AVal} {st : List (Nat × Ob)} {m : Nat} {K K' : List (Nat × Ob) → Nat → AVal → Prop} (h : CSpec P f args st m K) (hK : ∀ st' nx' r, K st' nx' r → K' st' nx' r) : CSpec P f args st m K' :=
  h.adoptPart fun st' nx' r hk => .inl (hK st' nx' r hk)

end

def sig (j nx i : Nat) : Nat := if i = j then nx else i
theorem nodup_on {f : Nat → Nat} : ∀ {l : List Nat}, l.Nodup → (∀ x ∈ l, ∀ y ∈ l, f x = f y → x = y) → (l.map f).Nodup
  | [], _, _ => by simp
  | x :: l, h, hf => by
    simp only [List.nodup_cons, List.map_cons] at h ⊢
    refine ⟨fun hm => ?_, nodup_on h.2 fun a ha b hb e => hf a (by simp [ha]) b (by simp [hb]) e⟩
    obtain ⟨y, hy, e⟩ := List.mem_map.1 hm
    have := hf y (by simp [hy]) x (by simp) e
    exact h.1 (this ▸ hy)
def AState.renew : AState → Nat → AState
  | ⟨n, fr, st, nx⟩, j => ⟨n, fun t => renV (sig j nx) (fr t), renSt (sig j nx) st, nx + 1⟩

section
variable {P : Program} {C : Ctx} {s : AState} {β : Nat → Option Value} {S : Nat → Prop} {a : Act} {w : World}

theorem ARelB.renew (h : ARelB C s β S a w) {j : Nat} {o : Ob} (hj : (j, o) ∈ s.st) : ∃ β', ARelB C (s.renew j) β' S a w := by
  obtain ⟨v, hv, _⟩ := h.st.obj j o hj
  have hjn : j < s.nx := by
    rcases Nat.lt_or_ge j s.nx with h1 | h1
    · exact h1
    · rw [h.nx j h1] at hv; cases hv
  let β' : Nat → Option Value := updO β s.nx v
  have hσ : ∀ i u, β i = some u → β' (sig j s.nx i) = some u := fun i u e => by
    show updO β s.nx v (sig j s.nx i) = some u
    unfold sig updO
    by_cases h1 : i = j
    · subst h1
      rw [if_pos rfl, if_pos rfl, ← hv, e]
    · rw [if_neg h1, if_neg]
      · exact e
      · rintro rfl; rw [h.nx _ (Nat.le_refl _)] at e; cases e
  have hlt : ∀ {i p}, (i, p) ∈ s.st → i < s.nx := fun {i p} hi => by
    obtain ⟨u, hu, _⟩ := h.st.obj i p hi
    rcases Nat.lt_or_ge i s.nx with h1 | h1
    · exact h1
    · rw [h.nx i h1] at hu; cases hu
  have hinj : ∀ {i k}, i < s.nx → k < s.nx → sig j s.nx i = sig j s.nx k → i = k := fun {i k} hi hk e => by
    unfold sig at e
    split at e <;> split at e <;> omega
  have hβσ : ∀ {i p}, (i, p) ∈ s.st → β' (sig j s.nx i) = β i := fun {i p} hi => by
    obtain ⟨u, hu, _⟩ := h.st.obj i p hi
    rw [hσ i u hu, hu]
  have hown : ∀ b, Owned β' (renSt (sig j s.nx) s.st) b ↔ Owned β s.st b := fun b => by
    constructor
    · rintro ⟨k, q, hk, hb⟩
      obtain ⟨i, p, hi, rfl, rfl⟩ := mem_renSt.1 hk
      exact ⟨i, p, hi, by rw [hβσ hi] at hb; exact hb⟩
    · rintro ⟨i, p, hi, hb⟩
      exact ⟨_, _, mem_renSt.2 ⟨i, p, hi, rfl, rfl⟩, by rw [hβσ hi]; exact hb⟩
  obtain ⟨n, fr, st, nx⟩ := s
  refine ⟨β', fun t => ?_, h.size, ⟨fun k q hk => ?_, ?_, fun k q k' q' hk hk' hne b hb => ?_, fun b hb => h.st.own b ((hown b).1 hb), h.st.inS, h.st.gl⟩, ?_, fun i hi => ?_, h.defers, fun i hi => ?_, Nat.le_succ_of_le h.nxm⟩
  · exact (renV_iff _ _).1 (VRel.keep (fun b hb => ⟨hb, rfl⟩) hσ _ _ (h.fr t))
  · obtain ⟨i, p, hi, rfl, rfl⟩ := mem_renSt.1 hk
    obtain ⟨u, hu, hr⟩ := h.st.obj i p hi
    exact ⟨u, hσ i u hu, (renOb_iff _).1 (hr.keep (fun b hb => ⟨hb, rfl⟩) hσ fun b hb => rfl)⟩
  · show ((renSt (sig j nx) st).map (·.1)).Nodup
    rw [renSt_ids]
    have hnd := h.st.nodup
    have : (st.map fun p => sig j nx p.1) = (st.map (·.1)).map (sig j nx) := by simp
    rw [this]
    refine nodup_on hnd fun x hx y hy e => ?_
    obtain ⟨⟨x', p⟩, hx', rfl⟩ := List.mem_map.1 hx
    obtain ⟨⟨y', q⟩, hy', rfl⟩ := List.mem_map.1 hy
    exact hinj (hlt hx') (hlt hy') e
  · obtain ⟨i, p, hi, rfl, rfl⟩ := mem_renSt.1 hk
    obtain ⟨i', p', hi', rfl, rfl⟩ := mem_renSt.1 hk'
    rw [hβσ hi] at hb
    rw [hβσ hi']
    exact h.st.apart i p i' p' hi hi' (fun e => hne (by rw [e])) b hb
  · have := h.frame
    exact ⟨this.size, this.os, this.tape, this.output, this.old, this.inS, fun b hb => this.own b ((hown b).1 hb)⟩
  · show updO β nx v i = none
    unfold updO
    have hi' : nx + 1 ≤ i := hi
    rw [if_neg (by omega)]
    exact h.nx i (by show nx ≤ i; omega)
  · show updO β nx v i = _
    unfold updO
    have := h.nxm
    rw [if_neg (by show ¬ i = nx; simp only at this; omega)]
    exact h.pin i hi

theorem AWp.renew {c : Code} {Q : Exit → AState → Prop} (j : Nat) (hj : (getO s.st j).isSome = true) (h : AWp P C c (s.renew j) Q) : AWp P C c s Q :=
  ⟨fun a w ⟨β, S, hr⟩ => by
    obtain ⟨o, ho⟩ := Option.isSome_iff_exists.1 hj
    obtain ⟨β', hr'⟩ := hr.renew (getO_mem ho)
    exact h.run a w ⟨β', S, hr'⟩⟩
end

section
variable {P : Program} {C : Ctx} {s : AState} {T : Told}

/-- One stretch ahead of another; whatever way the first one goes, the second one begins alike. -/
theorem AWp.cut {ι : Type} {x y : Code} {Q : Exit → AState → Prop} (T : Told) (sl : ι → List (Nat × AVal)) (st : ι → List (Nat × Ob)) (n0 nx : Nat) (φ : ι → Prop)
    (hx : awp P C T x s (thenQ (Begin C.m n0 nx sl st φ) Q)) (hy : ∀ i, φ i → AWp P C y ⟨n0, frL (sl i), st i, nx⟩ Q) : AWp P C (.seq x y) s Q :=
  AWp.join (Begin C.m n0 nx sl st φ) (AWp.of_awp T hx) fun s' ⟨i, l, hφ, hl, hw⟩ => ⟨fun a w h => (hy i hφ).run a w (by rw [← hl]; exact hw.rel h)⟩
theorem AWp.seq {x y : Code} {Q : Exit → AState → Prop} (T : Told) (hx : awp P C T x s (thenQ (fun s => AWp P C y s Q) Q)) : AWp P C (.seq x y) s Q :=
  AWp.join (fun s => AWp P C y s Q) (AWp.of_awp T hx) fun s' h => h

/-- The entry, of a walk that is laid out already. -/
theorem CSpec.of_AWp {f : FuncId} {fn : Func} {c : Code} {args : List AVal} {st : List (Nat × Ob)} {m : Nat} {K : List (Nat × Ob) → Nat → AVal → Prop} (fz : List Tmp)
    (hf : P.funcs[f]? = some fn) (hb : fn.body = some c) (hn : (fn.name == "runtime.NumGoroutine") = false) (hl : args.length ≤ fn.ntmps)
    (h : ∀ w0 S0 E0 B0, AWp P ⟨w0, S0, E0, m, B0, none⟩ c ⟨fn.ntmps, fun t => (args[t]?).getD .un, st, m⟩ (endQ P fn.results.toList fz K)) : CSpec P f args st m K := by
  refine ⟨⟨fn, hf, by rw [hb]; rfl, hn⟩, fun w β S vs hs hβ ha => ?_⟩
  have hvl := VAll.length _ _ ha
  have hrel : ARel ⟨w, S, Owned β st, m, β, none⟩ ⟨fn.ntmps, fun t => (args[t]?).getD .un, st, m⟩ { tmps := vs.toArray ++ Array.replicate (fn.ntmps - vs.toArray.size) undef, defers := [] } w := by
    refine ⟨β, S, fun t => ?_, by simp; omega, hs, ⟨Nat.le_refl _, rfl, rfl, rfl, fun _ _ _ => rfl, fun b hb => .inl hb, fun b hb => .inl hb⟩, hβ, ⟨fun d hd => by simp at hd, by simp, fun _ => rfl⟩, fun _ _ => rfl, Nat.le_refl _⟩
    simp only
    cases ht : args[t]? with
    | some x =>
      obtain ⟨v, hv, hr⟩ := VAll.get _ _ ha t x ht
      have htl : t < vs.length := (List.getElem?_eq_some_iff.1 hv).1
      rw [Array.getD_eq_getD_getElem?, Array.getElem?_append_left (by simpa using htl)]
      simpa [hv] using hr
    | none =>
      have htl : vs.length ≤ t := by rw [hvl]; exact List.getElem?_eq_none_iff.1 ht
      simp only [Option.getD_none, VRel]
      rw [Array.getD_eq_getD_getElem?, Array.getElem?_append_right (by simpa using htl)]
      rw [Array.getElem?_replicate]
      split <;> rfl
  refine callsIn_fence.1 (callsIn_of_wp_marks (F := fence none) (n := 0) hf hb trivial (wpIn_mono ((h _ _ _ _).run _ _ hrel) fun e a' w' hl => ?_) rfl)
  obtain ⟨s', ⟨β', S', h'⟩, hq⟩ := hl
  have fin : qFreezes P fz s' (fun s => resV P s fn.results.toList fun vs => s.ends fun st nx => oneR (K st nx) vs) → LeavesInM (fence none) 0 P fn a'.tmps (fun e w' => ∃ v st' nx' r β' S', e = .returned v ∧ Fr ⟨w, S, Owned β st, m, β, none⟩ w' S' (Owned β' st') ∧ SRel w' β' S' st' ∧
      (∀ j, nx' ≤ j → β' j = none) ∧ m ≤ nx' ∧ (∀ j, j < m → β' j = β j) ∧ VRel w' β' S' r v ∧ K st' nx' r) a'.defers .returning w' := fun hq => by
    obtain ⟨S2, s2, h2, hq⟩ := qFreezes_sound h' hq
    have hq : resV P s2 fn.results.toList (oneR (K s2.st s2.nx)) := resV_mono (fun vs hv => forceSt_of _ hv) hq
    refine marks_leave _ _ (fun d hd => ?_) h2.defers.2.1 fun w2 hs => ?_
    · obtain ⟨D, e1, e2, _⟩ := h2.defers.1 d hd
      exact ⟨D, e1, e2⟩
    · have h3 := h2.shut hs
      obtain ⟨v, r, h4, h5, h6⟩ := results_sound h3 hq
      exact ⟨v, h4, v, s2.st, s2.nx, r, β', S2, rfl, h3.frame, h3.st, h3.nx, h3.nxm, h3.pin, h5, h6⟩
  cases e <;> first | exact fin hq | exact hq.elim


end
end Go.Proofs.YtniaeiikdgbnfaaDoor.AW
namespace Go.Proofs.YtniaeiikdgbnfaaDoor.AW
open Go Go.RowKit
set_option linter.unusedSectionVars false
variable [Globs]
variable {P : Program} {C : Ctx} {s : AState}

theorem append_none_run {w : World} {t t2 ty e : TypeId} {i : TypeInfo} {k2 : IntKind} (ht : P.underlying t = some (.slice e)) (ht2 : P.underlying t2 = some (.int k2)) (hi : P.info? e = some i) {A : Option Addr} {n c : Nat} (hn : n ≤ c) :
    (Builtin.append_ #[t, t2] ty #[.slice A n c, .int .i64 0]).run P w = .ok (.slice A n c) w := by
  have hw : IntKind.i64.wrap 0 = 0 := by decide
  cases A <;> simp [Builtin.append_, run_underlying ht, run_underlying ht2, sizeOf, typeInfo, hi, asInt, asIntOf, hw, hn, storeCells]

/-- An append of no noughts to an owned row. -/
theorem ao_app0 {x : Bool} {o : Oper} {y z : Operand} {t t2 e : TypeId} {i : TypeInfo} {k k2 : IntKind} {e' : TypeId} {xs : List Int} {j : Nat} {K : AState → AVal → Prop}
    (ho : o.op = .call { callee := .builtin .append, args := #[y, z], argTypes := #[t, t2] }) (hc : constOk P t y) (hc2 : constOk P t2 z) (hy : aev P s t y = .own j) (hz : aev P s t2 z = .d (.int .i64 0))
    (ht : P.underlying t = some (.slice e)) (ht2 : P.underlying t2 = some (.int k2)) (hi : P.info? e = some i) (hj : getO s.st j = some (.row k e' xs)) (hK : K s (.own j)) : AOther P C x s o K := by
  refine ⟨fun β S a w h => ?_⟩
  have hyv := aev_rel h hc
  have hzv := aev_rel h hc2
  rw [hy] at hyv
  rw [hz] at hzv
  obtain ⟨hzv, _⟩ := d_int hzv
  obtain ⟨bv, hβ, hob⟩ := h.st.obj j _ (getO_mem hj)
  have hyv0 := hyv
  simp only [VRel] at hyv
  rw [hβ] at hyv
  injection hyv with hyv
  simp only [ORel] at hob
  obtain ⟨A, c, e1⟩ := ownsV_slice hob.1
  have hle : xs.length ≤ c := by
    rcases hob.1 with ⟨A2, e2, e3, _⟩ | ⟨g, cap, cur, e2, _, _, hle, _⟩
    · omega
    · rw [e1] at e2; injection e2 with _ _ e4; omega
  have hrun := append_none_run (P := P) (w := w) (ty := o.type) ht ht2 hi (A := A) hle
  rw [← e1, hyv] at hrun
  rw [← hzv] at hrun
  refine ⟨a.eval y, w, s, .own j, β, S, .inl ?_, fun _ => Ext.refl w, h, hyv0, hK⟩
  simp [execOp, ho, resolve, invoke, builtin, hrun]

theorem zeroCells_int (k : IntKind) (m : Nat) : Builtin.zeroCells #[Value.int k 0] m = ((List.replicate m (0 : Int)).map (Value.int k)).toArray := by
  apply Array.ext'
  simp [Builtin.zeroCells, Nat.mod_one]
  apply List.ext_getElem?
  intro i
  simp [List.getElem?_replicate]
  rcases Nat.lt_or_ge i m with h | h
  · rw [List.getElem?_eq_getElem (by simpa using h), if_pos h]; rfl
  · rw [List.getElem?_eq_none (by simpa using h), if_neg (by omega)]; rfl

/-- There is room. -/
theorem run_appz_room {w : World} {t t2 ty e : TypeId} {i : TypeInfo} {k k2 : IntKind} (ht : P.underlying t = some (.slice e)) (ht2 : P.underlying t2 = some (.int k2)) (hi : P.info? e = some i) (hz : i.zero = some (.int k 0)) (hs : i.size = 1)
    {g n cap m : Nat} {cur : Array Value} (hg : w.heap[g]? = some (.cells cur e (0, 0))) (h0 : 0 < m) (hm : m * i.bytes ≤ 140737488355328) (hby : 1 ≤ i.bytes) (hroom : n + m ≤ cap) (hfit : n + m ≤ cur.size) :
    (Builtin.append_ #[t, t2] ty #[.slice (some ⟨g, 0, none⟩) n cap, .int .i64 m]).run P w =
      .ok (.slice (some ⟨g, 0, none⟩) (n + m) cap) (w.setRow g (cur.toList.take n ++ (List.replicate m (0 : Int)).map (Value.int k) ++ cur.toList.drop (n + m)).toArray) := by
  have hst := run_storeCells_at P g n e ((List.replicate m (0 : Int)).map (Value.int k)) 0 cur w hg (by simpa using hfit) (ones_ints k _)
  simp only [Nat.add_zero, List.length_replicate, List.map_replicate, List.append_assoc] at hst
  have hmm : m ≤ m * i.bytes := Nat.le_mul_of_pos_right _ hby
  have hw : IntKind.i64.wrap (m : Int) = m := wrap_in.2 ⟨by simp only [loK]; omega, by simp only [hiK]; omega⟩
  have hneg : ¬ ((m : Int) < 0) := by omega
  have h48i : ¬ ((281474976710656 : Int) < (m : Int) * (i.bytes : Int)) := by
    have : ((m * i.bytes : Nat) : Int) = (m : Int) * (i.bytes : Int) := by push_cast; rfl
    omega
  have hm0 : m ≠ 0 := by omega
  simp [Builtin.append_, run_underlying ht, run_underlying ht2, sizeOf, typeInfo, zeroValue, hi, hz, hs, asInt, asIntOf, hw, hneg, h48i, hm0, hroom, Value.cells, zeroCells_int, Addr.add_lit, hst]

/-- There is none. -/
theorem run_appz_grow {w : World} {t t2 ty e : TypeId} {i : TypeInfo} {k k2 : IntKind} (ht : P.underlying t = some (.slice e)) (ht2 : P.underlying t2 = some (.int k2)) (hi : P.info? e = some i) (hz : i.zero = some (.int k 0)) (hs : i.size = 1)
    {A : Option Addr} {n cap m : Nat} {olds : List Value} (hold : (Builtin.firstCells 1 n (.slice A n cap)).run P w.drew = .ok olds.toArray w.drew) (h0 : 0 < m) (hm : (n + m) * i.bytes ≤ 140737488355328) (hby : 1 ≤ i.bytes) (hroom : cap < n + m) :
    (Builtin.append_ #[t, t2] ty #[.slice A n cap, .int .i64 m]).run P w =
      .ok (.slice (some ⟨w.heap.size, 0, none⟩) (n + m) (grownCap w (n + m) cap e))
        (w.drew.alloc (.cells (olds.toArray ++ ((List.replicate m (0 : Int)).map (Value.int k)).toArray ++ Builtin.zeroCells #[Value.int k 0] (grownCap w (n + m) cap e - (n + m))) e)) := by
  have hmm : n + m ≤ (n + m) * i.bytes := Nat.le_mul_of_pos_right _ hby
  have hw : IntKind.i64.wrap (m : Int) = m := wrap_in.2 ⟨by simp only [loK]; omega, by simp only [hiK]; omega⟩
  have hneg : ¬ ((m : Int) < 0) := by omega
  have hm2 : m * i.bytes ≤ (n + m) * i.bytes := Nat.mul_le_mul_right _ (by omega)
  have h48i : ¬ ((281474976710656 : Int) < (m : Int) * (i.bytes : Int)) := by
    have : ((m * i.bytes : Nat) : Int) = (m : Int) * (i.bytes : Int) := by push_cast; rfl
    omega
  have hm0 : m ≠ 0 := by omega
  have hn : ¬ (n + m ≤ cap) := by omega
  have h63' : ¬ (9223372036854775807 < ((n : Int) + (m : Int))) := by omega
  have h48' : ¬ (281474976710656 < Builtin.nextslicecap (n + m) cap * i.bytes) := by have := growslice_fits (bytes := i.bytes) hroom hm; omega
  simp [Builtin.append_, run_underlying ht, run_underlying ht2, sizeOf, typeInfo, zeroValue, hi, hz, hs, asInt, asIntOf, hw, hneg, h48i, hm0, hn, h63', h48', Question.forced, hold, Value.cells, zeroCells_int, newRow, grownCap]

theorem cells_ints {w : World} {g : Nat} {cur : Array Value} {e : TypeId} {k : IntKind} {xs : List Int} {n : Nat} (hg : w.heap[g]? = some (.cells cur e (0, 0))) (h : cur.toList.take n = xs.map (Value.int k)) :
    ∀ j v, (xs.map (Value.int k))[j]? = some v → w.drew.cell? ((⟨g, 0, none⟩ : Addr).add j) = some v := fun j v hv => by
  rw [← h, List.getElem?_take] at hv
  split at hv
  · rw [addr_add]
    show w.cell? _ = _
    simp only [World.cell?, hg, Nat.zero_add]
    simpa using hv
  · cases hv

/-- An append of so many noughts to an owned row. -/
theorem ao_appN {x : Bool} {o : Oper} {y z : Operand} {t t2 e : TypeId} {i : TypeInfo} {k k2 : IntKind} {xs : List Int} {j m : Nat} {K : AState → AVal → Prop}
    (ho : o.op = .call { callee := .builtin .append, args := #[y, z], argTypes := #[t, t2] }) (hc : constOk P t y) (hc2 : constOk P t2 z) (hy : aev P s t y = .own j) (hz : aev P s t2 z = .d (.int .i64 m))
    (ht : P.underlying t = some (.slice e)) (ht2 : P.underlying t2 = some (.int k2)) (hi : P.info? e = some i) (hzero : i.zero = some (.int k 0)) (hs : i.size = 1) (hby : 1 ≤ i.bytes) (h0 : 0 < m) (hj : getO s.st j = some (.row k e xs)) (hjm : C.m ≤ j) (hx : x = true → False)
    (hb : (xs.length + m) * i.bytes ≤ 140737488355328) (hK : K (s.moved j (.row k e (xs ++ List.replicate m 0))) (.own j)) : AOther P C x s o K := by
  refine ⟨fun β S a w h => ?_⟩
  have hyv := aev_rel h hc
  have hzv := aev_rel h hc2
  rw [hy] at hyv
  rw [hz] at hzv
  obtain ⟨hzv, _⟩ := d_int hzv
  obtain ⟨bv, hβ, hob⟩ := h.st.obj j _ (getO_mem hj)
  have hyv0 := hyv
  simp only [VRel] at hyv
  rw [hβ] at hyv
  injection hyv with hyv
  simp only [ORel] at hob
  obtain ⟨hown, hwf, hlim⟩ := hob
  have hnm : xs.length + m ≤ 140737488355328 := Nat.le_trans (Nat.le_mul_of_pos_right _ hby) hb
  have hmax : xs.length + m ≤ maxLen := by unfold maxLen; omega
  have hm1 : m * i.bytes ≤ 140737488355328 := Nat.le_trans (Nat.mul_le_mul_right _ (by omega)) hb
  have fin : ∀ (v' : Value) (w' : World), (Builtin.append_ #[t, t2] o.type #[bv, .int .i64 m]).run P w = .ok v' w' → OwnsV w' e 1 v' (xs.length + m) ((xs ++ List.replicate m 0).map (Value.int k)) → w.grownBy w' (blk bv) →
      (∀ b, blk v' = some b → (blk bv = some b ∨ (w.heap.size ≤ b ∧ b < w'.heap.size))) →
      ∃ v w' s' r β' S', ((execOp a.eval o).run P w = .ok (.value v) w' ∨ (v = undef ∧ (execOp a.eval o).run P w = .ok .skip w')) ∧ (x = true → Ext w w') ∧ ARelB C s' β' S' a w' ∧ VRel w' β' S' r v ∧ K s' r := fun v' w' h1 h2 h3 h4 => by
    rw [hyv, ← hzv] at h1
    refine ⟨v', w', _, .own j, updO β j v', S, .inl ?_, fun hx' => (hx hx').elim, h.move hjm (o' := .row k e (xs ++ List.replicate m 0)) (getO_mem hj) hβ h3 h4 ?_, by simp only [VRel, updO, if_true], hK⟩
    · simp [execOp, ho, resolve, invoke, builtin, h1]
    · simp only [ORel]
      refine ⟨by simpa using h2, fun z hz => ?_, by simp; unfold LIM; omega⟩
      rcases List.mem_append.1 hz with hz | hz
      · exact hwf z hz
      · rw [(List.mem_replicate.1 hz).2, wrap_in]; cases k <;> simp [loK, hiK]
  -- the row that is made anew
  have grown : ∀ (cap : Nat), cap < xs.length + m →
      OwnsV (w.drew.alloc (.cells ((xs.map (Value.int k)).toArray ++ ((List.replicate m (0 : Int)).map (Value.int k)).toArray ++ Builtin.zeroCells #[Value.int k 0] (grownCap w (xs.length + m) cap e - (xs.length + m))) e)) e 1
        (.slice (some ⟨w.heap.size, 0, none⟩) (xs.length + m) (grownCap w (xs.length + m) cap e)) (xs.length + m) ((xs ++ List.replicate m 0).map (Value.int k)) := fun cap hc => by
    have hge := grownCap_ge w (xs.length + m) cap e
    refine .inr ⟨w.heap.size, _, _, rfl, by omega, heap_alloc_new w.drew _, hge, grownCap_le_maxLen w _ cap e hmax, ?_, by simp, ?_⟩
    · simp [size_zeroCells]; omega
    · have e1 : (xs.map (Value.int k) ++ (List.replicate m 0).map (Value.int k)).length = xs.length + m := by simp
      rw [List.map_append, Nat.mul_one, ← e1]
      simp only [Array.toList_append]
      exact List.take_left
  have hgr : ∀ (o : Obj) (row : Option Nat), w.grownBy (w.drew.alloc o) row := fun o row => ⟨rfl, rfl, rfl, by simp, fun b hb _ => heap_alloc_old w.drew _ hb⟩
  have hnew : ∀ (o : Obj) (n c b : Nat), blk (.slice (some ⟨w.heap.size, 0, none⟩) n c) = some b → (blk bv = some b ∨ (w.heap.size ≤ b ∧ b < (w.drew.alloc o).heap.size)) := fun o n c b hb => by
    have : b = w.heap.size := by
      simp only [blk] at hb
      split at hb
      · cases hb
      · injection hb with hb; exact hb.symm
    subst this
    exact .inr ⟨Nat.le_refl _, by simp⟩
  rcases hown with ⟨A, rfl, e2, e3⟩ | ⟨g, cap, cur, rfl, hcp, hh, hle, hcm, hcs, hxl, htk⟩
  · have hx0 : xs = [] := List.eq_nil_of_length_eq_zero (by simpa using e2)
    subst hx0
    have hold : (Builtin.firstCells 1 0 (.slice A 0 0)).run P w.drew = .ok ([] : List Value).toArray w.drew := by
      cases A with
      | none => simp [Builtin.firstCells]
      | some b =>
        have := run_loadCells_list (P := P) w.drew b [] (by simp)
        simpa [Builtin.firstCells] using this
    have hr := run_appz_grow (ty := o.type) ht ht2 hi hzero hs hold h0 (by simpa using hb) hby (by omega)
    exact fin _ _ hr (grown 0 (by omega)) (hgr _ _) (hnew _ _ _)
  · rw [Nat.mul_one] at hxl htk hcs
    by_cases hroom : xs.length + m ≤ cap
    · have hr := run_appz_room (ty := o.type) ht ht2 hi hzero hs hh h0 hm1 hby hroom (by omega)
      refine fin _ _ hr (.inr ⟨g, cap, _, rfl, hcp, setRow_heap w g cur _ e _ hh, hroom, hcm, ?_, by simp, ?_⟩) ⟨rfl, rfl, rfl, by simp, fun k _ hk => setRow_other w g k _ (fun e => hk (by simp [blk, e]; omega))⟩ (fun b hb => .inl ?_)
      · simp; omega
      · rw [htk, List.map_append]
        have : ((xs.map (Value.int k)) ++ (List.replicate m 0).map (Value.int k)).length = xs.length + m := by simp
        rw [Nat.mul_one, ← this]
        exact List.take_left
      · simp only [blk] at hb ⊢
        split at hb
        · cases hb
        · rw [if_neg (by omega)]; exact hb
    · have hold := run_firstCells_some (P := P) w.drew 1 xs.length ⟨g, 0, none⟩ xs.length cap (xs.map (Value.int k)) (by simp) (cells_ints hh htk)
      have hr := run_appz_grow (ty := o.type) ht ht2 hi hzero hs hold h0 hb hby (by omega)
      exact fin _ _ hr (grown cap (by omega)) (hgr _ _) (hnew _ _ _)

def digI : Nat → Nat → List Int
  | 0, _ => []
  | n + 1, t => ((t % 256 : Nat) : Int) :: digI n (t / 256)
theorem digI_len : ∀ n t, (digI n t).length = n
  | 0, _ => rfl
  | n + 1, t => by simp [digI, digI_len n]
theorem digI_wf : ∀ n t, ∀ x ∈ digI n t, IntKind.u8.wrap x = x
  | 0, _, x, h => by simp [digI] at h
  | n + 1, t, x, h => by
    simp only [digI, List.mem_cons] at h
    rcases h with rfl | h
    · rw [wrap_in]; simp [loK, hiK]; omega
    · exact digI_wf n _ x h
theorem digits_eq : ∀ n t (acc : Array Value), (Extern.BytealgMakeNoZero.digits n t acc).toList = acc.toList ++ (digI n t).map (Value.int .u8)
  | 0, _, acc => by simp [Extern.BytealgMakeNoZero.digits, digI]
  | n + 1, t, acc => by
    rw [Extern.BytealgMakeNoZero.digits, digits_eq n]
    simp [digI]

theorem run_mnz {w : World} (ps : Array TypeId) {t e : TypeId} (ht : P.underlying t = some (.slice e)) (n : Nat) (hn : n ≤ 281474976710656) :
    ∃ zs : List Int, n ≤ zs.length ∧ (n ≤ maxLen → zs.length ≤ maxLen) ∧ (∀ x ∈ zs, IntKind.u8.wrap x = x) ∧
      (Extern.BytealgMakeNoZero.makeNoZero ps #[t] #[.int .i64 n]).run P w = .ok (.slice (some ⟨w.heap.size, 0, none⟩) n zs.length) (w.drew.drew.alloc (.cells (zs.map (Value.int .u8)).toArray e)) := by
  have hdef : Extern.BytealgMakeNoZero.makeNoZero ps #[t] #[.int .i64 n] =
      (do
        let .slice elem ← underlying t | stuck "bytealg.MakeNoZero: slice type expected"
        if (n : Int) < 0 || (n : Int) > 2 ^ 48 then runtimePanic (.error "makeslice: len out of range")
        let cap ← choose (.appendCap (n : Int).toNat 0 elem)
        askRoom cap
        let bytes ← choose (.extern "internal/bytealg.MakeNoZero.bytes" 0)
        let a ← newRow elem (Extern.BytealgMakeNoZero.digits cap bytes #[])
        pure (.slice (some a) (n : Int).toNat cap)) := rfl
  have ed : ∀ cap t, Extern.BytealgMakeNoZero.digits cap t #[] = ((digI cap t).map (Value.int .u8)).toArray := fun cap t => by
    apply Array.ext'
    rw [digits_eq]
    simp
  refine ⟨digI (grownCap w n 0 e) ((Question.extern "internal/bytealg.MakeNoZero.bytes" 0).cut (w.tape (w.drawn + 1) (.extern "internal/bytealg.MakeNoZero.bytes" 0))), ?_, ?_, digI_wf _ _, ?_⟩
  · rw [digI_len]
    simpa using grownCap_ge w n 0 e
  · intro hm
    rw [digI_len]
    simpa using grownCap_le_maxLen w n 0 e hm
  · rw [hdef, digI_len]
    have h1 : ¬ (n : Int) < 0 := by omega
    have h2 : ¬ (281474976710656 : Int) < (n : Int) := by omega
    simp [run_underlying ht, h1, h2, Question.forced, newRow, grownCap, ed]

/-- A row of whatever bytes. -/
theorem ao_mnz {x : Bool} {o : Oper} {f : FuncId} {fn : Func} {y : Operand} {t2 t e : TypeId} {ps : Array TypeId} {n : Nat} {K : AState → AVal → Prop}
    (ho : o.op = .call { callee := .value (.func f), args := #[y], argTypes := #[t2] }) (hc : constOk P t2 y) (hy : aev P s t2 y = .d (.int .i64 n))
    (hf : P.funcs[f]? = some fn) (hname : (fn.name == "runtime.NumGoroutine") = false) (hb : fn.body.isNone = true) (hn : Extern.findNext fn = none) (he : Extern.find fn = some (Extern.BytealgMakeNoZero.makeNoZero ps #[t]))
    (ht : P.underlying t = some (.slice e)) (h0 : 0 < n) (hl : n ≤ 140737488355328)
    (hK : ∀ zs : List Int, zs.length = n → K (s.newO (.row .u8 e zs)) (.own s.nx)) : AOther P C x s o K := by
  refine ⟨fun β S a w h => ?_⟩
  have hyv := aev_rel h hc
  rw [hy] at hyv
  obtain ⟨hyv, _⟩ := d_int hyv
  obtain ⟨zs, h1, h2, h3, h4⟩ := run_mnz (P := P) (w := w) ps ht n (by omega)
  have hmx := h2 (by unfold maxLen; omega)
  have e1 : (callFunc f #[.int .i64 n]).run P w = .ok (.value (.slice (some ⟨w.heap.size, 0, none⟩) n zs.length)) (w.drew.drew.alloc (.cells (zs.map (Value.int .u8)).toArray e)) := by
    rw [run_callFunc_extern hf hname hb hn he, h4]
    rfl
  rw [← hyv] at e1
  have hg : w.grownBy (w.drew.drew.alloc (.cells (zs.map (Value.int .u8)).toArray e)) none :=
    ⟨rfl, rfl, rfl, by simp, fun b hb _ => by
      show (w.heap.push _)[b]? = _
      rw [Array.getElem?_push, if_neg (by omega)]⟩
  have htl : (zs.take n).length = n := by rw [List.length_take]; omega
  refine ⟨.slice (some ⟨w.heap.size, 0, none⟩) n zs.length, _, _, .own s.nx, updO β s.nx (.slice (some ⟨w.heap.size, 0, none⟩) n zs.length), S, .inl ?_, fun _ b hb => hg.block b hb (by simp), h.fresh hg (o' := .row .u8 e (zs.take n)) (v := .slice (some ⟨w.heap.size, 0, none⟩) n zs.length) (fun b hb => ?_) ?_, by simp only [VRel, updO, if_true], hK _ htl⟩
  · have hf' : a.eval (.func f) = .func (.func f) #[] #[] := rfl
    simp only [execOp, ho, resolve, hf', Deferred.ofValue, Sem.run_bind, Sem.run_pure, Result.andThen_ok, invoke]
    simpa using e1
  · have : b = w.heap.size := by
      simp only [blk] at hb
      split at hb
      · cases hb
      · injection hb with hb; exact hb.symm
    subst this
    simp
  · simp only [ORel]
    refine ⟨.inr ⟨w.heap.size, zs.length, (zs.map (Value.int .u8)).toArray, by rw [htl], by omega, ?_, by omega, hmx, by simp, by simp, ?_⟩, fun x hx => h3 x (List.mem_of_mem_take hx), by rw [htl]; exact hl⟩
    · show (w.heap.push _)[w.heap.size]? = _
      rw [Array.getElem?_push, if_pos rfl]
    · rw [htl, Nat.mul_one, List.map_take]
theorem sliceBounds3n {w : World} {b : Bool} {len cap h m : Nat} {k k2 : IntKind} (h1 : h ≤ m) (h2 : m ≤ cap) :
    (Instr.sliceBounds b len cap none (some (.int k (h : Int))) (some (.int k2 (m : Int)))).run P w = .ok (0, h, m) w := by
  have e1 : (0 : Int) ≤ m ∧ (m : Int) ≤ (cap : Int) := ⟨by omega, by omega⟩
  have e2 : (0 : Int) ≤ h ∧ (h : Int) ≤ (m : Int) := ⟨by omega, by omega⟩
  unfold Instr.sliceBounds
  simp only [Sem.run_bind, Sem.run_pure, Result.andThen_ok, sliceBound_run e1]
  simp [sliceBound_run e2]

theorem CSpec.args {f : FuncId} {args args' : List AVal} {st : List (Nat × Ob)} {m : Nat} {K : List (Nat × Ob) → Nat → AVal → Prop} (h : CSpec P f args st m K) (ha : ∀ w β S vs, VAll w β S args' vs → VAll w β S args vs) : CSpec P f args' st m K :=
  ⟨h.1, fun w β S vs hs hβ hv => h.2 w β S vs hs hβ (ha w β S vs hv)⟩
/-- A nil slice is an empty one. -/
theorem nls_d {w : World} {β : Nat → Option Value} {S : Nat → Prop} {k : IntKind} {v : Value} (h : VRel w β S (.nls (.ints k [])) v) : VRel w β S (.d (.ints k [])) v := by
  simp only [VRel] at h ⊢
  refine ⟨[v], ?_, rfl⟩
  simp only [Rep]
  exact ⟨none, 0, by rw [h.1]; rfl, Nat.le_refl _, Nat.zero_le _, by simp, fun h => (h rfl).elim⟩

/-- An owned row, cut with its room. -/
theorem ao_slice3 {x : Bool} {o : Oper} {y h0 m0 : Operand} {t e : TypeId} {k : IntKind} {e' : TypeId} {xs : List Int} {j n m : Nat} {K : AState → AVal → Prop} (ho : o.op = .slice t y none (some h0) (some m0)) (hc : constOk P t y) (hc2 : constOk P 0 h0) (hc3 : constOk P 0 m0)
    (ht : P.underlying t = some (.slice e)) (hsz : szT P e = some 1) (hy : aev P s t y = .own j) (hh : aev P s 0 h0 = .d (.int .i64 n)) (hm0 : aev P s 0 m0 = .d (.int .i64 m)) (hj : getO s.st j = some (.row k e' xs)) (hnm : n ≤ m) (hmx : m ≤ xs.length) (hne : 0 < m)
    (hK : K s (.view j 0 n)) : AOther P C x s o K := by
  refine ⟨fun β S a w h => ?_⟩
  have hyv := aev_rel h hc
  have hhv := aev_rel h hc2
  have hmv := aev_rel h hc3
  rw [hy] at hyv
  rw [hh] at hhv
  rw [hm0] at hmv
  obtain ⟨hhv, _⟩ := d_int hhv
  obtain ⟨hmv, _⟩ := d_int hmv
  obtain ⟨bv, hβ, hob⟩ := h.st.obj j _ (getO_mem hj)
  simp only [VRel] at hyv
  rw [hβ] at hyv
  injection hyv with hyv
  simp only [ORel] at hob
  rcases hob.1 with ⟨A, e1, e2, _⟩ | ⟨g, cap, cur, e1, hcp, hheap, hle, hmax, hcs, _, _⟩
  · omega
  · have hrun : (Instr.sliceAt t (.slice (some ⟨g, 0, none⟩) xs.length cap) none (some (.int .i64 n)) (some (.int .i64 m))).run P w = .ok (.slice (some ⟨g, 0, none⟩) n m) w := by
      simp only [Instr.sliceAt, Sem.run_bind, run_underlying ht, Result.andThen_ok, Instr.slice, sliceBounds3n hnm (show m ≤ cap by omega), run_sizeT hsz, Sem.run_pure]
      simp [addr_add]
    refine ⟨.slice (some ⟨g, 0, none⟩) n m, w, s, .view j 0 n, β, S, .inl ?_, fun _ => Ext.refl w, h, ?_, hK⟩
    · simp only [execOp, ho, Option.map_none, Option.map_some, hhv, hmv, ← hyv, e1]
      exact run_value2 hrun
    · simp only [VRel]
      refine ⟨some ⟨g, 0, none⟩, m, rfl, hnm, fun _ => ⟨g, ?_, rfl⟩⟩
      rw [hβ, e1]
      simp only [Option.bind_some, blk]
      rw [if_neg (by omega)]

theorem str_cells (s : ByteArray) : ((s.extract 0 s.size).data.map fun b => Value.int .u8 b.toNat) = ((bytesOf s).map (Value.int .u8)).toArray := by
  have e : s.extract 0 s.size = s := by
    apply ByteArray.ext
    simp
  rw [e]
  apply Array.ext'
  simp [bytesOf, Function.comp_def]
theorem bytesOf_len (s : ByteArray) : (bytesOf s).length = s.size := by
  unfold bytesOf
  rw [List.length_map]
  rfl
theorem run_first_str {s : ByteArray} {m : Nat} (hm : s.size = m) (w : World) : (Builtin.firstCells 1 m (.string s)).run P w = .ok ((bytesOf s).map (Value.int .u8)).toArray w := by
  subst hm
  show (pure ((s.extract 0 s.size).data.map fun b => Value.int .u8 b.toNat) : Sem (Array Value)).run P w = _
  rw [str_cells]
  rfl
theorem bytesOf_wf (s : ByteArray) : ∀ x ∈ bytesOf s, IntKind.u8.wrap x = x := fun x hx => by
  simp only [bytesOf, List.mem_map] at hx
  obtain ⟨b, _, rfl⟩ := hx
  have := b.toNat_lt
  rw [wrap_in]; simp [loK, hiK]; omega

/-- There is room. -/
theorem run_apps_room {w : World} {t t2 ty e : TypeId} {i : TypeInfo} (ht : P.underlying t = some (.slice e)) (ht2 : P.underlying t2 = some .string) (hi : P.info? e = some i) (hs : i.size = 1)
    {g n cap m : Nat} {cur : Array Value} {str : ByteArray} (hg : w.heap[g]? = some (.cells cur e (0, 0))) (hm : str.size = m) (hroom : n + m ≤ cap) (hfit : n + m ≤ cur.size) :
    (Builtin.append_ #[t, t2] ty #[.slice (some ⟨g, 0, none⟩) n cap, .string str]).run P w =
      .ok (.slice (some ⟨g, 0, none⟩) (n + m) cap) (w.setRow g (cur.toList.take n ++ (bytesOf str).map (Value.int .u8) ++ cur.toList.drop (n + m)).toArray) := by
  have hbl := bytesOf_len str
  have hst := run_storeCells_at P g n e ((bytesOf str).map (Value.int .u8)) 0 cur w hg (by simpa [hbl, hm] using hfit) (ones_ints .u8 _)
  simp only [Nat.add_zero, List.length_map, hbl, hm, List.append_assoc] at hst
  have hc := run_first_str (P := P) hm
  simp [Builtin.append_, run_underlying ht, run_underlying ht2, sizeOf, typeInfo, hi, hs, Builtin.lenOf, hm, hroom, hc, Addr.add_lit, hst]

/-- There is none. -/
theorem run_apps_grow {w : World} {t t2 ty e : TypeId} {i : TypeInfo} (ht : P.underlying t = some (.slice e)) (ht2 : P.underlying t2 = some .string) (hi : P.info? e = some i) (hz : i.zero = some (.int .u8 0)) (hs : i.size = 1)
    {A : Option Addr} {n cap m : Nat} {olds : List Value} {str : ByteArray} (hold : (Builtin.firstCells 1 n (.slice A n cap)).run P w.drew = .ok olds.toArray w.drew) (hmz : str.size = m) (hm : (n + m) * i.bytes ≤ 140737488355328) (hby : 1 ≤ i.bytes) (hroom : cap < n + m) :
    (Builtin.append_ #[t, t2] ty #[.slice A n cap, .string str]).run P w =
      .ok (.slice (some ⟨w.heap.size, 0, none⟩) (n + m) (grownCap w (n + m) cap e))
        (w.drew.alloc (.cells (olds.toArray ++ ((bytesOf str).map (Value.int .u8)).toArray ++ Builtin.zeroCells #[Value.int .u8 0] (grownCap w (n + m) cap e - (n + m))) e)) := by
  have hmm : n + m ≤ (n + m) * i.bytes := Nat.le_mul_of_pos_right _ hby
  have hn : ¬ (n + m ≤ cap) := by omega
  have h63' : ¬ (9223372036854775807 < ((n : Int) + (m : Int))) := by omega
  have hb0 : i.bytes ≠ 0 := by omega
  have h48' : ¬ (281474976710656 < Builtin.nextslicecap (n + m) cap * i.bytes) := by have := growslice_fits (bytes := i.bytes) hroom hm; omega
  have hc := run_first_str (P := P) hmz
  simp [Builtin.append_, run_underlying ht, run_underlying ht2, sizeOf, typeInfo, zeroValue, hi, hz, hs, Builtin.lenOf, hmz, hn, h63', h48', hb0, Question.forced, hold, hc, Value.cells, newRow, grownCap]
  rw [← List.append_toArray, Array.append_assoc]

/-- An append of a text's bytes to an owned row. -/
theorem ao_appS {x : Bool} {o : Oper} {y z : Operand} {t t2 e : TypeId} {i : TypeInfo} {xs ys : List Int} {j : Nat} {K : AState → AVal → Prop}
    (ho : o.op = .call { callee := .builtin .append, args := #[y, z], argTypes := #[t, t2] }) (hc : constOk P t y) (hc2 : constOk P t2 z) (hy : aev P s t y = .own j) (hz : aev P s t2 z = .d (.str ys))
    (ht : P.underlying t = some (.slice e)) (ht2 : P.underlying t2 = some .string) (hi : P.info? e = some i) (hzero : i.zero = some (.int .u8 0)) (hs : i.size = 1) (hby : 1 ≤ i.bytes) (h0 : 0 < ys.length) (hj : getO s.st j = some (.row .u8 e xs)) (hjm : C.m ≤ j) (hx : x = true → False)
    (hb : (xs.length + ys.length) * i.bytes ≤ 140737488355328) (hK : K (s.moved j (.row .u8 e (xs ++ ys))) (.own j)) : AOther P C x s o K := by
  refine ⟨fun β S a w h => ?_⟩
  have hyv := aev_rel h hc
  have hzv := aev_rel h hc2
  rw [hy] at hyv
  rw [hz] at hzv
  obtain ⟨str, hzv, hstr, _⟩ := d_str hzv
  obtain ⟨bv, hβ, hob⟩ := h.st.obj j _ (getO_mem hj)
  have hyv0 := hyv
  simp only [VRel] at hyv
  rw [hβ] at hyv
  injection hyv with hyv
  simp only [ORel] at hob
  obtain ⟨hown, hwf, hlim⟩ := hob
  obtain ⟨m, hmd⟩ : ∃ m, m = ys.length := ⟨_, rfl⟩
  have hsm : str.size = m := by rw [hmd, ← hstr, bytesOf_len]
  rw [← hmd] at h0 hb
  have hnm : xs.length + m ≤ 140737488355328 := Nat.le_trans (Nat.le_mul_of_pos_right _ hby) hb
  have hmax : xs.length + m ≤ maxLen := by unfold maxLen; omega
  have fin : ∀ (v' : Value) (w' : World), (Builtin.append_ #[t, t2] o.type #[bv, .string str]).run P w = .ok v' w' → OwnsV w' e 1 v' (xs.length + m) ((xs ++ ys).map (Value.int .u8)) → w.grownBy w' (blk bv) →
      (∀ b, blk v' = some b → (blk bv = some b ∨ (w.heap.size ≤ b ∧ b < w'.heap.size))) →
      ∃ v w' s' r β' S', ((execOp a.eval o).run P w = .ok (.value v) w' ∨ (v = undef ∧ (execOp a.eval o).run P w = .ok .skip w')) ∧ (x = true → Ext w w') ∧ ARelB C s' β' S' a w' ∧ VRel w' β' S' r v ∧ K s' r := fun v' w' h1 h2 h3 h4 => by
    rw [hyv, ← hzv] at h1
    refine ⟨v', w', _, .own j, updO β j v', S, .inl ?_, fun hx' => (hx hx').elim, h.move hjm (o' := .row .u8 e (xs ++ ys)) (getO_mem hj) hβ h3 h4 ?_, by simp only [VRel, updO, if_true], hK⟩
    · simp [execOp, ho, resolve, invoke, builtin, h1]
    · simp only [ORel]
      refine ⟨by rw [List.length_append, ← hmd]; exact h2, fun z hz => ?_, by rw [List.length_append, ← hmd]; unfold LIM; omega⟩
      rcases List.mem_append.1 hz with hz | hz
      · exact hwf z hz
      · rw [← hstr] at hz; exact bytesOf_wf str z hz
  -- the row that is made anew
  have grown : ∀ (cap : Nat), cap < xs.length + m →
      OwnsV (w.drew.alloc (.cells ((xs.map (Value.int .u8)).toArray ++ ((bytesOf str).map (Value.int .u8)).toArray ++ Builtin.zeroCells #[Value.int .u8 0] (grownCap w (xs.length + m) cap e - (xs.length + m))) e)) e 1
        (.slice (some ⟨w.heap.size, 0, none⟩) (xs.length + m) (grownCap w (xs.length + m) cap e)) (xs.length + m) ((xs ++ ys).map (Value.int .u8)) := fun cap hc => by
    have hge := grownCap_ge w (xs.length + m) cap e
    refine .inr ⟨w.heap.size, _, _, rfl, by omega, heap_alloc_new w.drew _, hge, grownCap_le_maxLen w _ cap e hmax, ?_, by simp [← hmd], ?_⟩
    · simp [size_zeroCells, hstr, ← hmd]; omega
    · have e1 : (xs.map (Value.int .u8) ++ ys.map (Value.int .u8)).length = xs.length + m := by simp [← hmd]
      rw [List.map_append, Nat.mul_one, ← e1, hstr]
      simp only [Array.toList_append]
      exact List.take_left
  have hgr : ∀ (o : Obj) (row : Option Nat), w.grownBy (w.drew.alloc o) row := fun o row => ⟨rfl, rfl, rfl, by simp, fun b hb _ => heap_alloc_old w.drew _ hb⟩
  have hnew : ∀ (o : Obj) (n c b : Nat), blk (.slice (some ⟨w.heap.size, 0, none⟩) n c) = some b → (blk bv = some b ∨ (w.heap.size ≤ b ∧ b < (w.drew.alloc o).heap.size)) := fun o n c b hb => by
    have : b = w.heap.size := by
      simp only [blk] at hb
      split at hb
      · cases hb
      · injection hb with hb; exact hb.symm
    subst this
    exact .inr ⟨Nat.le_refl _, by simp⟩
  rcases hown with ⟨A, rfl, e2, e3⟩ | ⟨g, cap, cur, rfl, hcp, hh, hle, hcm, hcs, hxl, htk⟩
  · have hx0 : xs = [] := List.eq_nil_of_length_eq_zero (by simpa using e2)
    subst hx0
    have hold : (Builtin.firstCells 1 0 (.slice A 0 0)).run P w.drew = .ok ([] : List Value).toArray w.drew := by
      cases A with
      | none => simp [Builtin.firstCells]
      | some b =>
        have := run_loadCells_list (P := P) w.drew b [] (by simp)
        simpa [Builtin.firstCells] using this
    have hr := run_apps_grow (ty := o.type) ht ht2 hi hzero hs hold hsm (by simpa using hb) hby (by omega)
    exact fin _ _ hr (grown 0 (by simpa using h0)) (hgr _ _) (hnew _ _ _)
  · rw [Nat.mul_one] at hxl htk hcs
    by_cases hroom : xs.length + m ≤ cap
    · have hr := run_apps_room (ty := o.type) ht ht2 hi hs hh hsm hroom (by omega)
      refine fin _ _ hr (.inr ⟨g, cap, _, rfl, hcp, setRow_heap w g cur _ e _ hh, hroom, hcm, ?_, by simp [← hmd], ?_⟩) ⟨rfl, rfl, rfl, by simp, fun k _ hk => setRow_other w g k _ (fun e => hk (by simp [blk, e]; omega))⟩ (fun b hb => .inl ?_)
      · simp [bytesOf_len, hsm]; omega
      · rw [htk, List.map_append, hstr]
        have : ((xs.map (Value.int .u8)) ++ ys.map (Value.int .u8)).length = xs.length + m := by simp [← hmd]
        rw [Nat.mul_one, ← this]
        exact List.take_left
      · simp only [blk] at hb ⊢
        split at hb
        · cases hb
        · rw [if_neg (by omega)]; exact hb
    · have hold := run_firstCells_some (P := P) w.drew 1 xs.length ⟨g, 0, none⟩ xs.length cap (xs.map (Value.int .u8)) (by simp) (cells_ints hh htk)
      have hr := run_apps_grow (ty := o.type) ht ht2 hi hzero hs hold hsm hb hby (by omega)
      exact fin _ _ hr (grown cap (by omega)) (hgr _ _) (hnew _ _ _)
end Go.Proofs.YtniaeiikdgbnfaaDoor.AW
namespace Go.Proofs.YtniaeiikdgbnfaaDoor.AW
open Go Go.RowKit
set_option linter.unusedSectionVars false
variable [Globs]
variable {P : Program} {C : Ctx} {s : AState} {β : Nat → Option Value} {S : Nat → Prop} {a : Act} {w : World}

/-- A block that nobody owns is never written again. -/
theorem ARelB.addS (h : ARelB C s β S a w) {g : Nat} (hlt : g < w.heap.size) (hno : ¬ Owned β s.st g) (hfr : C.E0 g ∨ C.w0.heap.size ≤ g) (hdef : ∀ d, w.heap[g]? ≠ some (.deferred d)) : ARelB C s β (fun b => S b ∨ b = g) a w := by
  have hS : ∀ b, S b → (S b ∨ b = g) ∧ w.heap[b]? = w.heap[b]? := fun b hb => ⟨.inl hb, rfl⟩
  refine ⟨fun t => VRel.keep hS (fun _ _ e => e) _ _ (h.fr t), h.size, ⟨fun j o hj => ?_, h.st.nodup, h.st.apart, fun b hb => ⟨fun hs => ?_, (h.st.own b hb).2⟩, fun b hb => ?_, h.st.gl.keep hS⟩,
    ⟨h.frame.size, h.frame.os, h.frame.tape, h.frame.output, h.frame.old, fun b hb => ?_, h.frame.own⟩, h.nx, ?_, h.pin, h.nxm⟩
  · obtain ⟨v, hv, hr'⟩ := h.st.obj j o hj
    exact ⟨v, hv, hr'.keep hS (fun _ _ e => e) fun b hb => rfl⟩
  · rcases hs with hs | hs
    · exact (h.st.own b hb).1 hs
    · subst hs; exact hno hb
  · rcases hb with hb | hb
    · exact h.st.inS b hb
    · subst hb; exact hlt
  · rcases hb with hb | hb
    · exact h.frame.inS b hb
    · subst hb; exact .inr hfr
  · exact h.defers.keep fun D hD hS => ⟨hD, fun hs => hs.elim hS fun e => by subst e; exact hdef _ hD⟩

theorem freeze_heap {g k : Nat} {cur : Array Value} {e : TypeId} (hh : w.heap[g]? = some (.cells cur e (0, 0))) : (w.freeze ⟨g, k, none⟩ 1).heap[g]? = some (.cells cur e (k, k + 1)) := by
  unfold World.freeze
  rw [if_neg (by decide)]
  simp only [Array.getElem?_modify, if_true, hh, Option.map_some]
  rfl
theorem freeze_other {g k b : Nat} (hne : b ≠ g) : (w.freeze ⟨g, k, none⟩ 1).heap[b]? = w.heap[b]? := by
  unfold World.freeze
  rw [if_neg (by decide)]
  simp only [Array.getElem?_modify]
  rw [if_neg (fun h => hne h.symm)]

theorem run_convB {t e : TypeId} {g n c : Nat} {cur : Array Value} (ht : P.underlying t = some (.slice e)) (he : P.underlying e = some (.int .u8)) (hh : w.heap[g]? = some (.cells cur e (0, 0))) :
    (convert t t (.slice (some ⟨g, 0, none⟩) n c)).run P w = .ok (.slice (some ⟨g, 0, none⟩) n c) (w.freeze ⟨g, cur.size, none⟩ 1) := by
  have hsh : w.shape? g = some (e, cur.size) := by
    unfold World.shape?
    rw [hh]
  simp [convert, run_underlying ht, run_underlying he, markStringish, hsh]

theorem ao_convB {x : Bool} {o : Oper} {y : Operand} {t e : TypeId} {xs : List Int} {j : Nat} {K : AState → AVal → Prop}
    (ho : o.op = .convert t t y) (hc : constOk P t y) (hy : aev P s t y = .own j) (ht : P.underlying t = some (.slice e)) (he : P.underlying e = some (.int .u8)) (hj : getO s.st j = some (.row .u8 e xs)) (hjm : C.m ≤ j) (h0 : 0 < xs.length) (hx : x = true → False)
    (hK : K { s with st := setOd j (.row .u8 e []) s.st, fr := fun t => dropV j (s.fr t) } (.d (.ints .u8 xs))) : AOther P C x s o K := by
  refine ⟨fun β S a w h => ?_⟩
  have hyv := aev_rel h hc
  rw [hy] at hyv
  obtain ⟨bv, hβ, hob⟩ := h.st.obj j _ (getO_mem hj)
  simp only [VRel] at hyv
  rw [hβ] at hyv
  injection hyv with hyv
  simp only [ORel] at hob
  obtain ⟨hown, hwf, hlim⟩ := hob
  rcases hown with ⟨A, e1, e2, _⟩ | ⟨g, cap, cur, e1, hcp, hheap, hle, hmax, hcs, hxl, htk⟩
  · omega
  · obtain ⟨w', hw'⟩ : ∃ w', w' = w.freeze ⟨g, cur.size, none⟩ 1 := ⟨_, rfl⟩
    have hrun := run_convB (P := P) (n := xs.length) (c := cap) ht he hheap
    rw [← hw'] at hrun
    have hbv : blk bv = some g := by rw [e1]; simp [blk]; omega
    have hsz : w'.heap.size = w.heap.size := by rw [hw']; unfold World.freeze; rw [if_neg (by decide)]; simp
    have hg : w.grownBy w' (blk bv) := ⟨by rw [hw']; unfold World.freeze; rw [if_neg (by decide)], by rw [hw']; unfold World.freeze; rw [if_neg (by decide)], by rw [hw']; unfold World.freeze; rw [if_neg (by decide)], by omega, fun b _ hb => by
      rw [hw']; exact freeze_other fun e => hb (by rw [hbv, e])⟩
    have hmv := h.move (w' := w') hjm (o' := .row .u8 e []) (v' := .slice (some ⟨g, 0, none⟩) 0 0) (getO_mem hj) hβ hg (fun b hb => by simp [blk] at hb) (by simp only [ORel]; exact ⟨.inl ⟨_, rfl, rfl, rfl⟩, by simp, by simp⟩)
    have hglt : g < w'.heap.size := by rw [hsz]; exact (Array.getElem?_eq_some_iff.1 hheap).1
    have hog : Owned β s.st g := ⟨j, _, getO_mem hj, by rw [hβ]; exact hbv⟩
    have hno : ¬ Owned (updO β j (.slice (some ⟨g, 0, none⟩) 0 0)) (setOd j (.row .u8 e []) s.st) g := by
      rintro ⟨i, q, hi, hb⟩
      by_cases hij : i = j
      · subst hij; simp [updO, blk] at hb
      · have hb' : (β i).bind blk = some g := by simpa [updO, hij] using hb
        obtain ⟨q', hq'⟩ : ∃ q', (i, q') ∈ s.st := by
          have := mem_setOd hi
          rcases this with ⟨rfl, _⟩ | ⟨_, q', hq', _⟩
          · exact absurd rfl hij
          · exact ⟨q', hq'⟩
        exact h.st.apart i q' j _ hq' (getO_mem hj) hij g hb' (by rw [hβ]; exact hbv)
    have hadd := hmv.addS hglt hno (h.frame.own g hog) (fun d => by rw [hw', freeze_heap hheap]; simp)
    refine ⟨.slice (some ⟨g, 0, none⟩) xs.length cap, w', _, .d (.ints .u8 xs), _, _, .inl ?_, fun hx' => (hx hx').elim, hadd, ?_, hK⟩
    · simp only [execOp, ho, ← hyv, e1]
      exact run_value2 hrun
    · simp only [VRel, Rep]
      refine ⟨_, ⟨some ⟨g, 0, none⟩, cap, rfl, hle, by simpa using hlim, hwf, fun _ => ⟨g, 0, rfl, .inr rfl, ?_⟩⟩, rfl⟩
      intro i u hu
      have hi : i < xs.length := by
        have := (List.getElem?_eq_some_iff.1 hu).1
        simpa using this
      rw [Nat.mul_one] at htk
      rw [← htk, List.getElem?_take_of_lt hi] at hu
      rw [hw']
      simp only [World.cell?, freeze_heap hheap, Nat.zero_add]
      simpa using hu
end Go.Proofs.YtniaeiikdgbnfaaDoor.AW
