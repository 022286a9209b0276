/- The abstract walker, part 26: the law of a loop over a function. -/
import Derived.Test.YtniaeiikdgbnfaaAW25
namespace Go.Proofs.Ytniaeiikdgbnfaa.AW
open Go Go.RowKit

def pend : Exit → Option Code
  | .ret => some .ret
  | .exit id => some (.exit id)
  | _ => none

section
variable {P : Program} {C : Ctx} {s : AState} {T : Told} {β : Nat → Option Value} {S : Nat → Prop} {a : Act} {w : World}

theorem grown_put (W : World) (l : Nat) (o : Obj) : W.grownBy (W.putObj l o) (some l) :=
  ⟨rfl, rfl, rfl, by simp, fun k _ hk => World.putObj_heap_other (fun e => hk (by rw [e]))⟩

theorem not_owned_of {st : List (Nat × Ob)} (h : SRel w β S st) {l : Nat} {o : Obj} (hl : w.heap[l]? = some o) (ho : ∀ cs t f, o ≠ .cells cs t f) : ¬ Owned β st l := fun hb => by
  obtain ⟨cs, t, hc⟩ := h.cells hb
  rw [hl] at hc
  injection hc with hc
  exact ho _ _ _ hc

/-- THE LAW. -/
theorem AWp.rangeFunc {ι : Type} {g : Operand} {ps : Array Tmp} {assign body : Code} {Q : Exit → AState → Prop} (T : Told) {gf : FuncId} {caps : List D} {n : Nat} {es : Nat → List D} (hit : AIter P gf caps n es)
    (sl : List (Nat × AVal)) (st : ι → List (Nat × Ob)) (n0 nx p : Nat) (φ : Nat → ι → Prop) (χ : Exit → ι → Prop)
    (hrd : C.rd = none) (hgc : constOk P 0 g) (hg : aev P s 0 g = .d (.fn gf caps)) (hes : ∀ k, k < n → (es k).length = ps.size) (hps : ps.toList.all (fun t => decide (t < n0)) = true) (hnd : nodupB ps.toList = true)
    (hp : C.m ≤ p) (hpx : p ≤ nx) (hsl : belowS p sl = true) (h0 : ∃ i l, l.length = nx ∧ φ 0 i ∧ Wk C.m s n0 sl (st i) l)
    (round : ∀ k i, k < n → φ k i → ∀ w0 S0 E0 B0 r, awp P ⟨w0, S0, E0, p, B0, some r⟩ T assign ⟨n0, frL (ps.toList.zip ((es k).map .d) ++ sl), st i, nx⟩
      (thenQ (fun s1 => ∀ w0 S0 E0 B0, awp P ⟨w0, S0, E0, p, B0, some r⟩ T body s1 (roundQ p nx st (φ (k + 1)) χ)) fun _ _ => False))
    (done : ∀ i, φ n i → Q .normal ⟨n0, frL sl, st i, nx⟩) (hret : ∀ i, χ .ret i → Q .ret ⟨n0, frL sl, st i, nx⟩) (hexit : ∀ id i, χ (.exit id) i → Q (.exit id) ⟨n0, frL sl, st i, nx⟩) :
    AWp P C (.rangeFunc g ps assign body) s Q := by
  refine ⟨fun a w ⟨β0, S, h⟩ => ?_⟩
  obtain ⟨i0, l0, hl0, hφ0, hw⟩ := h0
  obtain ⟨β, hB⟩ : ∃ β, ARelB C ⟨n0, frL sl, st i0, nx⟩ β S a w := ⟨_, by have := hw.relB h; rwa [hl0] at this⟩
  have hgv := aev_rel h hgc
  rw [hg] at hgv
  simp only [VRel, Rep] at hgv
  obtain ⟨cs, ⟨lb, rfl, hlb⟩, hgv⟩ := hgv
  replace hgv : a.eval g = .func (.func gf) #[] lb := hgv
  obtain ⟨enc, henc, hiter⟩ := hit.run w S lb hlb
  have hencs : ∀ k, k < n → (enc k).size = ps.size := fun k hk => by
    have := VAll.length _ _ (henc k hk)
    simpa [hes k hk] using this
  have hpl : ∀ t ∈ ps.toList, t < n0 := fun t ht => by simpa using List.all_eq_true.1 hps t ht
  rw [hrd]
  obtain ⟨CL, hCL⟩ : ∃ CL : Ctx, CL = ⟨w, S, Owned β (st i0), p, β, none⟩ := ⟨_, rfl⟩
  have hBL : ARelB CL ⟨n0, frL sl, st i0, nx⟩ β S { tmps := a.tmps, defers := [] } w := by
    rw [hCL]
    exact ⟨hB.fr, hB.size, hB.st, ⟨Nat.le_refl _, rfl, rfl, rfl, fun _ _ _ => rfl, fun b hb => .inl hb, fun b hb => .inl hb⟩, hB.nx, ⟨fun d hd => by simp at hd, by simp, fun _ => rfl⟩, fun _ _ => rfl, hpx⟩
  have hm : CL.m = p := by rw [hCL]
  have hw0 : CL.w0 = w := by rw [hCL]
  refine wpIn_rangeFunc fun fn hfn => ?_
  obtain ⟨rc, hrc⟩ : ∃ rc : LoopState → Option Code → Loop, rc = fun st pe => { state := st, pending := pe, fn, tmps := a.tmps, params := ps, assign, body, defers := w.heap.size } := ⟨_, rfl⟩
  obtain ⟨W1, hW1⟩ : ∃ W1, (w.alloc (.deferred (some []))).alloc (.loop (rc .ready none)) = W1 := ⟨_, rfl⟩
  have hL1 : W1.heap[w.heap.size + 1]? = some (.loop (rc .ready none)) := by
    rw [← hW1]; have := World.alloc_heap_new (w.alloc (.deferred (some []))) (.loop (rc .ready none)); rwa [World.size_alloc] at this
  have hK1 : W1.heap[w.heap.size]? = some (.deferred (some [])) := by
    rw [← hW1]; exact (Below.heap_alloc _ _ _ (by simp)).trans (World.alloc_heap_new w _)
  have hSlt : ∀ b, S b → b < w.heap.size := hB.st.inS
  have hIn1 : InLoop CL n0 nx sl (st i0) a.tmps w.heap.size (w.heap.size + 1) S (rc .ready none) W1 := by
    refine ⟨β, S, hL1, hK1, fun hs => ?_, fun hs => ?_, fun _ h => h, ?_⟩
    · have := hSlt _ hs; omega
    · have := hSlt _ hs; omega
    · rw [← hW1]; exact (hBL.grown (grown_alloc _ _) (by simp)).grown (grown_alloc _ _) (by simp)
  refine ⟨w.heap.size + 1, [{ target := .collected w.heap.size, args := #[] }], W1, { target := .fn (.func gf) lb, args := #[.func (.yield (w.heap.size + 1)) #[] #[]] }, W1, gf,
    #[.func (.yield (w.heap.size + 1)) #[] #[]] ++ lb, W1, ?_, ?_, fun _ _ => trivial, ?_, fun h => by simp [fence, Fence.wide] at h, ?_⟩
  · rw [← hW1, hrc]; exact run_enterLoop_outer _ _ _ _ _
  · simp only [resolve, hgv]
    simp [go_sem]
  · simp [invoke, go_sem, callFunc_enters hit.enters]
  refine callsIn_fence.2 (Calls.mono (hiter (w.heap.size + 1) (fun k W => ∃ i, φ k i ∧ InLoop CL n0 nx sl (st i) a.tmps w.heap.size (w.heap.size + 1) S (rc .ready none) W)
    (fun W => ∃ e c i, pend e = some c ∧ χ e i ∧ InLoop CL n0 nx sl (st i) a.tmps w.heap.size (w.heap.size + 1) S (rc .done (some c)) W) W1
    (fun k W W' ⟨i, h1, h2⟩ hg => ⟨i, h1, h2.grown hg⟩) (fun W W' ⟨e, c, i, h1, h2, h3⟩ hg => ⟨e, c, i, h1, h2, h3.grown hg⟩) ?_ ?_ ⟨i0, hφ0, hIn1⟩) ?_)
  · rintro k W ⟨i, h1, h2⟩ b hb
    obtain ⟨β', S', _, _, _, _, _, h6⟩ := h2.out
    have := h6.frame.old b (by rw [hw0]; exact hSlt b hb) (by rw [hCL]; exact fun ho => (hB.st.own b ho).1 hb)
    rw [hw0] at this
    exact this
  · -- one round
    rintro k W hk ⟨i, hφ, hin⟩
    obtain ⟨β1, S1, hl, hD, hnD, hnl, hSS, h1⟩ := hin.out
    have hllt : w.heap.size + 1 < W.heap.size := (Array.getElem?_eq_some_iff.1 hl).1
    have hDlt : w.heap.size < W.heap.size := (Array.getElem?_eq_some_iff.1 hD).1
    refine ⟨fn, _, assign, body, by have := run_yield (P := P) (args := enc k) hl (by rw [hrc]; exact hencs k hk); rw [hrc] at this; exact this, roundIn_of_wpIn hfn ?_⟩
    have hno1 : ¬ Owned β1 (st i) (w.heap.size + 1) := not_owned_of h1.st hl (by simp)
    have hnoD1 : ¬ Owned β1 (st i) w.heap.size := not_owned_of h1.st hD (by simp)
    have hencW : VAll W β1 S1 ((es k).map .d) (enc k).toList := by
      refine VAll.keep (fun b hb => ⟨hSS b hb, ?_⟩) (fun j u e => by cases e) _ _ (henc k hk)
      have := h1.frame.old b (by rw [hw0]; exact hSlt b hb) (by rw [hCL]; exact fun ho => (hB.st.own b ho).1 hb)
      rw [hw0] at this
      exact this
    have hsz : a.tmps.size = n0 := hB.size
    have hA : ARelB ⟨W, S1, Owned β1 (st i), p, β1, some (w.heap.size + 1)⟩ ⟨n0, frL (ps.toList.zip ((es k).map .d) ++ sl), st i, nx⟩ β1 S1
        { tmps := (ps.zip (enc k)).foldl (fun t (p, v) => t.setIfInBounds p v) a.tmps, defers := [] } W := by
      have e : (ps.zip (enc k)).foldl (fun t (x : Tmp × Value) => t.setIfInBounds x.1 x.2) a.tmps = (ps.toList.zip (enc k).toList).foldl (fun t (x : Tmp × Value) => t.setIfInBounds x.1 x.2) a.tmps := by
        rw [← Array.foldl_toList, Array.toList_zip]
      refine ⟨fun t => ?_, ?_, h1.st, ⟨Nat.le_refl _, rfl, rfl, rfl, fun _ _ _ => rfl, fun b hb => .inl hb, fun b hb => .inl hb⟩, h1.nx, ⟨fun d hd => by simp at hd, by simp, fun _ => rfl⟩, fun _ _ => rfl, hpx⟩
      · show VRel W β1 S1 _ (((ps.zip (enc k)).foldl (fun t (x : Tmp × Value) => t.setIfInBounds x.1 x.2) a.tmps).getD t undef)
        rw [e]
        exact frL_params (nodupB_spec hnd) (fun t ht => by rw [hsz]; exact hpl t ht) (by simp [hes k hk]) hencW h1.fr t
      · show ((ps.zip (enc k)).foldl (fun t (x : Tmp × Value) => t.setIfInBounds x.1 x.2) a.tmps).size = n0
        rw [e, foldl_size]; exact hsz
    refine wpIn_mono (awp_sound (C := ⟨W, S1, Owned β1 (st i), p, β1, some (w.heap.size + 1)⟩) assign ⟨β1, S1, hA⟩ (round k i hk hφ _ _ _ _ _)) ?_
    rintro e a1 W2 ⟨s1, ⟨β2, S2, h2⟩, hq⟩
    cases e <;> simp only [thenQ] at hq
    have h12 := h1.seg (by rw [hm]; exact Nat.le_refl _) (belowS_fr hsl) h2
    have hl2 : W2.heap[w.heap.size + 1]? = some (.loop (rc .ready none)) := (h2.frame.old _ hllt hno1).trans hl
    have hD2 : W2.heap[w.heap.size]? = some (.deferred (some [])) := (h2.frame.old _ hDlt hnoD1).trans hD
    have nS2 : ∀ b, b < W.heap.size → ¬ Owned β1 (st i) b → ¬ S1 b → ¬ (S1 b ∨ S2 b) := fun b hb ho hs hh => by
      rcases hh with hh | hh
      · exact hs hh
      · rcases h2.frame.inS b hh with h | h | h
        · exact hs h
        · exact ho h
        · simp only at h; omega
    have hnl2 := nS2 _ hllt hno1 hnl
    have hnD2 := nS2 _ hDlt hnoD1 hnD
    have hno2 : ¬ Owned β2 s1.st (w.heap.size + 1) := not_owned_of h2.st hl2 (by simp)
    refine ⟨_, run_beginRound hl2 (by rw [hrc]), ?_⟩
    obtain ⟨W3, hW3⟩ : ∃ W3, W2.putObj (w.heap.size + 1) (.loop { rc .ready none with state := .busy }) = W3 := ⟨_, rfl⟩
    rw [hW3]
    have hl3 : W3.heap[w.heap.size + 1]? = some (.loop { rc .ready none with state := .busy }) := by rw [← hW3]; exact World.putObj_heap_same (Array.getElem?_eq_some_iff.1 hl2).1
    have hD3 : W3.heap[w.heap.size]? = some (.deferred (some [])) := by rw [← hW3]; exact (World.putObj_heap_other (by omega)).trans hD2
    have h3 : ARelB CL ⟨n0, frL sl, s1.st, s1.nx⟩ β2 (fun b => S1 b ∨ S2 b) { tmps := a.tmps, defers := [] } W3 := by
      rw [← hW3]
      exact h12.grown (grown_put _ _ _) fun g e => by cases e; exact ⟨hnl2, hno2, by rw [hw0]; omega, rfl⟩
    have h2' : ARelB ⟨W3, (fun b => S1 b ∨ S2 b), Owned β2 s1.st, p, β2, some (w.heap.size + 1)⟩ s1 β2 (fun b => S1 b ∨ S2 b) a1 W3 := by
      have hd := h2.defers.2.2 (by simp)
      refine ⟨fun t => VRel.keep (fun b hb => ⟨.inr hb, ?_⟩) (fun _ _ e => e) _ _ (h2.fr t), h2.size, h3.st, ⟨Nat.le_refl _, rfl, rfl, rfl, fun _ _ _ => rfl, fun b hb => .inl hb, fun b hb => .inl hb⟩, h2.nx, ⟨fun d hd' => by rw [hd] at hd'; simp at hd', by rw [hd]; simp, fun _ => hd⟩, fun _ _ => rfl, h2.nxm⟩
      rw [← hW3]
      exact World.putObj_heap_other fun e => hnl2 (.inr (e ▸ hb))
    refine wpIn_mono (awp_sound (C := ⟨W3, (fun b => S1 b ∨ S2 b), Owned β2 s1.st, p, β2, some (w.heap.size + 1)⟩) body ⟨β2, _, h2'⟩ (hq _ _ _ _)) ?_
    rintro e a3 W4 ⟨s3, ⟨β3, S3, h4⟩, hq4⟩
    have h34 := h3.seg (by rw [hm]; exact Nat.le_refl _) (belowS_fr hsl) h4
    have hl3lt : w.heap.size + 1 < W3.heap.size := (Array.getElem?_eq_some_iff.1 hl3).1
    have hno3 : ¬ Owned β2 s1.st (w.heap.size + 1) := hno2
    have hnoD3 : ¬ Owned β2 s1.st w.heap.size := not_owned_of h2.st hD2 (by simp)
    have hl4 : W4.heap[w.heap.size + 1]? = some (.loop { rc .ready none with state := .busy }) := (h4.frame.old _ hl3lt hno3).trans hl3
    have hD4 : W4.heap[w.heap.size]? = some (.deferred (some [])) := (h4.frame.old _ (by simp only; omega) hnoD3).trans hD3
    have nS4 : ∀ b, b < W3.heap.size → ¬ Owned β2 s1.st b → ¬ (S1 b ∨ S2 b) → ¬ ((S1 b ∨ S2 b) ∨ S3 b) := fun b hb ho hs hh => by
      rcases hh with hh | hh
      · exact hs hh
      · rcases h4.frame.inS b hh with h | h | h
        · exact hs h
        · exact ho h
        · simp only at h; omega
    have hnl4 := nS4 _ hl3lt hno3 hnl2
    have hnD4 := nS4 _ (by omega) hnoD3 hnD2
    have hno4 : ¬ Owned β3 s3.st (w.heap.size + 1) := not_owned_of h4.st hl4 (by simp)
    have fin : ∀ (jump : Option Code) (φ' : ι → Prop), OutR p nx st φ' s3 → ∃ i', φ' i' ∧
        (Instr.endRound (w.heap.size + 1) jump).run P W4 = .ok (.bool jump.isNone) (W4.putObj (w.heap.size + 1) (.loop (rc (if jump.isNone then .ready else .done) jump))) ∧
        InLoop CL n0 nx sl (st i') a.tmps w.heap.size (w.heap.size + 1) S (rc (if jump.isNone then .ready else .done) jump) (W4.putObj (w.heap.size + 1) (.loop (rc (if jump.isNone then .ready else .done) jump))) := fun jump φ' ⟨i', l', hl', hφ', hok, hst⟩ => by
      refine ⟨i', hφ', ?_, ?_⟩
      · have := run_endRound (P := P) jump hl4
        rw [hrc] at this ⊢
        exact this
      · have h5 := h34.grown (grown_put W4 (w.heap.size + 1) (.loop (rc (if jump.isNone then .ready else .done) jump))) fun g e => by cases e; exact ⟨hnl4, hno4, by rw [hw0]; omega, rfl⟩
        have h6 := h5.ren (l := l') (st := st i') (fr := frL sl) (by rw [hm]; exact hok) hst fun t => by
          refine VRel.keep (fun b hb => ⟨hb, rfl⟩) (fun j u e => ?_) _ _ (belowV_rel _ _ (belowS_fr hsl t) (h5.fr t))
          unfold cut at e
          split at e
          · rename_i hj
            have hpin := (wkB_spec hok).2.2.1 j hj
            have e2 : rho l' s3.nx j = j := by unfold rho; rw [hpin]
            show β3 (rho l' s3.nx j) = some u
            rw [e2]; exact e
          · cases e
        rw [hl'] at h6
        refine ⟨_, _, World.putObj_heap_same (Array.getElem?_eq_some_iff.1 hl4).1, (World.putObj_heap_other (by omega)).trans hD4, hnD4, hnl4, fun b hb => .inl (.inl (hSS b hb)), h6⟩
    cases e <;> simp only [roundQ] at hq4
    case normal =>
      obtain ⟨i', h7, h8, h9⟩ := fin none _ hq4
      exact ⟨_, _, h8, .inl ⟨rfl, i', h7, h9⟩⟩
    case ret =>
      obtain ⟨i', h7, h8, h9⟩ := fin (some .ret) _ hq4
      exact ⟨_, _, h8, .inr ⟨rfl, .ret, .ret, i', rfl, h7, h9⟩⟩
    case exit id =>
      obtain ⟨i', h7, h8, h9⟩ := fin (some (.exit id)) _ hq4
      exact ⟨_, _, h8, .inr ⟨rfl, .exit id, .exit id, i', rfl, h7, h9⟩⟩
  · -- behind the iterator
    have fin : ∀ (i : ι) (r : Loop) (W : World) (o : Obj), InLoop CL n0 nx sl (st i) a.tmps w.heap.size (w.heap.size + 1) S r W →
        ARel C ⟨n0, frL sl, st i, nx⟩ { a with defers := [{ target := .collected w.heap.size, args := #[] }] ++ a.defers } (W.putObj (w.heap.size + 1) o) := fun i r W o hin => by
      obtain ⟨β', S', hl, hD, hnD, hnl, hSS, h1⟩ := hin.out
      have hno : ¬ Owned β' (st i) (w.heap.size + 1) := not_owned_of h1.st hl (by simp)
      have h5 := h1.grown (grown_put W (w.heap.size + 1) o) fun g e => by cases e; exact ⟨hnl, hno, by rw [hw0]; omega, rfl⟩
      rw [hCL] at h5
      have h6 := hB.seg hp (belowS_fr hsl) h5
      refine ⟨β', _, h6.fr, h6.size, h6.st, h6.frame, h6.nx, ⟨fun d hd => ?_, ?_, fun hr => (hr hrd).elim⟩, h6.pin, h6.nxm⟩
      · rcases List.mem_append.1 hd with hd | hd
        · simp only [List.mem_singleton] at hd
          subst hd
          refine ⟨_, rfl, (World.putObj_heap_other (by omega)).trans hD, fun hs => ?_, hB.frame.size⟩
          rcases hs with hs | hs
          · have := hSlt _ hs; omega
          · exact hnD hs
        · exact h6.defers.1 d hd
      · simp only [List.singleton_append, List.nodup_cons]
        refine ⟨fun hm => ?_, h6.defers.2.1⟩
        obtain ⟨D, e, hD', _⟩ := hB.defers.1 _ hm
        have : D = w.heap.size := by simpa using e.symm
        subst this
        have := (Array.getElem?_eq_some_iff.1 hD').1
        omega
    rintro e W ⟨⟨v, rfl⟩, (⟨i, hφ, hin⟩ | ⟨e, c, i, hc, hχ, hin⟩)⟩
    · obtain ⟨_, _, hl, _⟩ := hin.out
      exact ⟨none, _, by have := run_endLoop (P := P) hl (by rw [hrc]; simp); rw [hrc] at this; exact this, _, fin i _ _ _ hin, done i hφ⟩
    · obtain ⟨_, _, hl, _⟩ := hin.out
      refine ⟨some c, _, by have := run_endLoop (P := P) hl (by rw [hrc]; simp); rw [hrc] at this; exact this, ?_⟩
      cases e <;> simp only [pend] at hc <;> first | (cases hc; done) | skip
      · injection hc with hc; subst hc
        exact wpIn_exit ⟨_, fin i _ _ _ hin, hexit _ i hχ⟩
      · injection hc with hc; subst hc
        exact wpIn_ret ⟨_, fin i _ _ _ hin, hret i hχ⟩

end
end Go.Proofs.Ytniaeiikdgbnfaa.AW
