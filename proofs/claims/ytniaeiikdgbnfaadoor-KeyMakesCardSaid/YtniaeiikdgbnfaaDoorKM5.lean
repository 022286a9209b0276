/- Parts K22, K23, K24, S1, S2, S3, S4, S5, S6, S8, S7, S9, T1, K26. No condition of its own. -/
import Derived.Test.YtniaeiikdgbnfaaDoorKM4
import Derived.Test.YtniaeiikdgbnfaaDoorKM2
import Derived.Lib.LaidTab

namespace Go.Proofs.YtniaeiikdgbnfaaDoor.R
open Go Go.RowKit Go.Proofs Go.Proofs.YtniaeiikdgbnfaaDoor.AW
set_option linter.unusedSectionVars false
variable [Globs]
set_option maxRecDepth 100000
set_option linter.unusedSimpArgs false
set_option linter.unusedVariables false
set_option maxHeartbeats 4000000

def toldRP : AW.Told := ⟨fun _ => false, fun _ _ => [], fun r => if r == 16 then .take 0 (.one 1 (.take 2 (.take 3 (.take 4 (.take 7 (.take 8 (.one 5 (.take 6 (.take 9 (.take 10 .done)))))))))) else .done⟩

theorem k_refParse (b : List Int) (hb : wfd b) (hl : b.length ≤ 100000) : Imm Tryd.prog 29 [.d (byt b)] (fun r =>
    if keyErr b ≠ 0 then r = .tup [.nls (byt []), i64 (keyErr b)] else r = .tup [.d (byt (keyMod b)), i64 0]) := by
  have hbr := bits_range hb
  have hks : ((keySize b : Nat) : Int) = bitsOf b / 8 := by unfold keySize; omega
  (refine Imm.of_awp toldRP [] Tryd.func29 rfl (by decide) (Nat.le_of_ble_eq_true rfl) ?_; intro _w0 _S0 _E0 _B0; ((conv=>whnf);repeat' (first|((first|(show (_=true→_)∧(_=false→_);first|refine nTt ?_|refine nFf ?_)|(show (_=false→_)∧(_=true→_);first|refine nU ?_|refine nV ?_));conv=>whnf)|((first|(first|refine gD ?_ ?_|refine gE ?_ ?_|refine gI ?_ ?_|refine gJ ?_ ?_|refine gK ?_ ?_|refine gL ?_ ?_|refine splitB ?_ ?_|refine splitB2 ?_ ?_)<;>intro _h|intro _h);all_goals first|contradiction|conv=>whnf)|(show _∧_;refine gA ?_;conv=>whnf)|fail)))
  · refine Ends.imm rfl ?_
    have e : keyErr b = 10 := by unfold keyErr; rw [if_pos (by omega)]
    rw [e, if_pos (by decide)]
  have h8 : 8 ≤ b.length := by omega
  have hcl : (cutB b 0 4).length = 4 := cutB_len (by omega)
  have hcw : wfd (cutB b 0 4) := hb.cut _ _
  refine aloop (T := toldRP) (ι := Nat) (fun j => [(0, .d (byt b)), (4, i64 (bn ((cutB b 0 4).take j))), (5, i64 j)]) (fun _ => []) 64 0
    (fun j => 4 - j) (fun j => j ≤ 4)
    ⟨0, [], rfl, by omega, by (refine ⟨rfl, rfl, ?_, ?_⟩ <;> repeat' (first | exact True.intro | rfl | decide | (refine And.intro ?_ ?_)))⟩ ?_
  intro j hj
  have hlt : bn ((cutB b 0 4).take j) < ((256 ^ j : Nat) : Int) := by
    have := bn_lt (hcw.take j)
    rwa [List.length_take, Nat.min_eq_left (by omega)] at this
  have hnn := bn_nonneg (hcw.take j)
  have hp : 256 ^ j ≤ 256 ^ 4 := Nat.pow_le_pow_right (by omega) (by omega)
  rcases Nat.lt_or_ge j 4 with h4 | h4
  · have est : bn ((cutB b 0 4).take (j + 1)) = bn ((cutB b 0 4).take j) * 256 + b.getD j 0 := by
      rw [take_snoc (by omega), bn_snoc]
      congr 1
      unfold cutB
      rw [List.getD_eq_getElem?_getD, List.getElem?_drop, List.getElem?_take, if_pos (by omega), Nat.zero_add, ← List.getD_eq_getElem?_getD]
    have hg := hb.get j
    ((conv=>whnf);repeat' (first|((first|(show (_=true→_)∧(_=false→_);first|refine gT ?_|refine gF ?_)|(show (_=false→_)∧(_=true→_);first|refine gU ?_|refine gV ?_));conv=>whnf)|((first|(first|refine gD ?_ ?_|refine gE ?_ ?_|refine gI ?_ ?_|refine gJ ?_ ?_|refine gK ?_ ?_|refine gL ?_ ?_|refine splitB ?_ ?_|refine splitB2 ?_ ?_)<;>intro _h|intro _h);all_goals first|contradiction|conv=>whnf)|(show _∧_;refine gA ?_;conv=>whnf)|fail))
    refine ⟨j + 1, [], by omega, by omega, rfl, ?_⟩
    (refine ⟨rfl, rfl, ?_, ?_⟩ <;> repeat' (first | exact True.intro | rfl | decide | (refine And.intro ?_ ?_)))
    · refine di ?_
      rw [est, Int.toNat_natCast, wrap_i64 (n := _ * 256) (by omega) (by omega), wrap_i64 (n := b.getD j 0) (by omega) (by omega), wrap_i64 (by omega) (by omega)]
    · exact di (by rw [wrap_i64 (by omega) (by omega)]; omega)
  · have hj4 : j = 4 := by omega
    have hall : (cutB b 0 4).take j = cutB b 0 4 := List.take_of_length_le (by omega)
    rw [hall]
    change awp _ _ _ _ ⟨64, frL [(0, .d (byt b)), (4, i64 (bitsOf b)), (5, i64 (j : Int))], [], 0⟩ _
    clear hlt hnn hp hall
    have t1 : (bitsOf b).tmod 512 = bitsOf b % 512 := Int.tmod_eq_emod_of_nonneg hbr.1
    have e1 : IntKind.i64.wrap ((bitsOf b).tdiv 8) = (keySize b : Nat) := by rw [Int.tdiv_eq_ediv_of_nonneg (by omega), wrap_i64 (by omega) (by omega), hks]
    have hz : (bitsOf b % 8 ≠ 0 ∨ sized (keySize b) = false) ↔ ¬ (512 ≤ bitsOf b ∧ bitsOf b ≤ 4096 ∧ (bitsOf b).tmod 512 = 0) := by
      cases hsz : sized (keySize b) with
      | true =>
        have := sized_spec.1 hsz
        simp
        omega
      | false =>
        have : ¬ (64 ≤ keySize b ∧ keySize b ≤ 512 ∧ keySize b % 64 = 0) := fun h => by rw [sized_spec.2 h] at hsz; cases hsz
        simp
        omega
    by_cases hg : 512 ≤ bitsOf b ∧ bitsOf b ≤ 4096 ∧ (bitsOf b).tmod 512 = 0
    rotate_left
    · have e : keyErr b = 21 := by unfold keyErr; rw [if_neg (by omega), if_pos (hz.2 hg)]
      ((conv=>whnf);repeat' (first|((first|(show (_=true→_)∧(_=false→_);first|refine gT ?_|refine gF ?_)|(show (_=false→_)∧(_=true→_);first|refine gU ?_|refine gV ?_));conv=>whnf)|((first|(first|refine gD ?_ ?_|refine gE ?_ ?_|refine gI ?_ ?_|refine gJ ?_ ?_|refine gK ?_ ?_|refine gL ?_ ?_|refine splitB ?_ ?_|refine splitB2 ?_ ?_)<;>intro _h|intro _h);all_goals first|contradiction|conv=>whnf)|(show _∧_;refine gA ?_;conv=>whnf)|fail))
      all_goals first
        | (refine Ends.imm rfl ?_; rw [e, if_pos (by decide)]; done)
        | (exfalso; omega)
    · obtain ⟨g1, g2, g3⟩ := hg
      have m1 : ¬ (bitsOf b % 8 ≠ 0 ∨ sized (keySize b) = false) := fun h => hz.1 h ⟨g1, g2, g3⟩
      have s1 : 64 ≤ keySize b ∧ keySize b ≤ 512 := by omega
      have e3 : IntKind.i64.wrap (2 * ((keySize b : Nat) : Int)) = ((2 * keySize b : Nat) : Int) := by rw [wrap_i64 (by omega) (by omega)]; omega
      have e4 : IntKind.i64.wrap (8 + ((2 * keySize b : Nat) : Int)) = ((8 + 2 * keySize b : Nat) : Int) := by rw [wrap_i64 (by omega) (by omega)]; omega
      have e5 : IntKind.i64.wrap (8 + ((keySize b : Nat) : Int)) = ((8 + keySize b : Nat) : Int) := by rw [wrap_i64 (by omega) (by omega)]; omega
      have e45 : IntKind.i64.wrap (8 + IntKind.i64.wrap (2 * IntKind.i64.wrap ((bitsOf b).tdiv 8))) = ((8 + 2 * keySize b : Nat) : Int) := by rw [e1, e3, e4]
      have e15 : IntKind.i64.wrap (8 + IntKind.i64.wrap ((bitsOf b).tdiv 8)) = ((8 + keySize b : Nat) : Int) := by rw [e1, e5]
      by_cases l1 : b.length < 8 + 2 * keySize b
      · have l1' : (b.length : Int) < IntKind.i64.wrap (8 + IntKind.i64.wrap (2 * IntKind.i64.wrap ((bitsOf b).tdiv 8))) := by rw [e45]; omega
        ((conv=>whnf);repeat' (first|((first|(show (_=true→_)∧(_=false→_);first|refine gT ?_|refine gF ?_)|(show (_=false→_)∧(_=true→_);first|refine gU ?_|refine gV ?_));conv=>whnf)|((first|(first|refine gD ?_ ?_|refine gE ?_ ?_|refine gI ?_ ?_|refine gJ ?_ ?_|refine gK ?_ ?_|refine gL ?_ ?_|refine splitB ?_ ?_|refine splitB2 ?_ ?_)<;>intro _h|intro _h);all_goals first|contradiction|conv=>whnf)|(show _∧_;refine gA ?_;conv=>whnf)|fail))
        refine Ends.imm rfl ?_
        have e : keyErr b = 10 := by unfold keyErr; rw [if_neg (by omega), if_neg m1, if_pos l1]
        rw [e, if_pos (by decide)]
      · have l1' : ¬ (b.length : Int) < IntKind.i64.wrap (8 + IntKind.i64.wrap (2 * IntKind.i64.wrap ((bitsOf b).tdiv 8))) := by rw [e45]; omega
        by_cases l2 : 8 + 2 * keySize b < b.length
        · have l2' : IntKind.i64.wrap (8 + IntKind.i64.wrap (2 * IntKind.i64.wrap ((bitsOf b).tdiv 8))) < (b.length : Int) := by rw [e45]; omega
          ((conv=>whnf);repeat' (first|((first|(show (_=true→_)∧(_=false→_);first|refine gT ?_|refine gF ?_)|(show (_=false→_)∧(_=true→_);first|refine gU ?_|refine gV ?_));conv=>whnf)|((first|(first|refine gD ?_ ?_|refine gE ?_ ?_|refine gI ?_ ?_|refine gJ ?_ ?_|refine gK ?_ ?_|refine gL ?_ ?_|refine splitB ?_ ?_|refine splitB2 ?_ ?_)<;>intro _h|intro _h);all_goals first|contradiction|conv=>whnf)|(show _∧_;refine gA ?_;conv=>whnf)|fail))
          refine Ends.imm rfl ?_
          have e : keyErr b = 12 := by unfold keyErr; rw [if_neg (by omega), if_neg m1, if_neg l1, if_pos l2]
          rw [e, if_pos (by decide)]
        · have l2' : ¬ IntKind.i64.wrap (8 + IntKind.i64.wrap (2 * IntKind.i64.wrap ((bitsOf b).tdiv 8))) < (b.length : Int) := by rw [e45]; omega
          ((conv=>whnf);repeat' (first|((first|(show (_=true→_)∧(_=false→_);first|refine gT ?_|refine gF ?_)|(show (_=false→_)∧(_=true→_);first|refine gU ?_|refine gV ?_));conv=>whnf)|((first|(first|refine gD ?_ ?_|refine gE ?_ ?_|refine gI ?_ ?_|refine gJ ?_ ?_|refine gK ?_ ?_|refine gL ?_ ?_|refine splitB ?_ ?_|refine splitB2 ?_ ?_)<;>intro _h|intro _h);all_goals first|contradiction|conv=>whnf)|(show _∧_;refine gA ?_;conv=>whnf)|fail))
          have hcut : AVal.d (.ints .u8 ((b.take (IntKind.i64.wrap (8 + IntKind.i64.wrap ((bitsOf b).tdiv 8))).toNat).drop (Int.toNat 8))) = .d (byt (keyMod b)) := by rw [e15]; rfl
          rw [e15]
          have hml : (keyMod b).length = keySize b := cutB_len (by omega)
          refine acallI (k_right (keyMod b) (hb.cut _ _) (by unfold LIM; omega)) rfl fun r hr => ?_
          subst hr
          have err22 : notMod (keyMod b) ≠ 0 ∨ keyC (keyMod b) ≠ b → keyErr b = 22 := fun h => by unfold keyErr; rw [if_neg (by omega), if_neg m1, if_neg l1, if_neg l2, if_pos h]
          by_cases hn : notMod (keyMod b) = 0
          · have hof := of_notMod hn
            ((conv=>whnf);repeat' (first|((first|(show (_=true→_)∧(_=false→_);first|refine gT ?_|refine gF ?_)|(show (_=false→_)∧(_=true→_);first|refine gU ?_|refine gV ?_));conv=>whnf)|((first|(first|refine gD ?_ ?_|refine gE ?_ ?_|refine gI ?_ ?_|refine gJ ?_ ?_|refine gK ?_ ?_|refine gL ?_ ?_|refine splitB ?_ ?_|refine splitB2 ?_ ?_)<;>intro _h|intro _h);all_goals first|contradiction|conv=>whnf)|(show _∧_;refine gA ?_;conv=>whnf)|fail))
            refine acallI (k_refBytes (keyMod b) (hb.cut _ _) (by omega) ?_) rfl fun r hr => ?_
            · have := bn_high (keyMod b) (hb.cut _ _) (by omega)
              omega
            subst hr
            by_cases hc : keyC (keyMod b) = b
            · have e0 : keyErr b = 0 := by unfold keyErr; rw [if_neg (by omega), if_neg m1, if_neg l1, if_neg l2, if_neg (fun h => h.elim (fun h => h hn) (fun h => h hc))]
              ((conv=>whnf);repeat' (first|((first|(show (_=true→_)∧(_=false→_);first|refine gT ?_|refine gF ?_)|(show (_=false→_)∧(_=true→_);first|refine gU ?_|refine gV ?_));conv=>whnf)|((first|(first|refine gD ?_ ?_|refine gE ?_ ?_|refine gI ?_ ?_|refine gJ ?_ ?_|refine gK ?_ ?_|refine gL ?_ ?_|refine splitB ?_ ?_|refine splitB2 ?_ ?_)<;>intro _h|intro _h);all_goals first|contradiction|conv=>whnf)|(show _∧_;refine gA ?_;conv=>whnf)|fail))
              refine Ends.imm rfl ?_
              rw [e0, if_neg (by simp)]
              rfl
            · ((conv=>whnf);repeat' (first|((first|(show (_=true→_)∧(_=false→_);first|refine gT ?_|refine gF ?_)|(show (_=false→_)∧(_=true→_);first|refine gU ?_|refine gV ?_));conv=>whnf)|((first|(first|refine gD ?_ ?_|refine gE ?_ ?_|refine gI ?_ ?_|refine gJ ?_ ?_|refine gK ?_ ?_|refine gL ?_ ?_|refine splitB ?_ ?_|refine splitB2 ?_ ?_)<;>intro _h|intro _h);all_goals first|contradiction|conv=>whnf)|(show _∧_;refine gA ?_;conv=>whnf)|fail))
              refine Ends.imm rfl ?_
              rw [err22 (.inr hc), if_pos (by decide)]
          · ((conv=>whnf);repeat' (first|((first|(show (_=true→_)∧(_=false→_);first|refine gT ?_|refine gF ?_)|(show (_=false→_)∧(_=true→_);first|refine gU ?_|refine gV ?_));conv=>whnf)|((first|(first|refine gD ?_ ?_|refine gE ?_ ?_|refine gI ?_ ?_|refine gJ ?_ ?_|refine gK ?_ ?_|refine gL ?_ ?_|refine splitB ?_ ?_|refine splitB2 ?_ ?_)<;>intro _h|intro _h);all_goals first|contradiction|conv=>whnf)|(show _∧_;refine gA ?_;conv=>whnf)|fail))
            refine Ends.imm rfl ?_
            rw [err22 (.inl hn), if_pos (by decide)]

theorem k_modOf (m n : List Int) (n0 : Int) (rr : List Int) (h : Key m n n0 rr) : Imm Tryd.prog 31 [.d (keyD m n n0 rr)] (fun r => r = .d (byt m)) := by
  obtain ⟨h1, h2, h3, hs⟩ := h.pos
  have hl := h.len
  (refine Imm.of_awp told0 [] Tryd.func31 rfl (by decide) (Nat.le_of_ble_eq_true rfl) ?_; intro _w0 _S0 _E0 _B0; ((conv=>whnf);repeat' (first|((first|(show (_=true→_)∧(_=false→_);first|refine nTt ?_|refine nFf ?_)|(show (_=false→_)∧(_=true→_);first|refine nU ?_|refine nV ?_));conv=>whnf)|((first|(first|refine gD ?_ ?_|refine gE ?_ ?_|refine gI ?_ ?_|refine gJ ?_ ?_|refine gK ?_ ?_|refine gL ?_ ?_|refine splitB ?_ ?_|refine splitB2 ?_ ?_)<;>intro _h|intro _h);all_goals first|contradiction|conv=>whnf)|(show _∧_;refine gA ?_;conv=>whnf)|fail)))
  refine acallI (k_clone m (fun h' => by subst h'; simp at hl; omega) (by omega)) rfl fun r hr => ?_
  subst hr
  ((conv=>whnf);repeat' (first|((first|(show (_=true→_)∧(_=false→_);first|refine nTt ?_|refine nFf ?_)|(show (_=false→_)∧(_=true→_);first|refine nU ?_|refine nV ?_));conv=>whnf)|((first|(first|refine gD ?_ ?_|refine gE ?_ ?_|refine gI ?_ ?_|refine gJ ?_ ?_|refine gK ?_ ?_|refine gL ?_ ?_|refine splitB ?_ ?_|refine splitB2 ?_ ?_)<;>intro _h|intro _h);all_goals first|contradiction|conv=>whnf)|(show _∧_;refine gA ?_;conv=>whnf)|fail))
  exact Ends.imm rfl rfl

def toldLKP : AW.Told := ⟨fun _ => false, fun _ _ => [], fun r => if r == 9 then .take 0 (.take 1 (.take 2 (.take 3 (.take 4 (.take 5 (.take 6 (.take 7 (.take 10 (.take 11 (.one 8 (.take 9 (.take 12 (.take 13 (.take 14 (.take 15 (.take 18 (.take 19 (.one 16 (.take 17 (.take 20 (.take 21 (.take 22 .done)))))))))))))))))))))) else .done⟩

theorem keyErr_ok {b : List Int} (h : keyErr b = 0) : keyC (keyMod b) = b := by
  unfold keyErr at h
  split at h
  · cases h
  · split at h
    · cases h
    · split at h
      · cases h
      · split at h
        · cases h
        · split at h
          · cases h
          · rename_i h2
            exact Classical.byContradiction fun h3 => h2 (.inr h3)

theorem l_keyParses (hG : Globs.gl 0 = some EXP) (b : List Int) (hb : wfd b) (hbl : b.length ≤ LIM) :
    Imm Tryd.prog 6 [.d (byt b)] (fun r => r = bool true) := by
  (refine Imm.of_awp toldLKP [] Tryd.func6 rfl (by decide) (Nat.le_of_ble_eq_true rfl) ?_; intro _w0 _S0 _E0 _B0; ((conv=>whnf);repeat' (first|((first|(show (_=true→_)∧(_=false→_);first|refine nTt ?_|refine nFf ?_)|(show (_=false→_)∧(_=true→_);first|refine nU ?_|refine nV ?_));conv=>whnf)|((first|(first|refine gD ?_ ?_|refine gE ?_ ?_|refine gI ?_ ?_|refine gJ ?_ ?_|refine gK ?_ ?_|refine gL ?_ ?_|refine splitB ?_ ?_|refine splitB2 ?_ ?_)<;>intro _h|intro _h);all_goals first|contradiction|conv=>whnf)|(show _∧_;refine gA ?_;conv=>whnf)|fail)))
  refine acallI (k_anchor hG) rfl fun r hr => ?_
  subst hr
  ((conv=>whnf);repeat' (first|((first|(show (_=true→_)∧(_=false→_);first|refine gT ?_|refine gF ?_)|(show (_=false→_)∧(_=true→_);first|refine gU ?_|refine gV ?_));conv=>whnf)|((first|(first|refine gD ?_ ?_|refine gE ?_ ?_|refine gI ?_ ?_|refine gJ ?_ ?_|refine gK ?_ ?_|refine gL ?_ ?_|refine splitB ?_ ?_|refine splitB2 ?_ ?_)<;>intro _h|intro _h);all_goals first|contradiction|conv=>whnf)|(show _∧_;refine gA ?_;conv=>whnf)|fail))
  · exact Ends.imm rfl rfl
  refine acallI (k_parse b hb (by omega)) rfl fun r hr => ?_
  by_cases h0 : keyErr b = 0
  · rw [if_neg (by simp [h0])] at hr
    obtain ⟨n, n0, rr, rfl, hk⟩ := hr
    ((conv=>whnf);repeat' (first|((first|(show (_=true→_)∧(_=false→_);first|refine gT ?_|refine gF ?_)|(show (_=false→_)∧(_=true→_);first|refine gU ?_|refine gV ?_));conv=>whnf)|((first|(first|refine gD ?_ ?_|refine gE ?_ ?_|refine gI ?_ ?_|refine gJ ?_ ?_|refine gK ?_ ?_|refine gL ?_ ?_|refine splitB ?_ ?_|refine splitB2 ?_ ?_)<;>intro _h|intro _h);all_goals first|contradiction|conv=>whnf)|(show _∧_;refine gA ?_;conv=>whnf)|fail))
    refine acallI (k_refParse b hb (by omega)) rfl fun r hr => ?_
    rw [if_neg (by simp [h0])] at hr
    subst hr
    ((conv=>whnf);repeat' (first|((first|(show (_=true→_)∧(_=false→_);first|refine gT ?_|refine gF ?_)|(show (_=false→_)∧(_=true→_);first|refine gU ?_|refine gV ?_));conv=>whnf)|((first|(first|refine gD ?_ ?_|refine gE ?_ ?_|refine gI ?_ ?_|refine gJ ?_ ?_|refine gK ?_ ?_|refine gL ?_ ?_|refine splitB ?_ ?_|refine splitB2 ?_ ?_)<;>intro _h|intro _h);all_goals first|contradiction|conv=>whnf)|(show _∧_;refine gA ?_;conv=>whnf)|fail))
    refine acallI (k_keyBytes (keyMod b) n n0 rr hk) rfl fun r hr => ?_
    rw [key_eq hk, keyErr_ok h0] at hr
    subst hr
    ((conv=>whnf);repeat' (first|((first|(show (_=true→_)∧(_=false→_);first|refine gT ?_|refine gF ?_)|(show (_=false→_)∧(_=true→_);first|refine gU ?_|refine gV ?_));conv=>whnf)|((first|(first|refine gD ?_ ?_|refine gE ?_ ?_|refine gI ?_ ?_|refine gJ ?_ ?_|refine gK ?_ ?_|refine gL ?_ ?_|refine splitB ?_ ?_|refine splitB2 ?_ ?_)<;>intro _h|intro _h);all_goals first|contradiction|conv=>whnf)|(show _∧_;refine gA ?_;conv=>whnf)|fail))
    refine acallI (k_modOf (keyMod b) n n0 rr hk) rfl fun r hr => ?_
    subst hr
    ((conv=>whnf);repeat' (first|((first|(show (_=true→_)∧(_=false→_);first|refine gT ?_|refine gF ?_)|(show (_=false→_)∧(_=true→_);first|refine gU ?_|refine gV ?_));conv=>whnf)|((first|(first|refine gD ?_ ?_|refine gE ?_ ?_|refine gI ?_ ?_|refine gJ ?_ ?_|refine gK ?_ ?_|refine gL ?_ ?_|refine splitB ?_ ?_|refine splitB2 ?_ ?_)<;>intro _h|intro _h);all_goals first|contradiction|conv=>whnf)|(show _∧_;refine gA ?_;conv=>whnf)|fail))
    exact Ends.imm rfl (by simp)
  · rw [if_pos (by simp [h0])] at hr
    subst hr
    ((conv=>whnf);repeat' (first|((first|(show (_=true→_)∧(_=false→_);first|refine gT ?_|refine gF ?_)|(show (_=false→_)∧(_=true→_);first|refine gU ?_|refine gV ?_));conv=>whnf)|((first|(first|refine gD ?_ ?_|refine gE ?_ ?_|refine gI ?_ ?_|refine gJ ?_ ?_|refine gK ?_ ?_|refine gL ?_ ?_|refine splitB ?_ ?_|refine splitB2 ?_ ?_)<;>intro _h|intro _h);all_goals first|contradiction|conv=>whnf)|(show _∧_;refine gA ?_;conv=>whnf)|fail))
    refine acallI (k_refParse b hb (by omega)) rfl fun r hr => ?_
    rw [if_pos (by simp [h0])] at hr
    subst hr
    ((conv=>whnf);repeat' (first|((first|(show (_=true→_)∧(_=false→_);first|refine gT ?_|refine gF ?_)|(show (_=false→_)∧(_=true→_);first|refine gU ?_|refine gV ?_));conv=>whnf)|((first|(first|refine gD ?_ ?_|refine gE ?_ ?_|refine gI ?_ ?_|refine gJ ?_ ?_|refine gK ?_ ?_|refine gL ?_ ?_|refine splitB ?_ ?_|refine splitB2 ?_ ?_)<;>intro _h|intro _h);all_goals first|contradiction|conv=>whnf)|(show _∧_;refine gA ?_;conv=>whnf)|fail))
    exact Ends.imm rfl (by simp)

theorem k_concatO (xss : List (List Int)) (h0 : 0 < xss.flatten.length) (hl : xss.flatten.length ≤ 1000000) (hx : xss.length ≤ 1000000) :
    CSpec Tryd.prog 67 [.d (.sl 1 (xss.map byt))] [] 0 (fun st nx r => st = [(0, .row .u8 5 xss.flatten)] ∧ nx = 1 ∧ r = .own 0) := by
  refine CSpec.ends (CSpec.of_awp told0 [] Tryd.func67 rfl (by decide) (Nat.le_of_ble_eq_true rfl) fun _w0 _S0 _E0 _B0 => ?_)
  ((conv=>whnf);repeat' (first|((first|(show (_=true→_)∧(_=false→_);first|refine nTt ?_|refine nFf ?_)|(show (_=false→_)∧(_=true→_);first|refine nU ?_|refine nV ?_));conv=>whnf)|((first|(first|refine gD ?_ ?_|refine gE ?_ ?_|refine gI ?_ ?_|refine gJ ?_ ?_|refine gK ?_ ?_|refine gL ?_ ?_|refine splitB ?_ ?_|refine splitB2 ?_ ?_)<;>intro _h|intro _h);all_goals first|contradiction|conv=>whnf)|(show _∧_;refine gA ?_;conv=>whnf)|fail))
  refine aloop (T := told0) (fun k : Nat => [(0, .d (.sl 1 (xss.map byt))), (3, i64 (xss.take k).flatten.length), (9, .d (.sl 1 (xss.map byt))), (10, i64 xss.length), (11, i64 k)]) (fun _ => []) 36 0 (fun k => xss.length - k) (fun k => k ≤ xss.length)
    ⟨0, [], rfl, Nat.zero_le _, by (refine ⟨rfl, rfl, ?_, ?_⟩ <;> repeat' (first | exact True.intro | rfl | decide | (refine And.intro ?_ ?_))); simp [AW.upd, renV]⟩ ?_
  intro k hk
  have hf1 := flat_le xss (k + 1)
  rcases Nat.lt_or_ge k xss.length with hkl | hkl
  · have hfk := flat_take xss k hkl
    have hlen : (xss.take (k + 1)).flatten.length = (xss.take k).flatten.length + (xss.getD k []).length := by rw [hfk, List.length_append]
    have e1 : IntKind.i64.wrap (((xss.take k).flatten.length : Int) + (xss.getD k []).length) = ((xss.take (k + 1)).flatten.length : Nat) := by
      rw [wrap_i64 (by omega) (by omega)]; omega
    ((conv=>whnf);repeat' (first|((first|(show (_=true→_)∧(_=false→_);first|refine gT ?_|refine gF ?_)|(show (_=false→_)∧(_=true→_);first|refine gU ?_|refine gV ?_));conv=>whnf)|((first|(first|refine gD ?_ ?_|refine gE ?_ ?_|refine gI ?_ ?_|refine gJ ?_ ?_|refine gK ?_ ?_|refine gL ?_ ?_|refine splitB ?_ ?_|refine splitB2 ?_ ?_)<;>intro _h|intro _h);all_goals first|contradiction|conv=>whnf)|(show _∧_;refine gA ?_;conv=>whnf)|fail))
    rw [Int.toNat_natCast, getD_map byt xss k [] default (by omega)]
    ((conv=>whnf);repeat' (first|((first|(show (_=true→_)∧(_=false→_);first|refine gT ?_|refine gF ?_)|(show (_=false→_)∧(_=true→_);first|refine gU ?_|refine gV ?_));conv=>whnf)|((first|(first|refine gD ?_ ?_|refine gE ?_ ?_|refine gI ?_ ?_|refine gJ ?_ ?_|refine gK ?_ ?_|refine gL ?_ ?_|refine splitB ?_ ?_|refine splitB2 ?_ ?_)<;>intro _h|intro _h);all_goals first|contradiction|conv=>whnf)|(show _∧_;refine gA ?_;conv=>whnf)|fail))
    refine ⟨k + 1, [], by omega, by omega, rfl, ?_⟩
    (refine ⟨rfl, rfl, ?_, ?_⟩ <;> repeat' (first | exact True.intro | rfl | decide | (refine And.intro ?_ ?_)))
    · exact di e1
    · exact di (by rw [wrap_i64 (by omega) (by omega)]; rfl)
  · have hk' : k = xss.length := by omega
    subst hk'
    rw [List.take_length]
    ((conv=>whnf);repeat' (first|((first|(show (_=true→_)∧(_=false→_);first|refine gT ?_|refine gF ?_)|(show (_=false→_)∧(_=true→_);first|refine gU ?_|refine gV ?_));conv=>whnf)|((first|(first|refine gD ?_ ?_|refine gE ?_ ?_|refine gI ?_ ?_|refine gJ ?_ ?_|refine gK ?_ ?_|refine gL ?_ ?_|refine splitB ?_ ?_|refine splitB2 ?_ ?_)<;>intro _h|intro _h);all_goals first|contradiction|conv=>whnf)|(show _∧_;refine gA ?_;conv=>whnf)|fail))
    refine acall [] (k_grow xss.flatten.length h0 hl) rfl (by simp [stIn]) rfl (fun _ => rfl) ?_
    rintro st nx r ⟨rfl, rfl, rfl⟩
    ((conv=>whnf);repeat' (first|((first|(show (_=true→_)∧(_=false→_);first|refine gT ?_|refine gF ?_)|(show (_=false→_)∧(_=true→_);first|refine gU ?_|refine gV ?_));conv=>whnf)|((first|(first|refine gD ?_ ?_|refine gE ?_ ?_|refine gI ?_ ?_|refine gJ ?_ ?_|refine gK ?_ ?_|refine gL ?_ ?_|refine splitB ?_ ?_|refine splitB2 ?_ ?_)<;>intro _h|intro _h);all_goals first|contradiction|conv=>whnf)|(show _∧_;refine gA ?_;conv=>whnf)|fail))
    refine aloop (T := told0) (fun k : Nat => [(0, .d (.sl 1 (xss.map byt))), (6, .own 0), (25, .d (.sl 1 (xss.map byt))), (26, i64 xss.length), (27, i64 k)]) (fun k => [(0, .row .u8 5 (xss.take k).flatten)]) 36 1 (fun k => xss.length - k) (fun k => k ≤ xss.length)
      ⟨0, [0], rfl, Nat.zero_le _, by (refine ⟨rfl, rfl, ?_, ?_⟩ <;> repeat' (first | exact True.intro | rfl | decide | (refine And.intro ?_ ?_))); simp [AW.upd, renV]⟩ ?_
    intro k hk
    have hf1 := flat_le xss (k + 1)
    rcases Nat.lt_or_ge k xss.length with hkl | hkl
    · have hfk := flat_take xss k hkl
      have hlen : (xss.take (k + 1)).flatten.length = (xss.take k).flatten.length + (xss.getD k []).length := by rw [hfk, List.length_append]
      ((conv=>whnf);repeat' (first|((first|(show (_=true→_)∧(_=false→_);first|refine gT ?_|refine gF ?_)|(show (_=false→_)∧(_=true→_);first|refine gU ?_|refine gV ?_));conv=>whnf)|((first|(first|refine gD ?_ ?_|refine gE ?_ ?_|refine gI ?_ ?_|refine gJ ?_ ?_|refine gK ?_ ?_|refine gL ?_ ?_|refine splitB ?_ ?_|refine splitB2 ?_ ?_)<;>intro _h|intro _h);all_goals first|contradiction|conv=>whnf)|(show _∧_;refine gA ?_;conv=>whnf)|fail))
      rw [Int.toNat_natCast, getD_map byt xss k [] default (by omega)]
      ((conv=>whnf);repeat' (first|((first|(show (_=true→_)∧(_=false→_);first|refine gT ?_|refine gF ?_)|(show (_=false→_)∧(_=true→_);first|refine gU ?_|refine gV ?_));conv=>whnf)|((first|(first|refine gD ?_ ?_|refine gE ?_ ?_|refine gI ?_ ?_|refine gJ ?_ ?_|refine gK ?_ ?_|refine gL ?_ ?_|refine splitB ?_ ?_|refine splitB2 ?_ ?_)<;>intro _h|intro _h);all_goals first|contradiction|conv=>whnf)|(show _∧_;refine gA ?_;conv=>whnf)|fail))
      refine ⟨by show ((xss.take k).flatten.length + (xss.getD k []).length) * 1 ≤ 140737488355328; omega, ?_⟩
      ((conv=>whnf);repeat' (first|((first|(show (_=true→_)∧(_=false→_);first|refine gT ?_|refine gF ?_)|(show (_=false→_)∧(_=true→_);first|refine gU ?_|refine gV ?_));conv=>whnf)|((first|(first|refine gD ?_ ?_|refine gE ?_ ?_|refine gI ?_ ?_|refine gJ ?_ ?_|refine gK ?_ ?_|refine gL ?_ ?_|refine splitB ?_ ?_|refine splitB2 ?_ ?_)<;>intro _h|intro _h);all_goals first|contradiction|conv=>whnf)|(show _∧_;refine gA ?_;conv=>whnf)|fail))
      refine ⟨k + 1, [0], by omega, by omega, rfl, ?_⟩
      (refine ⟨rfl, rfl, ?_, ?_⟩ <;> repeat' (first | exact True.intro | rfl | decide | (refine And.intro ?_ ?_)))
      · exact di (by rw [wrap_i64 (by omega) (by omega)]; rfl)
      · show some (Ob.row .u8 _ _) = some (Ob.row .u8 _ _)
        rw [hfk]
    · have hk' : k = xss.length := by omega
      subst hk'
      rw [List.take_length]
      ((conv=>whnf);repeat' (first|((first|(show (_=true→_)∧(_=false→_);first|refine gT ?_|refine gF ?_)|(show (_=false→_)∧(_=true→_);first|refine gU ?_|refine gV ?_));conv=>whnf)|((first|(first|refine gD ?_ ?_|refine gE ?_ ?_|refine gI ?_ ?_|refine gJ ?_ ?_|refine gK ?_ ?_|refine gL ?_ ?_|refine splitB ?_ ?_|refine splitB2 ?_ ?_)<;>intro _h|intro _h);all_goals first|contradiction|conv=>whnf)|(show _∧_;refine gA ?_;conv=>whnf)|fail))
      exact ⟨[0], [(0, .row .u8 5 xss.flatten)], .own 0, ⟨rfl, ⟨⟨by decide, rfl⟩, trivial⟩, rfl⟩, rfl, rfl, rfl⟩

theorem k_keyBytesO (m n : List Int) (n0 : Int) (rr : List Int) (h : Key m n n0 rr) : CSpec Tryd.prog 30 [.d (keyD m n n0 rr)] [] 0 (fun st nx r => st = [(0, .row .u8 5 (keyBytes m n0 rr))] ∧ nx = 1 ∧ r = .own 0) := by
  obtain ⟨h1, h2, h3, hs⟩ := h.pos
  have hl := h.len
  have w1 : IntKind.i64.wrap (8 * (m.length : Int)) = ((8 * m.length : Nat) : Int) := by rw [wrap_i64 (by omega) (by omega)]; omega
  have hn0 := h.ring.hn0
  obtain ⟨v, hv⟩ : ∃ v : Nat, n0 = v := ⟨n0.toNat, by omega⟩
  refine CSpec.ends (CSpec.of_awp toldKB [] Tryd.func30 rfl (by decide) (Nat.le_of_ble_eq_true rfl) fun _w0 _S0 _E0 _B0 => ?_)
  ((conv=>whnf);repeat' (first|((first|(show (_=true→_)∧(_=false→_);first|refine nTt ?_|refine nFf ?_)|(show (_=false→_)∧(_=true→_);first|refine nU ?_|refine nV ?_));conv=>whnf)|((first|(first|refine gD ?_ ?_|refine gE ?_ ?_|refine gI ?_ ?_|refine gJ ?_ ?_|refine gK ?_ ?_|refine gL ?_ ?_|refine splitB ?_ ?_|refine splitB2 ?_ ?_)<;>intro _h|intro _h);all_goals first|contradiction|conv=>whnf)|(show _∧_;refine gA ?_;conv=>whnf)|fail))
  refine acallI (k_size m n n0 rr) rfl fun r hr => ?_
  subst hr
  ((conv=>whnf);repeat' (first|((first|(show (_=true→_)∧(_=false→_);first|refine gT ?_|refine gF ?_)|(show (_=false→_)∧(_=true→_);first|refine gU ?_|refine gV ?_));conv=>whnf)|((first|(first|refine gD ?_ ?_|refine gE ?_ ?_|refine gI ?_ ?_|refine gJ ?_ ?_|refine gK ?_ ?_|refine gL ?_ ?_|refine splitB ?_ ?_|refine splitB2 ?_ ?_)<;>intro _h|intro _h);all_goals first|contradiction|conv=>whnf)|(show _∧_;refine gA ?_;conv=>whnf)|fail))
  rw [w1]
  refine acallI (k_putN 4 (8 * m.length) (by omega) (by omega) (by omega)) rfl fun r hr => ?_
  unfold putQ at hr
  subst hr
  ((conv=>whnf);repeat' (first|((first|(show (_=true→_)∧(_=false→_);first|refine gT ?_|refine gF ?_)|(show (_=false→_)∧(_=true→_);first|refine gU ?_|refine gV ?_));conv=>whnf)|((first|(first|refine gD ?_ ?_|refine gE ?_ ?_|refine gI ?_ ?_|refine gJ ?_ ?_|refine gK ?_ ?_|refine gL ?_ ?_|refine splitB ?_ ?_|refine splitB2 ?_ ?_)<;>intro _h|intro _h);all_goals first|contradiction|conv=>whnf)|(show _∧_;refine gA ?_;conv=>whnf)|fail))
  refine acallI (k_n0 n n0 rr hn0) rfl fun r hr => ?_
  subst hr
  ((conv=>whnf);repeat' (first|((first|(show (_=true→_)∧(_=false→_);first|refine gT ?_|refine gF ?_)|(show (_=false→_)∧(_=true→_);first|refine gU ?_|refine gV ?_));conv=>whnf)|((first|(first|refine gD ?_ ?_|refine gE ?_ ?_|refine gI ?_ ?_|refine gJ ?_ ?_|refine gK ?_ ?_|refine gL ?_ ?_|refine splitB ?_ ?_|refine splitB2 ?_ ?_)<;>intro _h|intro _h);all_goals first|contradiction|conv=>whnf)|(show _∧_;refine gA ?_;conv=>whnf)|fail))
  refine acallI (k_put 4 v (by omega) (by omega) (by omega) ([] ++ be 4 (8 * m.length)) (fun h => by have := congrArg List.length h; simp [be_length] at this) (by simp [be_length])) (by rw [hv]; rfl) fun r hr => ?_
  unfold putQ at hr
  subst hr
  ((conv=>whnf);repeat' (first|((first|(show (_=true→_)∧(_=false→_);first|refine gT ?_|refine gF ?_)|(show (_=false→_)∧(_=true→_);first|refine gU ?_|refine gV ?_));conv=>whnf)|((first|(first|refine gD ?_ ?_|refine gE ?_ ?_|refine gI ?_ ?_|refine gJ ?_ ?_|refine gK ?_ ?_|refine gL ?_ ?_|refine splitB ?_ ?_|refine splitB2 ?_ ?_)<;>intro _h|intro _h);all_goals first|contradiction|conv=>whnf)|(show _∧_;refine gA ?_;conv=>whnf)|fail))
  refine acallI (k_rr n n0 rr (fun h' => by have := h.ring.hrl; rw [h'] at this; simp at this; omega) (by have := h.ring.hrl; omega)) rfl fun r hr => ?_
  subst hr
  ((conv=>whnf);repeat' (first|((first|(show (_=true→_)∧(_=false→_);first|refine gT ?_|refine gF ?_)|(show (_=false→_)∧(_=true→_);first|refine gU ?_|refine gV ?_));conv=>whnf)|((first|(first|refine gD ?_ ?_|refine gE ?_ ?_|refine gI ?_ ?_|refine gJ ?_ ?_|refine gK ?_ ?_|refine gL ?_ ?_|refine splitB ?_ ?_|refine splitB2 ?_ ?_)<;>intro _h|intro _h);all_goals first|contradiction|conv=>whnf)|(show _∧_;refine gA ?_;conv=>whnf)|fail))
  refine acallI (k_size m n n0 rr) rfl fun r hr => ?_
  subst hr
  ((conv=>whnf);repeat' (first|((first|(show (_=true→_)∧(_=false→_);first|refine gT ?_|refine gF ?_)|(show (_=false→_)∧(_=true→_);first|refine gU ?_|refine gV ?_));conv=>whnf)|((first|(first|refine gD ?_ ?_|refine gE ?_ ?_|refine gI ?_ ?_|refine gJ ?_ ?_|refine gK ?_ ?_|refine gL ?_ ?_|refine splitB ?_ ?_|refine splitB2 ?_ ?_)<;>intro _h|intro _h);all_goals first|contradiction|conv=>whnf)|(show _∧_;refine gA ?_;conv=>whnf)|fail))
  have hrl := h.ring.hrl
  refine acallI (k_bytes rr m.length h.ring.hr ?_ (by omega) ?_) rfl fun r hr => ?_
  · unfold bad
    rw [hrl, decide_eq_false (by omega), decide_eq_false (by omega)]
    rfl
  · have a1 := h.ring.hrv
    have a2 := dval_lt h.wf.reverse
    rw [List.length_reverse] at a2
    have a3 : bn m < dpw m.length := a2
    have a4 := h.val
    omega
  subst hr
  ((conv=>whnf);repeat' (first|((first|(show (_=true→_)∧(_=false→_);first|refine gT ?_|refine gF ?_)|(show (_=false→_)∧(_=true→_);first|refine gU ?_|refine gV ?_));conv=>whnf)|((first|(first|refine gD ?_ ?_|refine gE ?_ ?_|refine gI ?_ ?_|refine gJ ?_ ?_|refine gK ?_ ?_|refine gL ?_ ?_|refine splitB ?_ ?_|refine splitB2 ?_ ?_)<;>intro _h|intro _h);all_goals first|contradiction|conv=>whnf)|(show _∧_;refine gA ?_;conv=>whnf)|fail))
  refine acall [] (k_concatO [[] ++ be 4 (8 * m.length) ++ be 4 v, m, be m.length (val rr).toNat] (by simp [be_length]; omega) (by simp [be_length]; omega) (by simp)) rfl (by simp [stIn]) rfl (fun _ => rfl) ?_
  rintro st nx r ⟨rfl, rfl, rfl⟩
  ((conv=>whnf);repeat' (first|((first|(show (_=true→_)∧(_=false→_);first|refine gT ?_|refine gF ?_)|(show (_=false→_)∧(_=true→_);first|refine gU ?_|refine gV ?_));conv=>whnf)|((first|(first|refine gD ?_ ?_|refine gE ?_ ?_|refine gI ?_ ?_|refine gJ ?_ ?_|refine gK ?_ ?_|refine gL ?_ ?_|refine splitB ?_ ?_|refine splitB2 ?_ ?_)<;>intro _h|intro _h);all_goals first|contradiction|conv=>whnf)|(show _∧_;refine gA ?_;conv=>whnf)|fail))
  refine ⟨[1], [(0, .row .u8 5 (keyBytes m n0 rr))], .own 0, ⟨rfl, ⟨⟨by decide, ?_⟩, trivial⟩, rfl⟩, rfl, rfl, rfl⟩
  have e : keyBytes m n0 rr = [[] ++ be 4 (8 * m.length) ++ be 4 v, m, be m.length (val rr).toNat].flatten := by simp [keyBytes, hv]
  rw [e]
  rfl

def toldLKN : AW.Told := ⟨fun _ => false, fun r i => if r == 10 && i == 0 then [9] else [], fun r => if r == 13 then .take 0 (.take 3 (.take 4 (.one 1 (.take 2 (.take 5 (.take 6 (.take 7 (.take 10 (.take 11 (.one 8 (.take 9 (.take 12 (.take 13 (.take 14 .done)))))))))))))) else .done⟩

theorem xor_ne (a x : Int) (ha : 0 ≤ a ∧ a < 256) (hx : 1 ≤ x ∧ x ≤ 255) : bitsK .xor .u8 a (IntKind.u8.wrap x) ≠ a ∧ 0 ≤ bitsK .xor .u8 a (IntKind.u8.wrap x) ∧ bitsK .xor .u8 a (IntKind.u8.wrap x) < 256 := by
  have hw : IntKind.u8.wrap x = x := wrap_in.2 ⟨by simp only [loK]; omega, by simp only [hiK]; omega⟩
  rw [hw]
  obtain ⟨p, rfl⟩ : ∃ p : Nat, a = p := ⟨a.toNat, by omega⟩
  obtain ⟨q, rfl⟩ : ∃ q : Nat, x = q := ⟨x.toNat, by omega⟩
  have e : bitsK .xor .u8 (p : Int) (q : Int) = ((p ^^^ q : Nat) : Int) := by
    show IntKind.u8.wrap ((BitVec.ofInt 8 (p : Int) ^^^ BitVec.ofInt 8 (q : Int)).toNat : Int) = _
    have e6 : (BitVec.ofInt 8 (p : Int) ^^^ BitVec.ofInt 8 (q : Int)).toNat = p ^^^ q := by
      simp only [BitVec.ofInt_natCast, BitVec.toNat_xor, BitVec.toNat_ofNat]
      rw [Nat.mod_eq_of_lt (by omega), Nat.mod_eq_of_lt (by omega)]
    have hlt : p ^^^ q < 2 ^ 8 := Nat.xor_lt_two_pow (by omega) (by omega)
    rw [e6, u8w, Nat.mod_eq_of_lt (by omega)]
  rw [e]
  have hlt : p ^^^ q < 2 ^ 8 := Nat.xor_lt_two_pow (by omega) (by omega)
  refine ⟨fun h => ?_, by omega, by omega⟩
  have h1 : p ^^^ q = p := by omega
  have h2 : p ^^^ (p ^^^ q) = p ^^^ p := by rw [h1]
  rw [← Nat.xor_assoc, Nat.xor_self, Nat.zero_xor] at h2
  omega

theorem l_keyNames (hG : Globs.gl 0 = some EXP) (m : List Int) (at_ x : Int) (hm : wfd m) (hml : m.length ≤ LIM) :
    Imm Tryd.prog 7 [.d (byt m), i64 at_, i64 x] (fun r => r = bool true) := by
  (refine Imm.of_awp toldLKN [] Tryd.func7 rfl (by decide) (Nat.le_of_ble_eq_true rfl) ?_; intro _w0 _S0 _E0 _B0; ((conv=>whnf);repeat' (first|((first|(show (_=true→_)∧(_=false→_);first|refine nTt ?_|refine nFf ?_)|(show (_=false→_)∧(_=true→_);first|refine nU ?_|refine nV ?_));conv=>whnf)|((first|(first|refine gD ?_ ?_|refine gE ?_ ?_|refine gI ?_ ?_|refine gJ ?_ ?_|refine gK ?_ ?_|refine gL ?_ ?_|refine splitB ?_ ?_|refine splitB2 ?_ ?_)<;>intro _h|intro _h);all_goals first|contradiction|conv=>whnf)|(show _∧_;refine gA ?_;conv=>whnf)|fail)))
  refine acallI (k_anchor hG) rfl fun r hr => ?_
  subst hr
  ((conv=>whnf);repeat' (first|((first|(show (_=true→_)∧(_=false→_);first|refine gT ?_|refine gF ?_)|(show (_=false→_)∧(_=true→_);first|refine gU ?_|refine gV ?_));conv=>whnf)|((first|(first|refine gD ?_ ?_|refine gE ?_ ?_|refine gI ?_ ?_|refine gJ ?_ ?_|refine gK ?_ ?_|refine gL ?_ ?_|refine splitB ?_ ?_|refine splitB2 ?_ ?_)<;>intro _h|intro _h);all_goals first|contradiction|conv=>whnf)|(show _∧_;refine gA ?_;conv=>whnf)|fail))
  all_goals first | exact Ends.imm rfl rfl | skip
  refine acallI (k_make m hm hml) rfl fun r hr => ?_
  by_cases hn : notMod m = 0
  rotate_left
  · rw [if_pos (by simp [hn])] at hr
    subst hr
    ((conv=>whnf);repeat' (first|((first|(show (_=true→_)∧(_=false→_);first|refine gT ?_|refine gF ?_)|(show (_=false→_)∧(_=true→_);first|refine gU ?_|refine gV ?_));conv=>whnf)|((first|(first|refine gD ?_ ?_|refine gE ?_ ?_|refine gI ?_ ?_|refine gJ ?_ ?_|refine gK ?_ ?_|refine gL ?_ ?_|refine splitB ?_ ?_|refine splitB2 ?_ ?_)<;>intro _h|intro _h);all_goals first|contradiction|conv=>whnf)|(show _∧_;refine gA ?_;conv=>whnf)|fail))
    exact Ends.imm rfl (by simp)
  · rw [if_neg (by simp [hn])] at hr
    obtain ⟨n, n0, rr, rfl, hk⟩ := hr
    ((conv=>whnf);repeat' (first|((first|(show (_=true→_)∧(_=false→_);first|refine gT ?_|refine gF ?_)|(show (_=false→_)∧(_=true→_);first|refine gU ?_|refine gV ?_));conv=>whnf)|((first|(first|refine gD ?_ ?_|refine gE ?_ ?_|refine gI ?_ ?_|refine gJ ?_ ?_|refine gK ?_ ?_|refine gL ?_ ?_|refine splitB ?_ ?_|refine splitB2 ?_ ?_)<;>intro _h|intro _h);all_goals first|contradiction|conv=>whnf)|(show _∧_;refine gA ?_;conv=>whnf)|fail))
    refine acall [] (k_keyBytesO m n n0 rr hk) rfl (by simp [stIn]) rfl (fun _ => rfl) ?_
    rintro st nx r ⟨rfl, rfl, rfl⟩
    rw [key_eq hk]
    have hcl := keyC_len m
    have hcw := keyC_wfd hm
    have hof := of_notMod hn
    obtain ⟨K, hK⟩ : ∃ K, K = keyC m := ⟨_, rfl⟩
    rw [← hK] at hcl hcw ⊢
    have hmod : at_.tmod (K.length : Int) = at_ % K.length := Int.tmod_eq_emod_of_nonneg (by omega)
    have hm0 : 0 ≤ at_ % (K.length : Int) := Int.emod_nonneg _ (by omega)
    have hm1 : at_ % (K.length : Int) < K.length := Int.emod_lt_of_pos _ (by omega)
    ((conv=>whnf);repeat' (first|((first|(show (_=true→_)∧(_=false→_);first|refine gT ?_|refine gF ?_)|(show (_=false→_)∧(_=true→_);first|refine gU ?_|refine gV ?_));conv=>whnf)|((first|(first|refine gD ?_ ?_|refine gE ?_ ?_|refine gI ?_ ?_|refine gJ ?_ ?_|refine gK ?_ ?_|refine gL ?_ ?_|refine splitB ?_ ?_|refine splitB2 ?_ ?_)<;>intro _h|intro _h);all_goals first|contradiction|conv=>whnf)|(show _∧_;refine gA ?_;conv=>whnf)|fail))
    obtain ⟨j, hj⟩ : ∃ j, j = (at_.tmod (K.length : Int)).toNat := ⟨_, rfl⟩
    have hjl : j < K.length := by omega
    have hx := xor_ne (K.getD j 0) x (hcw.get j) (by omega)
    obtain ⟨ys, hys⟩ : ∃ ys, ys = K.set j (bitsK .xor .u8 (K.getD j 0) (IntKind.u8.wrap x)) := ⟨_, rfl⟩
    have hyl : ys.length = K.length := by rw [hys]; simp
    have hyw : wfd ys := by
      rw [hys]
      intro z hz
      rcases List.mem_or_eq_of_mem_set hz with h | h
      · exact hcw z h
      · rw [h]; exact hx.2
    have hne : ys ≠ K := fun e => by
      have : ys.getD j 0 = K.getD j 0 := by rw [e]
      rw [hys, getD_set, if_pos ⟨rfl, hjl⟩] at this
      exact hx.1 this
    refine acallI (k_parse ys hyw (by omega)) (by rw [hys, hj]; rfl) fun r hr => ?_
    by_cases h0 : keyErr ys = 0
    · rw [if_neg (by simp [h0])] at hr
      obtain ⟨n', n0', rr', rfl, hk'⟩ := hr
      ((conv=>whnf);repeat' (first|((first|(show (_=true→_)∧(_=false→_);first|refine gT ?_|refine gF ?_)|(show (_=false→_)∧(_=true→_);first|refine gU ?_|refine gV ?_));conv=>whnf)|((first|(first|refine gD ?_ ?_|refine gE ?_ ?_|refine gI ?_ ?_|refine gJ ?_ ?_|refine gK ?_ ?_|refine gL ?_ ?_|refine splitB ?_ ?_|refine splitB2 ?_ ?_)<;>intro _h|intro _h);all_goals first|contradiction|conv=>whnf)|(show _∧_;refine gA ?_;conv=>whnf)|fail))
      refine acallI (k_modOf (keyMod ys) n' n0' rr' hk') rfl fun r hr => ?_
      subst hr
      have hmm : keyMod ys ≠ m := fun e => hne (by rw [← keyErr_ok h0, e, hK])
      ((conv=>whnf);repeat' (first|((first|(show (_=true→_)∧(_=false→_);first|refine gT ?_|refine gF ?_)|(show (_=false→_)∧(_=true→_);first|refine gU ?_|refine gV ?_));conv=>whnf)|((first|(first|refine gD ?_ ?_|refine gE ?_ ?_|refine gI ?_ ?_|refine gJ ?_ ?_|refine gK ?_ ?_|refine gL ?_ ?_|refine splitB ?_ ?_|refine splitB2 ?_ ?_)<;>intro _h|intro _h);all_goals first|contradiction|conv=>whnf)|(show _∧_;refine gA ?_;conv=>whnf)|fail))
      refine acallI (k_keyBytes (keyMod ys) n' n0' rr' hk') rfl fun r hr => ?_
      rw [key_eq hk', keyErr_ok h0] at hr
      subst hr
      ((conv=>whnf);repeat' (first|((first|(show (_=true→_)∧(_=false→_);first|refine gT ?_|refine gF ?_)|(show (_=false→_)∧(_=true→_);first|refine gU ?_|refine gV ?_));conv=>whnf)|((first|(first|refine gD ?_ ?_|refine gE ?_ ?_|refine gI ?_ ?_|refine gJ ?_ ?_|refine gK ?_ ?_|refine gL ?_ ?_|refine splitB ?_ ?_|refine splitB2 ?_ ?_)<;>intro _h|intro _h);all_goals first|contradiction|conv=>whnf)|(show _∧_;refine gA ?_;conv=>whnf)|fail))
      refine Ends.imm rfl ?_
      refine (db (p := ys = K.set (at_.tmod (K.length : Int)).toNat (bitsK .xor .u8 (K.getD (at_.tmod (K.length : Int)).toNat 0) (IntKind.u8.wrap x))) (q := True) ?_).trans rfl
      rw [← hj, ← hys]
      exact ⟨fun _ => trivial, fun _ => rfl⟩
    · rw [if_pos (by simp [h0])] at hr
      subst hr
      ((conv=>whnf);repeat' (first|((first|(show (_=true→_)∧(_=false→_);first|refine gT ?_|refine gF ?_)|(show (_=false→_)∧(_=true→_);first|refine gU ?_|refine gV ?_));conv=>whnf)|((first|(first|refine gD ?_ ?_|refine gE ?_ ?_|refine gI ?_ ?_|refine gJ ?_ ?_|refine gK ?_ ?_|refine gL ?_ ?_|refine splitB ?_ ?_|refine splitB2 ?_ ?_)<;>intro _h|intro _h);all_goals first|contradiction|conv=>whnf)|(show _∧_;refine gA ?_;conv=>whnf)|fail))
      exact Ends.imm rfl (by simp)

abbrev wd (xs : List Int) : D := .ints .u32 xs

def xor2 (a b : Int) : Int := bitsK .xor .u32 a b
def and2 (a b : Int) : Int := bitsK .and .u32 a b
def not2 (a : Int) : Int := bitsK .xor .u32 4294967295 a
def add2 (a b : Int) : Int := IntKind.u32.wrap (a + b)
/-- A word turned to the right. -/
def rot2 (x : Int) (n : Nat) : Int := bitsK .or .u32 (x / 2 ^ n) (IntKind.u32.wrap (x * 2 ^ (32 - n)))

theorem bitsK_range (op : BinOp) (a b : Int) : 0 ≤ bitsK op .u32 a b ∧ bitsK op .u32 a b < 4294967296 := by
  have : ∀ n : Int, 0 ≤ IntKind.u32.wrap n ∧ IntKind.u32.wrap n < 4294967296 := fun n => by
    simp [IntKind.wrap, IntKind.bits, IntKind.signed]; omega
  unfold bitsK
  dsimp only
  split <;> exact this _
theorem wrap32_range (n : Int) : 0 ≤ IntKind.u32.wrap n ∧ IntKind.u32.wrap n < 4294967296 := by
  simp [IntKind.wrap, IntKind.bits, IntKind.signed]; omega
theorem wrap32 (n : Int) : IntKind.u32.wrap n = n % 4294967296 := by
  simp [IntKind.wrap, IntKind.bits, IntKind.signed]
theorem add2_assoc (a b c : Int) : add2 (add2 a b) c = add2 a (add2 b c) := by
  unfold add2
  rw [wrap32, wrap32, wrap32, wrap32]
  omega
theorem or_comm2 (a b : Int) : bitsK .or .u32 a b = bitsK .or .u32 b a := by
  unfold bitsK
  dsimp only
  rw [BitVec.or_comm]

def sml0 (x : Int) : Int := xor2 (xor2 (rot2 x 7) (rot2 x 18)) (x / 2 ^ 3)
def sml1 (x : Int) : Int := xor2 (xor2 (rot2 x 17) (rot2 x 19)) (x / 2 ^ 10)
def big0 (x : Int) : Int := xor2 (xor2 (rot2 x 2) (rot2 x 13)) (rot2 x 22)
def big1 (x : Int) : Int := xor2 (xor2 (rot2 x 6) (rot2 x 11)) (rot2 x 25)
def chx (e f g : Int) : Int := xor2 (and2 e f) (and2 (not2 e) g)
def mjx (a b c : Int) : Int := xor2 (xor2 (and2 a b) (and2 a c)) (and2 b c)

/-- Word number i of a block's spread, those ahead of it given. -/
def nextW (b ws : List Int) (i : Nat) : Int :=
  if i < 16 then bn (cutB b (4 * i) 4)
  else add2 (add2 (add2 (ws.getD (i - 16) 0) (sml0 (ws.getD (i - 15) 0))) (ws.getD (i - 7) 0)) (sml1 (ws.getD (i - 2) 0))
def schW (b : List Int) : Nat → List Int
  | 0 => []
  | k + 1 => schW b k ++ [nextW b (schW b k) k]
theorem schW_len (b : List Int) : ∀ k, (schW b k).length = k
  | 0 => rfl
  | k + 1 => by simp [schW, schW_len b k]
theorem schW_take (b : List Int) : ∀ {k n : Nat}, k ≤ n → (schW b n).take k = schW b k
  | k, 0, h => by have : k = 0 := by omega
                  subst this; rfl
  | k, n + 1, h => by
    rcases Nat.lt_or_ge n k with h1 | h1
    · have : k = n + 1 := by omega
      subst this
      exact List.take_of_length_le (by rw [schW_len]; omega)
    · simp only [schW]
      rw [List.take_append_of_le_length (by rw [schW_len]; omega)]
      exact schW_take b h1
theorem schW_get (b : List Int) {j k n : Nat} (h : j < k) (hk : k ≤ n) : (schW b n).getD j 0 = (schW b k).getD j 0 := by
  rw [← schW_take b hk, List.getD_eq_getElem?_getD, List.getD_eq_getElem?_getD, List.getElem?_take_of_lt h]

/-- The rounds' constants. -/
def KK : List Int := [0x428a2f98, 0x71374491, 0xb5c0fbcf, 0xe9b5dba5, 0x3956c25b, 0x59f111f1, 0x923f82a4, 0xab1c5ed5,
  0xd807aa98, 0x12835b01, 0x243185be, 0x550c7dc3, 0x72be5d74, 0x80deb1fe, 0x9bdc06a7, 0xc19bf174,
  0xe49b69c1, 0xefbe4786, 0x0fc19dc6, 0x240ca1cc, 0x2de92c6f, 0x4a7484aa, 0x5cb0a9dc, 0x76f988da,
  0x983e5152, 0xa831c66d, 0xb00327c8, 0xbf597fc7, 0xc6e00bf3, 0xd5a79147, 0x06ca6351, 0x14292967,
  0x27b70a85, 0x2e1b2138, 0x4d2c6dfc, 0x53380d13, 0x650a7354, 0x766a0abb, 0x81c2c92e, 0x92722c85,
  0xa2bfe8a1, 0xa81a664b, 0xc24b8b70, 0xc76c51a3, 0xd192e819, 0xd6990624, 0xf40e3585, 0x106aa070,
  0x19a4c116, 0x1e376c08, 0x2748774c, 0x34b0bcb5, 0x391c0cb3, 0x4ed8aa4a, 0x5b9cca4f, 0x682e6ff3,
  0x748f82ee, 0x78a5636f, 0x84c87814, 0x8cc70208, 0x90befffa, 0xa4506ceb, 0xbef9a3f7, 0xc67178f2]
/-- The state at first. -/
def H0 : List Int := [0x6a09e667, 0xbb67ae85, 0x3c6ef372, 0xa54ff53a, 0x510e527f, 0x9b05688c, 0x1f83d9ab, 0x5be0cd19]

def tmp1 (s : List Int) (k w : Int) : Int := add2 (add2 (add2 (add2 (s.getD 7 0) (big1 (s.getD 4 0))) (chx (s.getD 4 0) (s.getD 5 0) (s.getD 6 0))) k) w
def tmp2 (s : List Int) : Int := add2 (big0 (s.getD 0 0)) (mjx (s.getD 0 0) (s.getD 1 0) (s.getD 2 0))
/-- A round. -/
def rnd (s : List Int) (k w : Int) : List Int :=
  [add2 (tmp1 s k w) (tmp2 s), s.getD 0 0, s.getD 1 0, s.getD 2 0, add2 (s.getD 3 0) (tmp1 s k w), s.getD 4 0, s.getD 5 0, s.getD 6 0]
def rnds (s ws : List Int) : Nat → List Int
  | 0 => s
  | k + 1 => rnd (rnds s ws k) (KK.getD k 0) (ws.getD k 0)
theorem rnds_len (s ws : List Int) (hs : s.length = 8) : ∀ k, (rnds s ws k).length = 8
  | 0 => hs
  | k + 1 => rfl
/-- The state behind a block. -/
def blkS (s b : List Int) : List Int := (List.range 8).map fun i => add2 (s.getD i 0) ((rnds s (schW b 64) 64).getD i 0)
theorem blkS_len (s b : List Int) : (blkS s b).length = 8 := by simp [blkS]
/-- The state behind so many blocks. -/
def foldS (s p : List Int) : Nat → List Int
  | 0 => s
  | k + 1 => blkS (foldS s p k) (cutB p (64 * k) 64)
theorem foldS_len (s p : List Int) (hs : s.length = 8) : ∀ k, (foldS s p k).length = 8
  | 0 => hs
  | k + 1 => blkS_len _ _
/-- A text, a bit 1, noughts, and how many bits it has. -/
def padS (b : List Int) : List Int := b ++ [128] ++ List.replicate ((119 - b.length % 64) % 64) 0 ++ be 8 (8 * b.length % 18446744073709551616)
theorem padS_len (b : List Int) : (padS b).length % 64 = 0 := by
  simp [padS, be_length]; omega
/-- THE SUM. -/
def sumS (b : List Int) : List Int := (foldS H0 (padS b) ((padS b).length / 64)).flatMap fun x => be 4 x.toNat

theorem flat_len (xs : List Int) : (xs.flatMap fun x => be 4 x.toNat).length = 4 * xs.length := by
  induction xs with
  | nil => rfl
  | cons x xs ih => simp [be_length, ih]; omega
theorem sumS_len (b : List Int) : (sumS b).length = 32 := by
  unfold sumS
  rw [flat_len, foldS_len _ _ rfl]
theorem sumS_wfd (b : List Int) : wfd (sumS b) := fun x hx => by
  unfold sumS at hx
  obtain ⟨y, _, h⟩ := List.mem_flatMap.1 hx
  exact be_wfd _ _ x h

/-! ### Words turned -/
theorem minb {n : Nat} (h : n ≤ 32) : min n (IntKind.bits .u32) = n := Nat.min_eq_left (by simp [IntKind.bits]; omega)

theorem s_right (x : Int) (n : Nat) (hn : 1 ≤ n ∧ n ≤ 31) : Imm Tryd.prog 120 [u32 x, i64 n] (fun r => r = u32 (rot2 x n)) := by
  have e1 : IntKind.i64.wrap (32 - (n : Int)) = ((32 - n : Nat) : Int) := by rw [wrap_i64 (by omega) (by omega)]; omega
  (refine Imm.of_awp (⟨fun _ => false, fun _ _ => [], fun r => if r == 1 then .take 0 (.take 1 (.take 2 (.take 3 (.take 4 (.take 5 (.take 6 (.take 7 (.take 8 .done)))))))) else .done⟩ : AW.Told) [] Tryd.func120 rfl (by decide) (Nat.le_of_ble_eq_true rfl) ?_; intro _w0 _S0 _E0 _B0; ((conv=>whnf);repeat' (first|((first|(show (_=true→_)∧(_=false→_);first|refine gT ?_|refine gF ?_)|(show (_=false→_)∧(_=true→_);first|refine gU ?_|refine gV ?_));conv=>whnf)|((first|(first|refine gD ?_ ?_|refine gE ?_ ?_|refine gI ?_ ?_|refine gJ ?_ ?_|refine gK ?_ ?_|refine gL ?_ ?_|refine splitB ?_ ?_|refine splitB2 ?_ ?_)<;>intro _h|intro _h);all_goals first|contradiction|conv=>whnf)|(show _∧_;refine gA ?_;conv=>whnf)|fail)))
  refine Ends.imm rfl ?_
  unfold rot2
  rw [e1, Int.toNat_natCast, Int.toNat_natCast, minb (by omega), minb (by omega)]

theorem s_rotl (x : Int) (n : Nat) (hn : 1 ≤ n ∧ n ≤ 31) : Imm Tryd.prog 133 [u32 x, i64 (IntKind.i64.wrap (0 - (n : Int)))] (fun r => r = u32 (rot2 x n)) := by
  have e : bitsK .and .u64 (IntKind.u64.wrap (IntKind.i64.wrap (0 - (n : Int)))) 31 = ((32 - n : Nat) : Int) := by
    have : ∀ k : Fin 32, 1 ≤ k.val → bitsK .and .u64 (IntKind.u64.wrap (IntKind.i64.wrap (0 - (k.val : Int)))) 31 = ((32 - k.val : Nat) : Int) := by decide
    exact this ⟨n, by omega⟩ hn.1
  have e2 : IntKind.u64.wrap (32 - ((32 - n : Nat) : Int)) = (n : Int) := by rw [wrap_u64 (by omega) (by omega)]; omega
  have e3 : 0 ≤ IntKind.u64.wrap (32 - bitsK .and .u64 (IntKind.u64.wrap (IntKind.i64.wrap (0 - (n : Int)))) 31) := by rw [e, e2]; omega
  (refine Imm.of_awp told0 [] Tryd.func133 rfl (by decide) (Nat.le_of_ble_eq_true rfl) ?_; intro _w0 _S0 _E0 _B0; ((conv=>whnf);repeat' (first|((first|(show (_=true→_)∧(_=false→_);first|refine gT ?_|refine gF ?_)|(show (_=false→_)∧(_=true→_);first|refine gU ?_|refine gV ?_));conv=>whnf)|((first|(first|refine gD ?_ ?_|refine gE ?_ ?_|refine gI ?_ ?_|refine gJ ?_ ?_|refine gK ?_ ?_|refine gL ?_ ?_|refine splitB ?_ ?_|refine splitB2 ?_ ?_)<;>intro _h|intro _h);all_goals first|contradiction|conv=>whnf)|(show _∧_;refine gA ?_;conv=>whnf)|fail)))
  refine Ends.imm rfl ?_
  rw [e, e2, Int.toNat_natCast, Int.toNat_natCast, minb (by omega), minb (by omega), or_comm2]
  rfl

theorem s_turn (x : Int) (n : Nat) (hn : 1 ≤ n ∧ n ≤ 31) : Imm Tryd.prog 129 [u32 x, i64 n] (fun r => r = u32 (rot2 x n)) := by
  (refine Imm.of_awp told0 [] Tryd.func129 rfl (by decide) (Nat.le_of_ble_eq_true rfl) ?_; intro _w0 _S0 _E0 _B0; ((conv=>whnf);repeat' (first|((first|(show (_=true→_)∧(_=false→_);first|refine nTt ?_|refine nFf ?_)|(show (_=false→_)∧(_=true→_);first|refine nU ?_|refine nV ?_));conv=>whnf)|((first|(first|refine gD ?_ ?_|refine gE ?_ ?_|refine gI ?_ ?_|refine gJ ?_ ?_|refine gK ?_ ?_|refine gL ?_ ?_|refine splitB ?_ ?_|refine splitB2 ?_ ?_)<;>intro _h|intro _h);all_goals first|contradiction|conv=>whnf)|(show _∧_;refine gA ?_;conv=>whnf)|fail)))
  refine acallI (s_rotl x n hn) rfl fun r hr => ?_
  subst hr
  ((conv=>whnf);repeat' (first|((first|(show (_=true→_)∧(_=false→_);first|refine nTt ?_|refine nFf ?_)|(show (_=false→_)∧(_=true→_);first|refine nU ?_|refine nV ?_));conv=>whnf)|((first|(first|refine gD ?_ ?_|refine gE ?_ ?_|refine gI ?_ ?_|refine gJ ?_ ?_|refine gK ?_ ?_|refine gL ?_ ?_|refine splitB ?_ ?_|refine splitB2 ?_ ?_)<;>intro _h|intro _h);all_goals first|contradiction|conv=>whnf)|(show _∧_;refine gA ?_;conv=>whnf)|fail))
  exact Ends.imm rfl rfl

def toldW : AW.Told := ⟨fun _ => false, fun _ _ => [], fun r =>
  if r == 14 || r == 15 then .take 0 (.take 1 (.take 2 (.take 3 (.take 4 (.take 6 (.take 7 (.take 8 (.take 9 (.take 10 (.take 13 (.take 14 (.take 15 (.take 16 (.take 17 (.take 18 (.one 5 (.one 11 (.take 12 (.take 19 (.take 20 .done))))))))))))))))))))
  else if r == 16 then .take 0 (.take 1 (.take 2 (.take 3 (.take 4 (.take 6 (.take 8 (.take 9 (.take 10 (.take 11 (.take 14 (.two 5 (.take 7 (.one 12 (.take 13 (.take 15 (.one 16 (.one 17 (.take 18 .done))))))) 12 (.one 5 (.take 7 (.take 13 (.take 15 (.one 16 (.one 17 (.take 18 .done))))))))))))))))))
  else .done⟩

theorem cutB_get (b : List Int) (off len j : Nat) (h : j < len) : (cutB b off len).getD j 0 = b.getD (off + j) 0 := by
  unfold cutB
  rw [List.getD_eq_getElem?_getD, List.getElem?_drop, List.getElem?_take, if_pos (by omega), ← List.getD_eq_getElem?_getD]

theorem s_words (b : List Int) (hb : wfd b) (hl : b.length = 64) : Imm Tryd.prog 118 [.d (byt b)] (fun r => r = .d (wd (schW b 64))) := by
  (refine Imm.of_awp toldW [2] Tryd.func118 rfl (by decide) (Nat.le_of_ble_eq_true rfl) ?_; intro _w0 _S0 _E0 _B0; ((conv=>whnf);repeat' (first|((first|(show (_=true→_)∧(_=false→_);first|refine nTt ?_|refine nFf ?_)|(show (_=false→_)∧(_=true→_);first|refine nU ?_|refine nV ?_));conv=>whnf)|((first|(first|refine gD ?_ ?_|refine gE ?_ ?_|refine gI ?_ ?_|refine gJ ?_ ?_|refine gK ?_ ?_|refine gL ?_ ?_|refine splitB ?_ ?_|refine splitB2 ?_ ?_)<;>intro _h|intro _h);all_goals first|contradiction|conv=>whnf)|(show _∧_;refine gA ?_;conv=>whnf)|fail)))
  refine AWp.adopt 3 (.row .u32 79 []) rfl rfl ?_
  refine aloop (T := toldW) (ι := Nat) (fun k => [(0, .d (byt b)), (3, .own 0), (4, i64 k)]) (fun k => [(0, .row .u32 79 (schW b k))]) 96 1
    (fun k => 16 - k) (fun k => k ≤ 16)
    ⟨0, [0], rfl, by omega, by (refine ⟨rfl, rfl, ?_, ?_⟩ <;> repeat' (first | exact True.intro | rfl | decide | (refine And.intro ?_ ?_)))⟩ ?_
  intro k hk
  have hsl := schW_len b k
  rcases Nat.lt_or_ge k 16 with h16 | h16
  · have hcl : (cutB b (4 * k) 4).length = 4 := cutB_len (by omega)
    have hcw : wfd (cutB b (4 * k) 4) := hb.cut _ _
    ((conv=>whnf);repeat' (first|((first|(show (_=true→_)∧(_=false→_);first|refine gT ?_|refine gF ?_)|(show (_=false→_)∧(_=true→_);first|refine gU ?_|refine gV ?_));conv=>whnf)|((first|(first|refine gD ?_ ?_|refine gE ?_ ?_|refine gI ?_ ?_|refine gJ ?_ ?_|refine gK ?_ ?_|refine gL ?_ ?_|refine splitB ?_ ?_|refine splitB2 ?_ ?_)<;>intro _h|intro _h);all_goals first|contradiction|conv=>whnf)|(show _∧_;refine gA ?_;conv=>whnf)|fail))
    refine aloop (T := toldW) (ι := Nat) (fun j => [(0, .d (byt b)), (3, .own 0), (4, i64 k), (5, u32 (bn ((cutB b (4 * k) 4).take j))), (6, i64 j)]) (fun j => [(0, .row .u32 79 (schW b k))]) 96 1
      (fun j => 4 - j) (fun j => j ≤ 4)
      ⟨0, [0], rfl, by omega, by (refine ⟨rfl, rfl, ?_, ?_⟩ <;> repeat' (first | exact True.intro | rfl | decide | (refine And.intro ?_ ?_)))⟩ ?_
    intro j hj
    have hlt : bn ((cutB b (4 * k) 4).take j) < ((256 ^ j : Nat) : Int) := by
      have := bn_lt (hcw.take j)
      rwa [List.length_take, Nat.min_eq_left (by omega)] at this
    have hnn := bn_nonneg (hcw.take j)
    rcases Nat.lt_or_ge j 4 with h4 | h4
    · have hp : 256 ^ j ≤ 256 ^ 3 := Nat.pow_le_pow_right (by omega) (by omega)
      have est : bn ((cutB b (4 * k) 4).take (j + 1)) = bn ((cutB b (4 * k) 4).take j) * 256 + b.getD (4 * k + j) 0 := by
        rw [take_snoc (by omega), bn_snoc, cutB_get _ _ _ _ h4]
      have hg := hb.get (4 * k + j)
      have e1 : IntKind.i64.wrap (IntKind.i64.wrap (4 * (k : Int)) + j) = ((4 * k + j : Nat) : Int) := by rw [wrap_i64 (n := 4 * (k : Int)) (by omega) (by omega), wrap_i64 (by omega) (by omega)]; omega
      ((conv=>whnf);repeat' (first|((first|(show (_=true→_)∧(_=false→_);first|refine gT ?_|refine gF ?_)|(show (_=false→_)∧(_=true→_);first|refine gU ?_|refine gV ?_));conv=>whnf)|((first|(first|refine gD ?_ ?_|refine gE ?_ ?_|refine gI ?_ ?_|refine gJ ?_ ?_|refine gK ?_ ?_|refine gL ?_ ?_|refine splitB ?_ ?_|refine splitB2 ?_ ?_)<;>intro _h|intro _h);all_goals first|contradiction|conv=>whnf)|(show _∧_;refine gA ?_;conv=>whnf)|fail))
      refine ⟨j + 1, [0], by omega, by omega, rfl, ?_⟩
      (refine ⟨rfl, rfl, ?_, ?_⟩ <;> repeat' (first | exact True.intro | rfl | decide | (refine And.intro ?_ ?_)))
      · show AVal.d (.int .u32 _) = AVal.d (.int .u32 _)
        rw [e1, Int.toNat_natCast, est, wrap_u32 (n := bn _ * 256) (by omega) (by omega), wrap_u32 (n := b.getD (4 * k + j) 0) (by omega) (by omega), wrap_u32 (by omega) (by omega)]
      · exact di (by rw [wrap_i64 (by omega) (by omega)]; rfl)
    · have hj4 : j = 4 := by omega
      have hall : (cutB b (4 * k) 4).take j = cutB b (4 * k) 4 := List.take_of_length_le (by omega)
      rw [hall]
      ((conv=>whnf);repeat' (first|((first|(show (_=true→_)∧(_=false→_);first|refine gT ?_|refine gF ?_)|(show (_=false→_)∧(_=true→_);first|refine gU ?_|refine gV ?_));conv=>whnf)|((first|(first|refine gD ?_ ?_|refine gE ?_ ?_|refine gI ?_ ?_|refine gJ ?_ ?_|refine gK ?_ ?_|refine gL ?_ ?_|refine splitB ?_ ?_|refine splitB2 ?_ ?_)<;>intro _h|intro _h);all_goals first|contradiction|conv=>whnf)|(show _∧_;refine gA ?_;conv=>whnf)|fail))
      refine ⟨by rw [hsl]; show (k + 1) * 4 ≤ 140737488355328; omega, ?_⟩
      ((conv=>whnf);repeat' (first|((first|(show (_=true→_)∧(_=false→_);first|refine gT ?_|refine gF ?_)|(show (_=false→_)∧(_=true→_);first|refine gU ?_|refine gV ?_));conv=>whnf)|((first|(first|refine gD ?_ ?_|refine gE ?_ ?_|refine gI ?_ ?_|refine gJ ?_ ?_|refine gK ?_ ?_|refine gL ?_ ?_|refine splitB ?_ ?_|refine splitB2 ?_ ?_)<;>intro _h|intro _h);all_goals first|contradiction|conv=>whnf)|(show _∧_;refine gA ?_;conv=>whnf)|fail))
      refine ⟨k + 1, [0], by omega, by omega, rfl, ?_⟩
      (refine ⟨rfl, rfl, ?_, ?_⟩ <;> repeat' (first | exact True.intro | rfl | decide | (refine And.intro ?_ ?_)))
      · exact di (by rw [wrap_i64 (by omega) (by omega)]; rfl)
      · show some (Ob.row .u32 _ _) = some (Ob.row .u32 _ _)
        simp only [schW, nextW]
        rw [if_pos h16]
  · have hk16 : k = 16 := by omega
    subst hk16
    ((conv=>whnf);repeat' (first|((first|(show (_=true→_)∧(_=false→_);first|refine gT ?_|refine gF ?_)|(show (_=false→_)∧(_=true→_);first|refine gU ?_|refine gV ?_));conv=>whnf)|((first|(first|refine gD ?_ ?_|refine gE ?_ ?_|refine gI ?_ ?_|refine gJ ?_ ?_|refine gK ?_ ?_|refine gL ?_ ?_|refine splitB ?_ ?_|refine splitB2 ?_ ?_)<;>intro _h|intro _h);all_goals first|contradiction|conv=>whnf)|(show _∧_;refine gA ?_;conv=>whnf)|fail))
    refine aloop (T := toldW) (ι := Nat) (fun k => [(3, .own 0), (7, i64 k)]) (fun k => [(0, .row .u32 79 (schW b k))]) 96 1
      (fun k => 64 - k) (fun k => 16 ≤ k ∧ k ≤ 64)
      ⟨16, [0], rfl, by omega, by (refine ⟨rfl, rfl, ?_, ?_⟩ <;> repeat' (first | exact True.intro | rfl | decide | (refine And.intro ?_ ?_)))⟩ ?_
    intro k ⟨hk1, hk2⟩
    have hsl := schW_len b k
    rcases Nat.lt_or_ge k 64 with h64 | h64
    · have e15 : IntKind.i64.wrap ((k : Int) - 15) = (k - 15 : Nat) := by rw [wrap_i64 (by omega) (by omega)]; omega
      have e2 : IntKind.i64.wrap ((k : Int) - 2) = (k - 2 : Nat) := by rw [wrap_i64 (by omega) (by omega)]; omega
      have e16 : IntKind.i64.wrap ((k : Int) - 16) = (k - 16 : Nat) := by rw [wrap_i64 (by omega) (by omega)]; omega
      have e7 : IntKind.i64.wrap ((k : Int) - 7) = (k - 7 : Nat) := by rw [wrap_i64 (by omega) (by omega)]; omega
      ((conv=>whnf);repeat' (first|((first|(show (_=true→_)∧(_=false→_);first|refine gT ?_|refine gF ?_)|(show (_=false→_)∧(_=true→_);first|refine gU ?_|refine gV ?_));conv=>whnf)|((first|(first|refine gD ?_ ?_|refine gE ?_ ?_|refine gI ?_ ?_|refine gJ ?_ ?_|refine gK ?_ ?_|refine gL ?_ ?_|refine splitB ?_ ?_|refine splitB2 ?_ ?_)<;>intro _h|intro _h);all_goals first|contradiction|conv=>whnf)|(show _∧_;refine gA ?_;conv=>whnf)|fail))
      rw [e15, Int.toNat_natCast]
      refine acallI (s_right ((schW b k).getD (k - 15) 0) 7 (by omega)) rfl fun r hr => ?_
      subst hr
      ((conv=>whnf);repeat' (first|((first|(show (_=true→_)∧(_=false→_);first|refine gT ?_|refine gF ?_)|(show (_=false→_)∧(_=true→_);first|refine gU ?_|refine gV ?_));conv=>whnf)|((first|(first|refine gD ?_ ?_|refine gE ?_ ?_|refine gI ?_ ?_|refine gJ ?_ ?_|refine gK ?_ ?_|refine gL ?_ ?_|refine splitB ?_ ?_|refine splitB2 ?_ ?_)<;>intro _h|intro _h);all_goals first|contradiction|conv=>whnf)|(show _∧_;refine gA ?_;conv=>whnf)|fail))
      refine acallI (s_right ((schW b k).getD (k - 15) 0) 18 (by omega)) rfl fun r hr => ?_
      subst hr
      ((conv=>whnf);repeat' (first|((first|(show (_=true→_)∧(_=false→_);first|refine gT ?_|refine gF ?_)|(show (_=false→_)∧(_=true→_);first|refine gU ?_|refine gV ?_));conv=>whnf)|((first|(first|refine gD ?_ ?_|refine gE ?_ ?_|refine gI ?_ ?_|refine gJ ?_ ?_|refine gK ?_ ?_|refine gL ?_ ?_|refine splitB ?_ ?_|refine splitB2 ?_ ?_)<;>intro _h|intro _h);all_goals first|contradiction|conv=>whnf)|(show _∧_;refine gA ?_;conv=>whnf)|fail))
      rw [e2, Int.toNat_natCast]
      refine acallI (s_right ((schW b k).getD (k - 2) 0) 17 (by omega)) rfl fun r hr => ?_
      subst hr
      ((conv=>whnf);repeat' (first|((first|(show (_=true→_)∧(_=false→_);first|refine gT ?_|refine gF ?_)|(show (_=false→_)∧(_=true→_);first|refine gU ?_|refine gV ?_));conv=>whnf)|((first|(first|refine gD ?_ ?_|refine gE ?_ ?_|refine gI ?_ ?_|refine gJ ?_ ?_|refine gK ?_ ?_|refine gL ?_ ?_|refine splitB ?_ ?_|refine splitB2 ?_ ?_)<;>intro _h|intro _h);all_goals first|contradiction|conv=>whnf)|(show _∧_;refine gA ?_;conv=>whnf)|fail))
      refine acallI (s_right ((schW b k).getD (k - 2) 0) 19 (by omega)) rfl fun r hr => ?_
      subst hr
      ((conv=>whnf);repeat' (first|((first|(show (_=true→_)∧(_=false→_);first|refine gT ?_|refine gF ?_)|(show (_=false→_)∧(_=true→_);first|refine gU ?_|refine gV ?_));conv=>whnf)|((first|(first|refine gD ?_ ?_|refine gE ?_ ?_|refine gI ?_ ?_|refine gJ ?_ ?_|refine gK ?_ ?_|refine gL ?_ ?_|refine splitB ?_ ?_|refine splitB2 ?_ ?_)<;>intro _h|intro _h);all_goals first|contradiction|conv=>whnf)|(show _∧_;refine gA ?_;conv=>whnf)|fail))
      refine And.intro ?_ ?_
      all_goals
        ((conv=>whnf);repeat' (first|((first|(show (_=true→_)∧(_=false→_);first|refine gT ?_|refine gF ?_)|(show (_=false→_)∧(_=true→_);first|refine gU ?_|refine gV ?_));conv=>whnf)|((first|(first|refine gD ?_ ?_|refine gE ?_ ?_|refine gI ?_ ?_|refine gJ ?_ ?_|refine gK ?_ ?_|refine gL ?_ ?_|refine splitB ?_ ?_|refine splitB2 ?_ ?_)<;>intro _h|intro _h);all_goals first|contradiction|conv=>whnf)|(show _∧_;refine gA ?_;conv=>whnf)|fail))
        refine ⟨by rw [hsl]; show (k + 1) * 4 ≤ 140737488355328; omega, ?_⟩
        ((conv=>whnf);repeat' (first|((first|(show (_=true→_)∧(_=false→_);first|refine gT ?_|refine gF ?_)|(show (_=false→_)∧(_=true→_);first|refine gU ?_|refine gV ?_));conv=>whnf)|((first|(first|refine gD ?_ ?_|refine gE ?_ ?_|refine gI ?_ ?_|refine gJ ?_ ?_|refine gK ?_ ?_|refine gL ?_ ?_|refine splitB ?_ ?_|refine splitB2 ?_ ?_)<;>intro _h|intro _h);all_goals first|contradiction|conv=>whnf)|(show _∧_;refine gA ?_;conv=>whnf)|fail))
        refine ⟨k + 1, [0], by omega, by omega, rfl, ?_⟩
        (refine ⟨rfl, rfl, ?_, ?_⟩ <;> repeat' (first | exact True.intro | rfl | decide | (refine And.intro ?_ ?_)))
        · exact di (by rw [wrap_i64 (by omega) (by omega)]; rfl)
        · show some (Ob.row .u32 _ _) = some (Ob.row .u32 _ _)
          rw [e16, e7, Int.toNat_natCast, Int.toNat_natCast]
          simp only [schW, nextW]
          rw [if_neg (by omega)]
          rfl
    · have hk64 : k = 64 := by omega
      obtain ⟨ws, hws⟩ : ∃ ws, ws = schW b k := ⟨_, rfl⟩
      rw [← hws] at hsl ⊢
      ((conv=>whnf);repeat' (first|((first|(show (_=true→_)∧(_=false→_);first|refine gT ?_|refine gF ?_)|(show (_=false→_)∧(_=true→_);first|refine gU ?_|refine gV ?_));conv=>whnf)|((first|(first|refine gD ?_ ?_|refine gE ?_ ?_|refine gI ?_ ?_|refine gJ ?_ ?_|refine gK ?_ ?_|refine gL ?_ ?_|refine splitB ?_ ?_|refine splitB2 ?_ ?_)<;>intro _h|intro _h);all_goals first|contradiction|conv=>whnf)|(show _∧_;refine gA ?_;conv=>whnf)|fail))
      refine Ends.imm rfl ?_
      rw [hws, hk64]

def toldSch : AW.Told := ⟨fun _ => false, fun _ _ => [], fun r =>
  if r == 13 then .take 0 (.take 1 (.take 2 (.take 3 (.take 4 (.take 5 (.take 6 (.take 7 (.take 8 (.take 9 .done)))))))))
  else if r == 14 then .take 0 (.take 1 (.take 2 (.take 3 (.take 4 (.take 5 (.take 7 (.take 10 (.take 11 (.take 14 (.take 15 (.take 16 (.take 17 (.take 19 (.take 21 (.take 24 (.take 25 (.one 6 (.one 8 (.take 9 (.take 12 (.take 13 (.take 18 (.one 20 (.one 22 (.take 23 (.take 26 (.take 27 (.take 28 (.one 29 .done)))))))))))))))))))))))))))))
  else .done⟩

theorem or2_step (x c : Int) (hx : 0 ≤ x) (hx2 : x < 16777216) (hc : 0 ≤ c) (hc2 : c < 256) :
    bitsK .or .u32 (IntKind.u32.wrap (x * 2 ^ (min (8 : Int).toNat (IntKind.bits .u32)))) (IntKind.u32.wrap c) = x * 256 + c := by
  obtain ⟨a, rfl⟩ : ∃ a : Nat, x = a := ⟨x.toNat, by omega⟩
  obtain ⟨d, rfl⟩ : ∃ a : Nat, c = a := ⟨c.toNat, by omega⟩
  have e0 : (a : Int) * 2 ^ (min (8 : Int).toNat (IntKind.bits .u32)) = ((a * 256 : Nat) : Int) := by
    rw [show min (8 : Int).toNat (IntKind.bits .u32) = 8 from rfl]; push_cast; rfl
  rw [e0, wrap_u32 (by omega) (by omega), wrap_u32 (by omega) (by omega)]
  have e4 : a * 256 ||| d = a * 256 + d := by
    have := Nat.shiftLeft_add_eq_or_of_lt (show d < 2 ^ 8 by omega) a
    rw [Nat.shiftLeft_eq] at this
    exact this.symm
  have e6 : (BitVec.ofInt 32 ((a * 256 : Nat) : Int) ||| BitVec.ofInt 32 (d : Int)).toNat = a * 256 ||| d := by
    simp only [BitVec.ofInt_natCast, BitVec.toNat_or, BitVec.toNat_ofNat]
    rw [Nat.mod_eq_of_lt (by omega), Nat.mod_eq_of_lt (by omega)]
  show IntKind.u32.wrap ((BitVec.ofInt 32 ((a * 256 : Nat) : Int) ||| BitVec.ofInt 32 (d : Int)).toNat : Int) = _
  rw [e6, e4, wrap_u32 (by omega) (by omega)]
  push_cast
  rfl

theorem app_get (xs ys : List Int) {j : Nat} (h : j < xs.length) : (xs ++ ys).getD j 0 = xs.getD j 0 := by
  rw [List.getD_eq_getElem?_getD, List.getElem?_append_left h, ← List.getD_eq_getElem?_getD]
theorem app_set (xs ys : List Int) (x y : Int) : (xs ++ x :: ys).set xs.length y = xs ++ y :: ys := by
  rw [List.set_append_right _ _ (Nat.le_refl _), Nat.sub_self]; rfl
theorem app_at (xs ys : List Int) (x : Int) : (xs ++ x :: ys).getD xs.length 0 = x := by
  rw [List.getD_eq_getElem?_getD, List.getElem?_append_right (Nat.le_refl _), Nat.sub_self]; rfl

theorem ones_ok (st : List (Nat × Ob)) : ∀ ns : List Int, ((flatDs (ns.map (D.int .u32))).map AVal.d).all (oneV st) = true
  | [] => rfl
  | n :: ns => by
    have := ones_ok st ns
    simp only [List.map_cons, flatDs, flatD, List.map_append, List.all_append, this, Bool.and_true]
    rfl

theorem s_sched (b : List Int) (hb : wfd b) (hl : b.length = 64) : Imm Tryd.prog 128 [.d (byt b)] (fun r => r = .d (.agg ((schW b 64).map (D.int .u32)))) := by
  (refine Imm.of_awp toldSch [] Tryd.func128 rfl (by decide) (Nat.le_of_ble_eq_true rfl) ?_; intro _w0 _S0 _E0 _B0; ((conv=>whnf);repeat' (first|((first|(show (_=true→_)∧(_=false→_);first|refine nTt ?_|refine nFf ?_)|(show (_=false→_)∧(_=true→_);first|refine nU ?_|refine nV ?_));conv=>whnf)|((first|(first|refine gD ?_ ?_|refine gE ?_ ?_|refine gI ?_ ?_|refine gJ ?_ ?_|refine gK ?_ ?_|refine gL ?_ ?_|refine splitB ?_ ?_|refine splitB2 ?_ ?_)<;>intro _h|intro _h);all_goals first|contradiction|conv=>whnf)|(show _∧_;refine gA ?_;conv=>whnf)|fail)))
  refine aloop (T := toldSch) (ι := Nat) (fun k => [(0, .d (byt b)), (2, .optr 0 0), (9, i64 k)]) (fun k => [(0, .row .u32 152 (schW b k ++ List.replicate (64 - k) 0))]) 77 1
    (fun k => 16 - k) (fun k => k ≤ 16)
    ⟨0, [0], rfl, by omega, by (refine ⟨rfl, rfl, ?_, ?_⟩ <;> repeat' (first | exact True.intro | rfl | decide | (refine And.intro ?_ ?_)))⟩ ?_
  intro k hk
  have hsl := schW_len b k
  rcases Nat.lt_or_ge k 16 with h16 | h16
  · obtain ⟨ys, hys⟩ : ∃ ys, ys = cutB b (4 * k) 4 := ⟨_, rfl⟩
    have hyl : ys.length = 4 := by rw [hys]; exact cutB_len (by omega)
    have hyw : wfd ys := by rw [hys]; exact hb.cut _ _
    have e1 : IntKind.i64.wrap (4 * (k : Int)) = ((4 * k : Nat) : Int) := by rw [wrap_i64 (by omega) (by omega)]; omega
    have e2 : IntKind.i64.wrap (IntKind.i64.wrap (4 * (k : Int)) + 4) = ((4 * k + 4 : Nat) : Int) := by rw [e1, wrap_i64 (by omega) (by omega)]; omega
    have erep : List.replicate (64 - k) (0 : Int) = 0 :: List.replicate (63 - k) 0 := by rw [show 64 - k = (63 - k) + 1 by omega, List.replicate_succ]
    ((conv=>whnf);repeat' (first|((first|(show (_=true→_)∧(_=false→_);first|refine gT ?_|refine gF ?_)|(show (_=false→_)∧(_=true→_);first|refine gU ?_|refine gV ?_));conv=>whnf)|((first|(first|refine gD ?_ ?_|refine gE ?_ ?_|refine gI ?_ ?_|refine gJ ?_ ?_|refine gK ?_ ?_|refine gL ?_ ?_|refine splitB ?_ ?_|refine splitB2 ?_ ?_)<;>intro _h|intro _h);all_goals first|contradiction|conv=>whnf)|(show _∧_;refine gA ?_;conv=>whnf)|fail))
    refine aloop (T := toldSch) (ι := Nat) (fun j => [(0, .d (byt b)), (2, .optr 0 0), (3, i64 k), (9, i64 k), (18, .d (byt ys)), (19, i64 4), (20, i64 j)]) (fun j => [(0, .row .u32 152 (schW b k ++ bn (ys.take j) :: List.replicate (63 - k) 0))]) 77 1
      (fun j => 4 - j) (fun j => j ≤ 4)
      ⟨0, [0], rfl, by omega, by
        (refine ⟨rfl, rfl, ?_, ?_⟩ <;> repeat' (first | exact True.intro | rfl | decide | (refine And.intro ?_ ?_)))
        · show AVal.d (.ints .u8 _) = AVal.d (.ints .u8 ys)
          rw [e2, e1, hys]; rfl
        · show AVal.d (.int .i64 _) = AVal.d (.int .i64 4)
          rw [e2, e1]
          have : ((b.take ((4 * k + 4 : Nat) : Int).toNat).drop ((4 * k : Nat) : Int).toNat).length = 4 := by
            rw [Int.toNat_natCast, Int.toNat_natCast]; simp; omega
          rw [this]; rfl
        · show some (Ob.row .u32 _ _) = some (Ob.row .u32 _ _)
          rw [erep]; rfl⟩ ?_
    intro j hj
    have hlt : bn (ys.take j) < ((256 ^ j : Nat) : Int) := by
      have := bn_lt (hyw.take j)
      rwa [List.length_take, Nat.min_eq_left (by omega)] at this
    have hnn := bn_nonneg (hyw.take j)
    have hrl : (schW b k ++ bn (ys.take j) :: List.replicate (63 - k) 0).length = 64 := by simp [hsl]; omega
    rcases Nat.lt_or_ge j 4 with h4 | h4
    · have hp : 256 ^ j ≤ 256 ^ 3 := Nat.pow_le_pow_right (by omega) (by omega)
      have est : bn (ys.take (j + 1)) = bn (ys.take j) * 256 + ys.getD j 0 := by rw [take_snoc (by omega), bn_snoc]
      have hg := hyw.get j
      ((conv=>whnf);repeat' (first|((first|(show (_=true→_)∧(_=false→_);first|refine gT ?_|refine gF ?_)|(show (_=false→_)∧(_=true→_);first|refine gU ?_|refine gV ?_));conv=>whnf)|((first|(first|refine gD ?_ ?_|refine gE ?_ ?_|refine gI ?_ ?_|refine gJ ?_ ?_|refine gK ?_ ?_|refine gL ?_ ?_|refine splitB ?_ ?_|refine splitB2 ?_ ?_)<;>intro _h|intro _h);all_goals first|contradiction|conv=>whnf)|(show _∧_;refine gA ?_;conv=>whnf)|fail))
      refine ⟨j + 1, [0], by omega, by omega, rfl, ?_⟩
      (refine ⟨rfl, rfl, ?_, ?_⟩ <;> repeat' (first | exact True.intro | rfl | decide | (refine And.intro ?_ ?_)))
      · exact di (by rw [wrap_i64 (by omega) (by omega)]; rfl)
      · show some (Ob.row .u32 _ _) = some (Ob.row .u32 _ _)
        rw [Nat.zero_add, Int.toNat_natCast, Int.toNat_natCast]
        have hat := app_at (schW b k) (List.replicate (63 - k) 0) (bn (ys.take j))
        rw [hsl] at hat
        rw [hat, or2_step _ _ hnn (by omega) hg.1 (by omega), est]
        have := app_set (schW b k) (List.replicate (63 - k) 0) (bn (ys.take j)) (bn (ys.take j) * 256 + ys.getD j 0)
        rw [hsl] at this
        rw [this]
    · have hj4 : j = 4 := by omega
      have hall : ys.take j = ys := List.take_of_length_le (by omega)
      rw [hall]
      ((conv=>whnf);repeat' (first|((first|(show (_=true→_)∧(_=false→_);first|refine gT ?_|refine gF ?_)|(show (_=false→_)∧(_=true→_);first|refine gU ?_|refine gV ?_));conv=>whnf)|((first|(first|refine gD ?_ ?_|refine gE ?_ ?_|refine gI ?_ ?_|refine gJ ?_ ?_|refine gK ?_ ?_|refine gL ?_ ?_|refine splitB ?_ ?_|refine splitB2 ?_ ?_)<;>intro _h|intro _h);all_goals first|contradiction|conv=>whnf)|(show _∧_;refine gA ?_;conv=>whnf)|fail))
      refine ⟨k + 1, [0], by omega, by omega, rfl, ?_⟩
      (refine ⟨rfl, rfl, ?_, ?_⟩ <;> repeat' (first | exact True.intro | rfl | decide | (refine And.intro ?_ ?_)))
      · exact di (by rw [wrap_i64 (by omega) (by omega)]; rfl)
      · show some (Ob.row .u32 _ _) = some (Ob.row .u32 _ _)
        simp only [schW, nextW]
        rw [if_pos h16, ← hys, List.append_assoc, show 64 - (k + 1) = 63 - k by omega]
        rfl
  · have hk16 : k = 16 := by omega
    subst hk16
    ((conv=>whnf);repeat' (first|((first|(show (_=true→_)∧(_=false→_);first|refine gT ?_|refine gF ?_)|(show (_=false→_)∧(_=true→_);first|refine gU ?_|refine gV ?_));conv=>whnf)|((first|(first|refine gD ?_ ?_|refine gE ?_ ?_|refine gI ?_ ?_|refine gJ ?_ ?_|refine gK ?_ ?_|refine gL ?_ ?_|refine splitB ?_ ?_|refine splitB2 ?_ ?_)<;>intro _h|intro _h);all_goals first|contradiction|conv=>whnf)|(show _∧_;refine gA ?_;conv=>whnf)|fail))
    refine aloop (T := toldSch) (ι := Nat) (fun k => [(2, .optr 0 0), (6, i64 k)]) (fun k => [(0, .row .u32 152 (schW b k ++ List.replicate (64 - k) 0))]) 77 1
      (fun k => 64 - k) (fun k => 16 ≤ k ∧ k ≤ 64)
      ⟨16, [0], rfl, by omega, by (refine ⟨rfl, rfl, ?_, ?_⟩ <;> repeat' (first | exact True.intro | rfl | decide | (refine And.intro ?_ ?_)))⟩ ?_
    intro k ⟨hk1, hk2⟩
    have hsl := schW_len b k
    have hrl : (schW b k ++ List.replicate (64 - k) 0).length = 64 := by simp [hsl]; omega
    rcases Nat.lt_or_ge k 64 with h64 | h64
    · have e15 : IntKind.i64.wrap ((k : Int) - 15) = (k - 15 : Nat) := by rw [wrap_i64 (by omega) (by omega)]; omega
      have e2 : IntKind.i64.wrap ((k : Int) - 2) = (k - 2 : Nat) := by rw [wrap_i64 (by omega) (by omega)]; omega
      have e16 : IntKind.i64.wrap ((k : Int) - 16) = (k - 16 : Nat) := by rw [wrap_i64 (by omega) (by omega)]; omega
      have e7 : IntKind.i64.wrap ((k : Int) - 7) = (k - 7 : Nat) := by rw [wrap_i64 (by omega) (by omega)]; omega
      have g : ∀ (z : Int) (j : Nat), z = (j : Nat) → j < k → (schW b k ++ List.replicate (64 - k) 0).getD (0 + z.toNat) 0 = (schW b k).getD j 0 := fun z j hz hj => by
        rw [hz, Int.toNat_natCast, Nat.zero_add, app_get _ _ (by omega)]
      have g15 := g _ _ e15 (by omega)
      have g2 := g _ _ e2 (by omega)
      have g16 := g _ _ e16 (by omega)
      have g7 := g _ _ e7 (by omega)
      ((conv=>whnf);repeat' (first|((first|(show (_=true→_)∧(_=false→_);first|refine gT ?_|refine gF ?_)|(show (_=false→_)∧(_=true→_);first|refine gU ?_|refine gV ?_));conv=>whnf)|((first|(first|refine gD ?_ ?_|refine gE ?_ ?_|refine gI ?_ ?_|refine gJ ?_ ?_|refine gK ?_ ?_|refine gL ?_ ?_|refine splitB ?_ ?_|refine splitB2 ?_ ?_)<;>intro _h|intro _h);all_goals first|contradiction|conv=>whnf)|(show _∧_;refine gA ?_;conv=>whnf)|fail))
      refine acallI (s_turn ((schW b k).getD (k - 15) 0) 7 (by omega)) (by rw [← g15]; rfl) fun r hr => ?_
      subst hr
      ((conv=>whnf);repeat' (first|((first|(show (_=true→_)∧(_=false→_);first|refine gT ?_|refine gF ?_)|(show (_=false→_)∧(_=true→_);first|refine gU ?_|refine gV ?_));conv=>whnf)|((first|(first|refine gD ?_ ?_|refine gE ?_ ?_|refine gI ?_ ?_|refine gJ ?_ ?_|refine gK ?_ ?_|refine gL ?_ ?_|refine splitB ?_ ?_|refine splitB2 ?_ ?_)<;>intro _h|intro _h);all_goals first|contradiction|conv=>whnf)|(show _∧_;refine gA ?_;conv=>whnf)|fail))
      refine acallI (s_turn ((schW b k).getD (k - 15) 0) 18 (by omega)) (by rw [← g15]; rfl) fun r hr => ?_
      subst hr
      ((conv=>whnf);repeat' (first|((first|(show (_=true→_)∧(_=false→_);first|refine gT ?_|refine gF ?_)|(show (_=false→_)∧(_=true→_);first|refine gU ?_|refine gV ?_));conv=>whnf)|((first|(first|refine gD ?_ ?_|refine gE ?_ ?_|refine gI ?_ ?_|refine gJ ?_ ?_|refine gK ?_ ?_|refine gL ?_ ?_|refine splitB ?_ ?_|refine splitB2 ?_ ?_)<;>intro _h|intro _h);all_goals first|contradiction|conv=>whnf)|(show _∧_;refine gA ?_;conv=>whnf)|fail))
      refine acallI (s_turn ((schW b k).getD (k - 2) 0) 17 (by omega)) (by rw [← g2]; rfl) fun r hr => ?_
      subst hr
      ((conv=>whnf);repeat' (first|((first|(show (_=true→_)∧(_=false→_);first|refine gT ?_|refine gF ?_)|(show (_=false→_)∧(_=true→_);first|refine gU ?_|refine gV ?_));conv=>whnf)|((first|(first|refine gD ?_ ?_|refine gE ?_ ?_|refine gI ?_ ?_|refine gJ ?_ ?_|refine gK ?_ ?_|refine gL ?_ ?_|refine splitB ?_ ?_|refine splitB2 ?_ ?_)<;>intro _h|intro _h);all_goals first|contradiction|conv=>whnf)|(show _∧_;refine gA ?_;conv=>whnf)|fail))
      refine acallI (s_turn ((schW b k).getD (k - 2) 0) 19 (by omega)) (by rw [← g2]; rfl) fun r hr => ?_
      subst hr
      ((conv=>whnf);repeat' (first|((first|(show (_=true→_)∧(_=false→_);first|refine gT ?_|refine gF ?_)|(show (_=false→_)∧(_=true→_);first|refine gU ?_|refine gV ?_));conv=>whnf)|((first|(first|refine gD ?_ ?_|refine gE ?_ ?_|refine gI ?_ ?_|refine gJ ?_ ?_|refine gK ?_ ?_|refine gL ?_ ?_|refine splitB ?_ ?_|refine splitB2 ?_ ?_)<;>intro _h|intro _h);all_goals first|contradiction|conv=>whnf)|(show _∧_;refine gA ?_;conv=>whnf)|fail))
      refine ⟨k + 1, [0], by omega, by omega, rfl, ?_⟩
      (refine ⟨rfl, rfl, ?_, ?_⟩ <;> repeat' (first | exact True.intro | rfl | decide | (refine And.intro ?_ ?_)))
      · exact di (by rw [wrap_i64 (by omega) (by omega)]; rfl)
      · show some (Ob.row .u32 _ _) = some (Ob.row .u32 _ _)
        rw [g15, g2, g16, g7, Nat.zero_add, Int.toNat_natCast]
        have erep : List.replicate (64 - k) (0 : Int) = 0 :: List.replicate (63 - k) 0 := by rw [show 64 - k = (63 - k) + 1 by omega, List.replicate_succ]
        rw [erep]
        have hset := fun y => app_set (schW b k) (List.replicate (63 - k) 0) 0 y
        rw [hsl] at hset
        rw [hset]
        simp only [schW, nextW]
        rw [if_neg (by omega), List.append_assoc, show 64 - (k + 1) = 63 - k by omega]
        rfl
    · have hk64 : k = 64 := by omega
      obtain ⟨ws, hws⟩ : ∃ ws, ws = schW b k ++ List.replicate (64 - k) 0 := ⟨_, rfl⟩
      have hwe : ws = schW b 64 := by rw [hws, hk64]; simp
      rw [← hws] at hrl ⊢
      have hz : (szT Tryd.prog 152).getD 0 = 64 := rfl
      have hw2 : (ws.drop 0).take ((szT Tryd.prog 152).getD 0) = ws := by rw [hz, List.drop_zero]; exact List.take_of_length_le (by omega)
      ((conv=>whnf);repeat' (first|((first|(show (_=true→_)∧(_=false→_);first|refine gT ?_|refine gF ?_)|(show (_=false→_)∧(_=true→_);first|refine gU ?_|refine gV ?_));conv=>whnf)|((first|(first|refine gD ?_ ?_|refine gE ?_ ?_|refine gI ?_ ?_|refine gJ ?_ ?_|refine gK ?_ ?_|refine gL ?_ ?_|refine splitB ?_ ?_|refine splitB2 ?_ ?_)<;>intro _h|intro _h);all_goals first|contradiction|conv=>whnf)|(show _∧_;refine gA ?_;conv=>whnf)|fail))
      refine ⟨ones_ok _ _, ?_⟩
      conv => whnf
      refine ⟨ws, by rw [hw2], by rw [hrl]; rfl, by omega, by omega, ?_⟩
      ((conv=>whnf);repeat' (first|((first|(show (_=true→_)∧(_=false→_);first|refine gT ?_|refine gF ?_)|(show (_=false→_)∧(_=true→_);first|refine gU ?_|refine gV ?_));conv=>whnf)|((first|(first|refine gD ?_ ?_|refine gE ?_ ?_|refine gI ?_ ?_|refine gJ ?_ ?_|refine gK ?_ ?_|refine gL ?_ ?_|refine splitB ?_ ?_|refine splitB2 ?_ ?_)<;>intro _h|intro _h);all_goals first|contradiction|conv=>whnf)|(show _∧_;refine gA ?_;conv=>whnf)|fail))
      have e : ws.take 0 ++ ws ++ ws.drop (0 + ws.length) = ws := by simp
      refine Ends.imm rfl ?_
      rw [e, hw2, hwe]

/-- Eight words, as a struct's parts. -/
def st8 (s : List Int) : List AVal := [u32 (s.getD 0 0), u32 (s.getD 1 0), u32 (s.getD 2 0), u32 (s.getD 3 0), u32 (s.getD 4 0), u32 (s.getD 5 0), u32 (s.getD 6 0), u32 (s.getD 7 0)]
/-- A sum under way. -/
def hashC (s : List Int) (rest : AVal) (cnt : Int) : List AVal := [u32 (s.getD 0 0), u32 (s.getD 1 0), u32 (s.getD 2 0), u32 (s.getD 3 0), u32 (s.getD 4 0), u32 (s.getD 5 0), u32 (s.getD 6 0), u32 (s.getD 7 0), rest, .d (.int .u64 cnt)]
def ROUNDS : D := .agg (KK.map (D.int .u32))

def toldTake : AW.Told := ⟨fun _ => false, fun _ _ => [], fun r =>
  if r == 5 then .take 0 (.take 1 (.take 2 (.take 3 (.take 4 (.take 5 .done)))))
  else if r == 6 then .take 0 (.take 1 (.take 2 (.take 4 (.take 7 (.take 11 (.take 12 (.take 13 (.take 14 (.take 15 (.take 16 (.take 17 (.take 18 (.take 19 (.take 20 (.take 22 (.take 24 (.take 25 (.take 26 (.one 3 (.one 5 (.take 6 (.one 8 (.take 9 (.take 10 (.take 21 (.take 23 (.take 27 (.take 28 .done))))))))))))))))))))))))))))
  else if r == 7 then .take 0 (.take 2 (.take 5 (.take 8 (.take 9 (.take 10 (.take 11 (.take 12 (.take 13 (.take 14 (.take 15 (.take 16 (.take 17 (.take 18 (.take 19 (.take 20 (.take 21 (.take 22 (.one 1 (.one 3 (.take 4 (.one 6 (.take 7 (.take 23 (.take 24 .done))))))))))))))))))))))))
  else if r == 13 then .take 0 (.take 1 (.take 2 (.take 3 (.take 4 (.take 5 (.take 6 (.take 7 (.take 8 (.take 9 (.take 10 (.one 11 .done)))))))))))
  else .done⟩

theorem s_take (hG : Globs.gl 4 = some ROUNDS) (s b rest : List Int) (cnt : Int) (hs : s.length = 8) (hb : wfd b) (hl : b.length = 64) :
    CSpec Tryd.prog 116 [.optr 0 0, .d (byt b)] [(0, .cell 136 (hashC s (.d (byt rest)) cnt))] 1
      (fun st nx r => st = [(0, .cell 136 (hashC (blkS s b) (.d (byt rest)) cnt))] ∧ nx = 1 ∧ r = .tup []) := by
  refine CSpec.ends (CSpec.of_awp toldTake [] Tryd.func116 rfl (by decide) (Nat.le_of_ble_eq_true rfl) fun _w0 _S0 _E0 _B0 => ?_)
  obtain ⟨s', hs'⟩ : ∃ s', s' = blkS s b := ⟨_, rfl⟩
  rw [← hs']
  obtain ⟨ws, hws⟩ : ∃ ws, ws = schW b 64 := ⟨_, rfl⟩
  have hwl : ws.length = 64 := by rw [hws]; exact schW_len b 64
  have hsc := s_sched b hb hl
  rw [← hws] at hsc
  ((conv=>whnf);repeat' (first|((first|(show (_=true→_)∧(_=false→_);first|refine nTt ?_|refine nFf ?_)|(show (_=false→_)∧(_=true→_);first|refine nU ?_|refine nV ?_));conv=>whnf)|((first|(first|refine gD ?_ ?_|refine gE ?_ ?_|refine gI ?_ ?_|refine gJ ?_ ?_|refine gK ?_ ?_|refine gL ?_ ?_|refine splitB ?_ ?_|refine splitB2 ?_ ?_)<;>intro _h|intro _h);all_goals first|contradiction|conv=>whnf)|(show _∧_;refine gA ?_;conv=>whnf)|fail))
  refine acallI hsc rfl fun r hr => ?_
  subst hr
  clear hsc
  ((conv=>whnf);repeat' (first|((first|(show (_=true→_)∧(_=false→_);first|refine nTt ?_|refine nFf ?_)|(show (_=false→_)∧(_=true→_);first|refine nU ?_|refine nV ?_));conv=>whnf)|((first|(first|refine gD ?_ ?_|refine gE ?_ ?_|refine gI ?_ ?_|refine gJ ?_ ?_|refine gK ?_ ?_|refine gL ?_ ?_|refine splitB ?_ ?_|refine splitB2 ?_ ?_)<;>intro _h|intro _h);all_goals first|contradiction|conv=>whnf)|(show _∧_;refine gA ?_;conv=>whnf)|fail))
  refine ⟨ones_ok _ _, ?_⟩
  conv => whnf
  refine ⟨ws, rfl, by rw [hwl]; rfl, by omega, by rw [List.length_replicate, hwl]; omega, ?_⟩
  have ews : (List.replicate 64 (0 : Int)).take 0 ++ ws ++ (List.replicate 64 (0 : Int)).drop (0 + ws.length) = ws := by rw [hwl]; simp
  rw [ews]
  ((conv=>whnf);repeat' (first|((first|(show (_=true→_)∧(_=false→_);first|refine nTt ?_|refine nFf ?_)|(show (_=false→_)∧(_=true→_);first|refine nU ?_|refine nV ?_));conv=>whnf)|((first|(first|refine gD ?_ ?_|refine gE ?_ ?_|refine gI ?_ ?_|refine gJ ?_ ?_|refine gK ?_ ?_|refine gL ?_ ?_|refine splitB ?_ ?_|refine splitB2 ?_ ?_)<;>intro _h|intro _h);all_goals first|contradiction|conv=>whnf)|(show _∧_;refine gA ?_;conv=>whnf)|fail))
  rw [aev_global hG]
  ((conv=>whnf);repeat' (first|((first|(show (_=true→_)∧(_=false→_);first|refine nTt ?_|refine nFf ?_)|(show (_=false→_)∧(_=true→_);first|refine nU ?_|refine nV ?_));conv=>whnf)|((first|(first|refine gD ?_ ?_|refine gE ?_ ?_|refine gI ?_ ?_|refine gJ ?_ ?_|refine gK ?_ ?_|refine gL ?_ ?_|refine splitB ?_ ?_|refine splitB2 ?_ ?_)<;>intro _h|intro _h);all_goals first|contradiction|conv=>whnf)|(show _∧_;refine gA ?_;conv=>whnf)|fail))
  refine aloop (T := toldTake) (ι := Nat) (fun k => [(0, .optr 0 0), (4, .optr 1 0), (5, .optr 2 0), (20, .d ROUNDS), (21, i64 k)])
    (fun k => [(0, .cell 136 (hashC s (.d (byt rest)) cnt)), (1, .row .u32 152 ws), (2, .cell 134 (st8 (rnds s ws k)))]) 117 3
    (fun k => 64 - k) (fun k => k ≤ 64)
    ⟨0, [0, 1, 2], rfl, by omega, by (refine ⟨rfl, rfl, ?_, ?_⟩ <;> repeat' (first | exact True.intro | rfl | decide | (refine And.intro ?_ ?_)))⟩ ?_
  intro k hk
  obtain ⟨v, hv⟩ : ∃ v, v = rnds s ws k := ⟨_, rfl⟩
  rw [← hv]
  rcases Nat.lt_or_ge k 64 with h64 | h64
  · have hkw : k < ws.length := by omega
    ((conv=>whnf);repeat' (first|((first|(show (_=true→_)∧(_=false→_);first|refine gT ?_|refine gF ?_)|(show (_=false→_)∧(_=true→_);first|refine gU ?_|refine gV ?_));conv=>whnf)|((first|(first|refine gD ?_ ?_|refine gE ?_ ?_|refine gI ?_ ?_|refine gJ ?_ ?_|refine gK ?_ ?_|refine gL ?_ ?_|refine splitB ?_ ?_|refine splitB2 ?_ ?_)<;>intro _h|intro _h);all_goals first|contradiction|conv=>whnf)|(show _∧_;refine gA ?_;conv=>whnf)|fail))
    refine acallI (s_turn (v.getD 4 0) 6 (by omega)) rfl fun r hr => ?_
    subst hr
    ((conv=>whnf);repeat' (first|((first|(show (_=true→_)∧(_=false→_);first|refine gT ?_|refine gF ?_)|(show (_=false→_)∧(_=true→_);first|refine gU ?_|refine gV ?_));conv=>whnf)|((first|(first|refine gD ?_ ?_|refine gE ?_ ?_|refine gI ?_ ?_|refine gJ ?_ ?_|refine gK ?_ ?_|refine gL ?_ ?_|refine splitB ?_ ?_|refine splitB2 ?_ ?_)<;>intro _h|intro _h);all_goals first|contradiction|conv=>whnf)|(show _∧_;refine gA ?_;conv=>whnf)|fail))
    refine acallI (s_turn (v.getD 4 0) 11 (by omega)) rfl fun r hr => ?_
    subst hr
    ((conv=>whnf);repeat' (first|((first|(show (_=true→_)∧(_=false→_);first|refine gT ?_|refine gF ?_)|(show (_=false→_)∧(_=true→_);first|refine gU ?_|refine gV ?_));conv=>whnf)|((first|(first|refine gD ?_ ?_|refine gE ?_ ?_|refine gI ?_ ?_|refine gJ ?_ ?_|refine gK ?_ ?_|refine gL ?_ ?_|refine splitB ?_ ?_|refine splitB2 ?_ ?_)<;>intro _h|intro _h);all_goals first|contradiction|conv=>whnf)|(show _∧_;refine gA ?_;conv=>whnf)|fail))
    refine acallI (s_turn (v.getD 4 0) 25 (by omega)) rfl fun r hr => ?_
    subst hr
    ((conv=>whnf);repeat' (first|((first|(show (_=true→_)∧(_=false→_);first|refine gT ?_|refine gF ?_)|(show (_=false→_)∧(_=true→_);first|refine gU ?_|refine gV ?_));conv=>whnf)|((first|(first|refine gD ?_ ?_|refine gE ?_ ?_|refine gI ?_ ?_|refine gJ ?_ ?_|refine gK ?_ ?_|refine gL ?_ ?_|refine splitB ?_ ?_|refine splitB2 ?_ ?_)<;>intro _h|intro _h);all_goals first|contradiction|conv=>whnf)|(show _∧_;refine gA ?_;conv=>whnf)|fail))
    refine acallI (s_turn (v.getD 0 0) 2 (by omega)) rfl fun r hr => ?_
    subst hr
    ((conv=>whnf);repeat' (first|((first|(show (_=true→_)∧(_=false→_);first|refine gT ?_|refine gF ?_)|(show (_=false→_)∧(_=true→_);first|refine gU ?_|refine gV ?_));conv=>whnf)|((first|(first|refine gD ?_ ?_|refine gE ?_ ?_|refine gI ?_ ?_|refine gJ ?_ ?_|refine gK ?_ ?_|refine gL ?_ ?_|refine splitB ?_ ?_|refine splitB2 ?_ ?_)<;>intro _h|intro _h);all_goals first|contradiction|conv=>whnf)|(show _∧_;refine gA ?_;conv=>whnf)|fail))
    refine acallI (s_turn (v.getD 0 0) 13 (by omega)) rfl fun r hr => ?_
    subst hr
    ((conv=>whnf);repeat' (first|((first|(show (_=true→_)∧(_=false→_);first|refine gT ?_|refine gF ?_)|(show (_=false→_)∧(_=true→_);first|refine gU ?_|refine gV ?_));conv=>whnf)|((first|(first|refine gD ?_ ?_|refine gE ?_ ?_|refine gI ?_ ?_|refine gJ ?_ ?_|refine gK ?_ ?_|refine gL ?_ ?_|refine splitB ?_ ?_|refine splitB2 ?_ ?_)<;>intro _h|intro _h);all_goals first|contradiction|conv=>whnf)|(show _∧_;refine gA ?_;conv=>whnf)|fail))
    refine acallI (s_turn (v.getD 0 0) 22 (by omega)) rfl fun r hr => ?_
    subst hr
    ((conv=>whnf);repeat' (first|((first|(show (_=true→_)∧(_=false→_);first|refine gT ?_|refine gF ?_)|(show (_=false→_)∧(_=true→_);first|refine gU ?_|refine gV ?_));conv=>whnf)|((first|(first|refine gD ?_ ?_|refine gE ?_ ?_|refine gI ?_ ?_|refine gJ ?_ ?_|refine gK ?_ ?_|refine gL ?_ ?_|refine splitB ?_ ?_|refine splitB2 ?_ ?_)<;>intro _h|intro _h);all_goals first|contradiction|conv=>whnf)|(show _∧_;refine gA ?_;conv=>whnf)|fail))
    refine ⟨k + 1, [0, 1, 2], by omega, by omega, rfl, ?_⟩
    (refine ⟨rfl, rfl, ?_, ?_⟩ <;> repeat' (first | exact True.intro | rfl | decide | (refine And.intro ?_ ?_)))
    · exact di (by rw [wrap_i64 (by omega) (by omega)]; rfl)
    · have e : rnds s ws (k + 1) = rnd v (KK.getD k 0) (ws.getD (0 + (k : Int).toNat) 0) := by rw [hv, Nat.zero_add]; rfl
      show some (Ob.cell _ _) = some (Ob.cell _ (st8 (rnds s ws (k + 1))))
      rw [e]
      rfl
  · have hk64 : k = 64 := by omega
    ((conv=>whnf);repeat' (first|((first|(show (_=true→_)∧(_=false→_);first|refine gT ?_|refine gF ?_)|(show (_=false→_)∧(_=true→_);first|refine gU ?_|refine gV ?_));conv=>whnf)|((first|(first|refine gD ?_ ?_|refine gE ?_ ?_|refine gI ?_ ?_|refine gJ ?_ ?_|refine gK ?_ ?_|refine gL ?_ ?_|refine splitB ?_ ?_|refine splitB2 ?_ ?_)<;>intro _h|intro _h);all_goals first|contradiction|conv=>whnf)|(show _∧_;refine gA ?_;conv=>whnf)|fail))
    refine AWp.rounds toldTake 9 ?_
    ((conv=>whnf);repeat' (first|((first|(show (_=true→_)∧(_=false→_);first|refine gT ?_|refine gF ?_)|(show (_=false→_)∧(_=true→_);first|refine gU ?_|refine gV ?_));conv=>whnf)|((first|(first|refine gD ?_ ?_|refine gE ?_ ?_|refine gI ?_ ?_|refine gJ ?_ ?_|refine gK ?_ ?_|refine gL ?_ ?_|refine splitB ?_ ?_|refine splitB2 ?_ ?_)<;>intro _h|intro _h);all_goals first|contradiction|conv=>whnf)|(show _∧_;refine gA ?_;conv=>whnf)|fail))
    have e0 : blkS s b = (List.range 8).map fun i => add2 (s.getD i 0) (v.getD i 0) := by unfold blkS; rw [hv, hk64, hws]
    refine ⟨[0], [(0, .cell 136 (hashC s' (.d (byt rest)) cnt))], .tup [], ⟨rfl, ⟨⟨by decide, ?_⟩, trivial⟩, rfl⟩, rfl, rfl, rfl⟩
    show some (Ob.cell _ _) = some (Ob.cell _ (hashC s' (.d (byt rest)) cnt))
    rw [hs', e0]
    rfl
end Go.Proofs.YtniaeiikdgbnfaaDoor.R
namespace Go.Proofs.YtniaeiikdgbnfaaDoor.R
open Go Go.RowKit Go.Proofs Go.Proofs.YtniaeiikdgbnfaaDoor.AW
set_option linter.unusedSectionVars false
variable [Globs]
attribute [local go_sem] Oper.semAt_some
set_option maxRecDepth 100000
set_option linter.unusedSimpArgs false
set_option linter.unusedVariables false
set_option maxHeartbeats 4000000

theorem itC (l b o b3 o3 b2 o2 c : Nat) (xs : List Int) (n : Nat) (J : Nat → World → Prop) (Jx : World → Prop) (W : World) (hl : xs.length ≤ 1000000000) (hn : xs.length = 64 * n) (hc0 : xs.length ≤ c)
   (hG : ∀ k W, J k W → W.cell? ⟨b, o, none⟩ = some (.slice (some ⟨b2, o2, none⟩) xs.length c) ∧ W.cell? ⟨b3, o3, none⟩ = some (.int .i64 64))
   (hY : ∀ k W, k < n → J k W → YieldAt (fence none) 0 Tryd.prog l #[.slice (some ⟨b2, o2 + 64 * k, none⟩) 64 64] W fun e W' => (e = .returned (.bool true) ∧ J (k + 1) W') ∨ (e = .returned (.bool false) ∧ Jx W'))
   (hJg : ∀ k W W', J k W → W.grownBy W' none → J k W')
   (h0 : J 0 W) : CallsIn Fence.wide 0 Tryd.prog 130 #[.func (.yield l) #[] #[], .pointer (some ⟨b, o, none⟩), .pointer (some ⟨b3, o3, none⟩)] W fun e W' => (∃ v, e = .returned v) ∧ (J n W' ∨ Jx W') := by
  have hc := (hG 0 W h0).1
  have hd := (hG 0 W h0).2
  refine callsIn_of_wp Tryd.func130 rfl trivial ?_ rfl
  simp only [Tryd.ntmps130, List.size_toArray, List.length_cons, List.length_nil, Nat.reduceAdd, Nat.reduceSub, Array.replicate_succ, Array.replicate_zero, List.push_toArray, List.append_toArray, List.nil_append, List.cons_append]
  gi_wp2
  clear hc hd
  gi_loopw [4] (fun i wr => ∃ k : Nat, k ≤ n ∧ i = .int .i64 (64 * (k : Int)) ∧ J k wr) (fun i _ => (xs.length - intOf i).toNat)
  case atStart => exact ⟨0, Nat.zero_le _, by simp, h0⟩
  case round =>
    obtain ⟨k, hk, rfl, hJ⟩ := hrel
    by_cases hlt : k < n
    · have hc := (hG k _ hJ).1
      have hd := (hG k _ hJ).2
      have hJ2 : J k wr.drew := hJg k wr _ hJ ⟨rfl, rfl, rfl, Nat.le_refl _, fun _ _ _ => rfl⟩
      obtain ⟨fn, tmps, assign, body, hy, hR⟩ := hY k _ hlt hJ2
      have hG2 : id (∀ k W, J k W → W.cell? ⟨b, o, none⟩ = some (.slice (some ⟨b2, o2, none⟩) xs.length c) ∧ W.cell? ⟨b3, o3, none⟩ = some (.int .i64 64)) := hG
      clear hG hY hJg
      gi_wp2
      gi_region
      gi_wp2
      refine ⟨rfl, RoundIn.mono hR ?_⟩
      rintro e W' (⟨rfl, hJ'⟩ | ⟨rfl, hJ'⟩)
      · have hd' := (hG2 _ _ hJ').2
        clear hG2 hc hd hR hy
        gi_wp2
        go_roundw
        case rel => exact ⟨k + 1, by omega, by simp; omega, hJ'⟩
        case measure => simp [intOf]; omega
      · clear hG2
        gi_wp2
        exact bodyPost_ret (results_none rfl _ _ _) rfl ⟨⟨_, rfl⟩, .inr hJ'⟩
    · have : k = n := by omega
      subst this
      have hc := (hG k _ hJ).1
      clear hG hY
      gi_wp2
      go_end0
      exact ⟨⟨_, rfl⟩, .inl hJ⟩

/-- The stretches of 64 of a list, one by one. -/
theorem aiC (xs : List Int) (n : Nat) (hn : xs.length = 64 * n) (hl : xs.length ≤ 1000000000) (h0 : 0 < n) : AIter Tryd.prog 130 [.ptr (byt xs), .ptr (.int .i64 64)] n (fun k => [byt (cutB xs (64 * k) 64)]) := by
  refine ⟨⟨_, Tryd.func130, rfl, by decide⟩, fun w S lb h => ?_⟩
  simp only [RepAll, Rep] at h
  obtain ⟨c1, c2, e, ⟨b, o, rfl, hSb, vs, hcb, A, c, rfl, hle, hL, hwf, hne⟩, c3, c4, rfl, ⟨b3, o3, rfl, hSb3, vs3, hcb3, rfl, _⟩, rfl⟩ := h
  have hlb : lb = #[.pointer (some ⟨b, o, none⟩), .pointer (some ⟨b3, o3, none⟩)] := by apply Array.ext'; simpa using e
  subst hlb
  obtain ⟨b2, o2, rfl, hS2, hc2⟩ := hne (fun h => by subst h; simp at hn; omega)
  refine ⟨fun k => #[.slice (some ⟨b2, o2 + 64 * k, none⟩) 64 64], fun k hk => ?_, fun l J Jx W hJg hJxg hG hY h0 => ?_⟩
  · have hcl : (cutB xs (64 * k) 64).length = 64 := cutB_len (by omega)
    simp only [List.map_cons, List.map_nil, VAll, VRel, Rep]
    refine ⟨_, _, rfl, ⟨[.slice (some ⟨b2, o2 + 64 * k, none⟩) 64 64], ⟨some ⟨b2, o2 + 64 * k, none⟩, 64, by rw [hcl], by omega, by rw [hcl]; unfold LIM; omega, fun x hx => hwf x (List.mem_of_mem_take (List.mem_of_mem_drop hx)), fun _ => ⟨b2, o2 + 64 * k, rfl, hS2, ?_⟩⟩, rfl⟩, rfl⟩
    intro i v hv
    have hi : i < 64 := by
      have := (List.getElem?_eq_some_iff.1 hv).1
      simpa [hcl] using this
    have := hc2 (64 * k + i) v (by
      rw [← hv, List.getElem?_map, List.getElem?_map]
      unfold cutB
      rw [List.getElem?_drop, List.getElem?_take_of_lt (by omega)])
    rwa [← Nat.add_assoc] at this
  · have hcell : ∀ W : World, (∀ b, S b → W.heap[b]? = w.heap[b]?) → W.cell? ⟨b, o, none⟩ = some (.slice (some ⟨b2, o2, none⟩) xs.length c) ∧ W.cell? ⟨b3, o3, none⟩ = some (.int .i64 64) := fun W hW => by
      have h1 := (Cells.keep hcb (hW b hSb)) 0 _ rfl
      have h2 := (Cells.keep hcb3 (hW b3 hSb3)) 0 _ rfl
      exact ⟨by simpa using h1, by simpa using h2⟩
    refine callsIn_fence.1 (?_ : CallsIn Fence.wide 0 _ _ _ _ _)
    exact itC l b o b3 o3 b2 o2 c xs n J Jx W hl hn hle (fun k W hJ => hcell W (hG k W hJ)) hY hJg h0
end Go.Proofs.YtniaeiikdgbnfaaDoor.R
namespace Go.Proofs.YtniaeiikdgbnfaaDoor.R
open Go Go.RowKit Go.Proofs Go.Proofs.YtniaeiikdgbnfaaDoor.AW
set_option linter.unusedSectionVars false
variable [Globs]
set_option maxRecDepth 100000
set_option linter.unusedSimpArgs false
set_option linter.unusedVariables false
set_option maxHeartbeats 4000000

theorem cutB_app (t b : List Int) {off len : Nat} (h : off + len ≤ t.length) : cutB (t ++ b) off len = cutB t off len := by
  unfold cutB
  rw [List.take_append_of_le_length h]
theorem cutB_drop (t : List Int) (k off len : Nat) : cutB (t.drop k) off len = cutB t (k + off) len := by
  unfold cutB
  rw [List.take_drop, List.drop_drop, ← Nat.add_assoc]
theorem foldS_app (s t b : List Int) : ∀ {k : Nat}, 64 * k ≤ t.length → foldS s (t ++ b) k = foldS s t k
  | 0, _ => rfl
  | k + 1, h => by simp only [foldS]; rw [foldS_app s t b (show 64 * k ≤ t.length by omega), cutB_app _ _ (by omega)]
theorem foldS_split (s p : List Int) (k : Nat) : ∀ j, foldS s p (k + j) = foldS (foldS s p k) (p.drop (64 * k)) j
  | 0 => rfl
  | j + 1 => by
    rw [← Nat.add_assoc]
    simp only [foldS]
    rw [foldS_split s p k j, cutB_drop, Nat.mul_add]

/-- The state, what is left, and how many there were, behind a text. -/
def stS (t : List Int) : List Int := foldS H0 t (t.length / 64)
def reS (t : List Int) : List Int := t.drop (64 * (t.length / 64))
theorem stS_len (t : List Int) : (stS t).length = 8 := foldS_len _ _ rfl _
theorem reS_len (t : List Int) : (reS t).length = t.length % 64 := by simp [reS]; omega
theorem reS_wfd {t : List Int} (h : wfd t) : wfd (reS t) := h.drop _
theorem stS_app (t b : List Int) : stS (t ++ b) = foldS (stS t) (reS t ++ b) ((reS t ++ b).length / 64) ∧ reS (t ++ b) = (reS t ++ b).drop (64 * ((reS t ++ b).length / 64)) := by
  have hl := reS_len t
  have e : (t ++ b).length / 64 = t.length / 64 + (reS t ++ b).length / 64 := by simp [hl]; omega
  have e2 : (t ++ b).drop (64 * (t.length / 64)) = reS t ++ b := by
    unfold reS
    rw [List.drop_append_of_le_length (by omega)]
  constructor
  · unfold stS
    rw [e, foldS_split, e2, foldS_app H0 t b (by omega)]
  · rw [show reS (t ++ b) = (t ++ b).drop (64 * ((t ++ b).length / 64)) from rfl, e, Nat.mul_add, ← List.drop_drop, e2]

def FIRST : D := .agg (H0.map (D.int .u32))

theorem s_new (hF : Globs.gl 1 = some FIRST) : CSpec Tryd.prog 98 [] [] 0
    (fun st nx r => st = [(1, .row .u8 5 []), (0, .cell 136 (hashC H0 (.own 1) 0))] ∧ nx = 2 ∧ r = .optr 0 0) := by
  have h : CSpec Tryd.prog 98 [] [] 0 (fun st nx r => st = [(0, .cell 136 (hashC H0 (.nls (byt [])) 0))] ∧ nx = 1 ∧ r = .optr 0 0) := by
    refine CSpec.ends (CSpec.of_awp told0 [] Tryd.func98 rfl (by decide) (Nat.le_of_ble_eq_true rfl) fun _w0 _S0 _E0 _B0 => ?_)
    ((conv=>whnf);repeat' (first|((first|(show (_=true→_)∧(_=false→_);first|refine nTt ?_|refine nFf ?_)|(show (_=false→_)∧(_=true→_);first|refine nU ?_|refine nV ?_));conv=>whnf)|((first|(first|refine gD ?_ ?_|refine gE ?_ ?_|refine gI ?_ ?_|refine gJ ?_ ?_|refine gK ?_ ?_|refine gL ?_ ?_|refine splitB ?_ ?_|refine splitB2 ?_ ?_)<;>intro _h|intro _h);all_goals first|contradiction|conv=>whnf)|(show _∧_;refine gA ?_;conv=>whnf)|fail))
    rw [aev_global hF]
    ((conv=>whnf);repeat' (first|((first|(show (_=true→_)∧(_=false→_);first|refine nTt ?_|refine nFf ?_)|(show (_=false→_)∧(_=true→_);first|refine nU ?_|refine nV ?_));conv=>whnf)|((first|(first|refine gD ?_ ?_|refine gE ?_ ?_|refine gI ?_ ?_|refine gJ ?_ ?_|refine gK ?_ ?_|refine gL ?_ ?_|refine splitB ?_ ?_|refine splitB2 ?_ ?_)<;>intro _h|intro _h);all_goals first|contradiction|conv=>whnf)|(show _∧_;refine gA ?_;conv=>whnf)|fail))
    exact ⟨[0], [(0, .cell 136 (hashC H0 (.nls (byt [])) 0))], .optr 0 0, ⟨rfl, ⟨⟨by decide, rfl⟩, trivial⟩, rfl⟩, rfl, rfl, rfl⟩
  refine h.adoptPart fun st nx r ⟨e1, e2, e3⟩ => .inr ⟨0, 136, hashC H0 (.nls (byt [])) 0, 8, .nls (byt []), .u8, 5, by rw [e1]; rfl, rfl, rfl, ?_, ?_, e3⟩
  · rw [e1, e2]; rfl
  · rw [e2]

def toldWr : AW.Told := ⟨fun f => f == 116, fun r i => if r == 1 && i == 7 then [20] else [], fun _ => .done⟩

/-- A copy, of whatever length: the caller's own. -/
theorem k_cloneA (xs : List Int) (hl : xs.length ≤ 1000000000) : CSpec Tryd.prog 47 [.d (byt xs)] [] 0 (fun st nx r => st = [(0, .row .u8 5 xs)] ∧ nx = 1 ∧ r = .own 0) := by
  have h : CSpec Tryd.prog 47 [.d (byt xs)] [] 0 (fun st nx r => st = [(0, .row .u8 5 xs)] ∧ nx = 1 ∧ r = .own 0 ∨ xs = [] ∧ st = [] ∧ nx = 0 ∧ isEm r = true) := by
    refine CSpec.ends (CSpec.of_awp told0 [] Tryd.func47 rfl (by decide) (Nat.le_of_ble_eq_true rfl) fun _w0 _S0 _E0 _B0 => ?_)
    ((conv=>whnf);repeat' (first|((first|(show (_=true→_)∧(_=false→_);first|refine nTt ?_|refine nFf ?_)|(show (_=false→_)∧(_=true→_);first|refine nU ?_|refine nV ?_));conv=>whnf)|((first|(first|refine gD ?_ ?_|refine gE ?_ ?_|refine gI ?_ ?_|refine gJ ?_ ?_|refine gK ?_ ?_|refine gL ?_ ?_|refine splitB ?_ ?_|refine splitB2 ?_ ?_)<;>intro _h|intro _h);all_goals first|contradiction|conv=>whnf)|(show _∧_;refine gA ?_;conv=>whnf)|fail))
    refine ⟨fun h0 => ?_, ?_⟩
    · ((conv=>whnf);repeat' (first|((first|(show (_=true→_)∧(_=false→_);first|refine nTt ?_|refine nFf ?_)|(show (_=false→_)∧(_=true→_);first|refine nU ?_|refine nV ?_));conv=>whnf)|((first|(first|refine gD ?_ ?_|refine gE ?_ ?_|refine gI ?_ ?_|refine gJ ?_ ?_|refine gK ?_ ?_|refine gL ?_ ?_|refine splitB ?_ ?_|refine splitB2 ?_ ?_)<;>intro _h|intro _h);all_goals first|contradiction|conv=>whnf)|(show _∧_;refine gA ?_;conv=>whnf)|fail))
      exact ⟨[], [], .nls (byt []), ⟨rfl, trivial, rfl⟩, .inr ⟨h0, rfl, rfl, rfl⟩⟩
    · ((conv=>whnf);repeat' (first|((first|(show (_=true→_)∧(_=false→_);first|refine nTt ?_|refine nFf ?_)|(show (_=false→_)∧(_=true→_);first|refine nU ?_|refine nV ?_));conv=>whnf)|((first|(first|refine gD ?_ ?_|refine gE ?_ ?_|refine gI ?_ ?_|refine gJ ?_ ?_|refine gK ?_ ?_|refine gL ?_ ?_|refine splitB ?_ ?_|refine splitB2 ?_ ?_)<;>intro _h|intro _h);all_goals first|contradiction|conv=>whnf)|(show _∧_;refine gA ?_;conv=>whnf)|fail))
      refine ⟨by show (0 + xs.length) * 1 ≤ 140737488355328; omega, ?_⟩
      ((conv=>whnf);repeat' (first|((first|(show (_=true→_)∧(_=false→_);first|refine nTt ?_|refine nFf ?_)|(show (_=false→_)∧(_=true→_);first|refine nU ?_|refine nV ?_));conv=>whnf)|((first|(first|refine gD ?_ ?_|refine gE ?_ ?_|refine gI ?_ ?_|refine gJ ?_ ?_|refine gK ?_ ?_|refine gL ?_ ?_|refine splitB ?_ ?_|refine splitB2 ?_ ?_)<;>intro _h|intro _h);all_goals first|contradiction|conv=>whnf)|(show _∧_;refine gA ?_;conv=>whnf)|fail))
      exact ⟨[0], [(0, .row .u8 5 xs)], .own 0, ⟨rfl, ⟨⟨by decide, rfl⟩, trivial⟩, rfl⟩, .inl ⟨rfl, rfl, rfl⟩⟩
  refine h.adoptR fun st nx r h => ?_
  rcases h with h | ⟨rfl, rfl, rfl, h⟩
  · exact .inl h
  · exact .inr ⟨h, .u8, 5, rfl, rfl, rfl⟩

theorem drop64 (all : List Int) (k : Nat) : (((all.drop (64 * k)).take (Int.toNat 64)).drop 0) = cutB all (64 * k) 64 := by
  unfold cutB
  rw [List.drop_zero, List.take_drop]; rfl
theorem drop64' (all : List Int) (k : Nat) : ((all.drop (64 * k)).take (all.drop (64 * k)).length).drop (Int.toNat 64) = all.drop (64 * (k + 1)) := by
  rw [List.take_length, List.drop_drop]; rfl

theorem s_write (hG : Globs.gl 4 = some ROUNDS) (s xs b : List Int) (cnt : Int) (hs : s.length = 8) (hx : wfd xs) (hb : wfd b) (hl : xs.length + b.length ≤ 100000000) :
    CSpec Tryd.prog 99 [.optr 0 0, .d (byt b)] [(0, .cell 136 (hashC s (.own 1) cnt)), (1, .row .u8 5 xs)] 2
      (fun st nx r => st = [(2, .row .u8 5 ((xs ++ b).drop (64 * ((xs ++ b).length / 64)))), (0, .cell 136 (hashC (foldS s (xs ++ b) ((xs ++ b).length / 64)) (.own 2) (IntKind.u64.wrap (cnt + b.length))))] ∧ nx = 3 ∧ r = .tup []) := by
  obtain ⟨all, hall⟩ : ∃ all, all = xs ++ b := ⟨_, rfl⟩
  have hal : all.length = xs.length + b.length := by rw [hall, List.length_append]
  have haw : wfd all := by rw [hall]; exact hx.append hb
  have hw0 : IntKind.u64.wrap (b.length : Int) = b.length := wrap_u64 (by omega) (by omega)
  rw [← hall]
  refine CSpec.ends (CSpec.of_awp toldWr [] Tryd.func99 rfl (by decide) (Nat.le_of_ble_eq_true rfl) fun _w0 _S0 _E0 _B0 => ?_)
  ((conv=>whnf);repeat' (first|((first|(show (_=true→_)∧(_=false→_);first|refine gT ?_|refine gF ?_)|(show (_=false→_)∧(_=true→_);first|refine gU ?_|refine gV ?_));conv=>whnf)|((first|(first|refine gD ?_ ?_|refine gE ?_ ?_|refine gI ?_ ?_|refine gJ ?_ ?_|refine gK ?_ ?_|refine gL ?_ ?_|refine splitB ?_ ?_|refine splitB2 ?_ ?_)<;>intro _h|intro _h);all_goals first|contradiction|conv=>whnf)|(show _∧_;refine gA ?_;conv=>whnf)|fail))
  refine AWp.renew 1 rfl ?_
  refine AWp.scope (T := toldWr) (ι := Nat) (L := 0) rfl (fun k => [(0, .optr 0 0)]) (fun k => [(0, .cell 136 (hashC (foldS s all k) (.d (byt (all.drop (64 * k)))) (IntKind.u64.wrap (cnt + IntKind.u64.wrap b.length))))]) 52 2
    (fun k => all.length - 64 * k) (fun k => 64 * k ≤ all.length) ?_ ?_
  · subst hall
    ((conv=>whnf);repeat' (first|((first|(show (_=true→_)∧(_=false→_);first|refine gT ?_|refine gF ?_)|(show (_=false→_)∧(_=true→_);first|refine gU ?_|refine gV ?_));conv=>whnf)|((first|(first|refine gD ?_ ?_|refine gE ?_ ?_|refine gI ?_ ?_|refine gJ ?_ ?_|refine gK ?_ ?_|refine gL ?_ ?_|refine splitB ?_ ?_|refine splitB2 ?_ ?_)<;>intro _h|intro _h);all_goals first|contradiction|conv=>whnf)|(show _∧_;refine gA ?_;conv=>whnf)|fail))
    refine ⟨by show (xs.length + b.length) * 1 ≤ 140737488355328; omega, ?_⟩
    ((conv=>whnf);repeat' (first|((first|(show (_=true→_)∧(_=false→_);first|refine gT ?_|refine gF ?_)|(show (_=false→_)∧(_=true→_);first|refine gU ?_|refine gV ?_));conv=>whnf)|((first|(first|refine gD ?_ ?_|refine gE ?_ ?_|refine gI ?_ ?_|refine gJ ?_ ?_|refine gK ?_ ?_|refine gL ?_ ?_|refine splitB ?_ ?_|refine splitB2 ?_ ?_)<;>intro _h|intro _h);all_goals first|contradiction|conv=>whnf)|(show _∧_;refine gA ?_;conv=>whnf)|fail))
    · refine acall [0] (s_take hG s (cutB (xs ++ b) 0 64) (xs ++ b) _ hs ((hx.append hb).cut _ _) (cutB_len (by omega))) rfl ⟨⟨by decide, rfl⟩, trivial⟩ rfl (fun h => Bool.noConfusion h) ?_
      rintro st nx r ⟨rfl, rfl, rfl⟩
      ((conv=>whnf);repeat' (first|((first|(show (_=true→_)∧(_=false→_);first|refine gT ?_|refine gF ?_)|(show (_=false→_)∧(_=true→_);first|refine gU ?_|refine gV ?_));conv=>whnf)|((first|(first|refine gD ?_ ?_|refine gE ?_ ?_|refine gI ?_ ?_|refine gJ ?_ ?_|refine gK ?_ ?_|refine gL ?_ ?_|refine splitB ?_ ?_|refine splitB2 ?_ ?_)<;>intro _h|intro _h);all_goals first|contradiction|conv=>whnf)|(show _∧_;refine gA ?_;conv=>whnf)|fail))
      refine ⟨1, [0, 1], by omega, rfl, ?_⟩
      have hd := drop64' (xs ++ b) 0
      rw [Nat.mul_zero, List.drop_zero] at hd
      rw [← hd]
      (refine ⟨rfl, rfl, ?_, ?_⟩ <;> repeat' (first | exact True.intro | rfl | decide | (refine And.intro ?_ ?_)))
    · have hkk : (xs ++ b).length / 64 = 0 := by omega
      refine acall [] (k_cloneA (xs ++ b) (by rw [List.length_append]; omega)) rfl (by simp [stIn]) rfl (fun _ => rfl) ?_
      rintro st nx r ⟨rfl, rfl, rfl⟩
      ((conv=>whnf);repeat' (first|((first|(show (_=true→_)∧(_=false→_);first|refine gT ?_|refine gF ?_)|(show (_=false→_)∧(_=true→_);first|refine gU ?_|refine gV ?_));conv=>whnf)|((first|(first|refine gD ?_ ?_|refine gE ?_ ?_|refine gI ?_ ?_|refine gJ ?_ ?_|refine gK ?_ ?_|refine gL ?_ ?_|refine splitB ?_ ?_|refine splitB2 ?_ ?_)<;>intro _h|intro _h);all_goals first|contradiction|conv=>whnf)|(show _∧_;refine gA ?_;conv=>whnf)|fail))
      refine ⟨[0, 1, 3], [(2, .row .u8 5 ((xs ++ b).drop (64 * ((xs ++ b).length / 64)))), (0, .cell 136 (hashC (foldS s (xs ++ b) ((xs ++ b).length / 64)) (.own 2) (IntKind.u64.wrap (cnt + b.length))))], .tup [], ⟨rfl, ?_, rfl⟩, rfl, rfl, rfl⟩
      rw [hkk, Nat.mul_zero, List.drop_zero]
      refine ⟨⟨by decide, rfl⟩, ⟨by decide, ?_⟩, trivial⟩
      rw [hw0]
      rfl
  · intro k hk
    have hdl : (all.drop (64 * k)).length = all.length - 64 * k := by simp
    have hfl := foldS_len s all hs k
    rcases Nat.lt_or_ge (all.length - 64 * k) 64 with h64 | h64
    · have hkk : all.length / 64 = k := by omega
      ((conv=>whnf);repeat' (first|((first|(show (_=true→_)∧(_=false→_);first|refine gT ?_|refine gF ?_)|(show (_=false→_)∧(_=true→_);first|refine gU ?_|refine gV ?_));conv=>whnf)|((first|(first|refine gD ?_ ?_|refine gE ?_ ?_|refine gI ?_ ?_|refine gJ ?_ ?_|refine gK ?_ ?_|refine gL ?_ ?_|refine splitB ?_ ?_|refine splitB2 ?_ ?_)<;>intro _h|intro _h);all_goals first|contradiction|conv=>whnf)|(show _∧_;refine gA ?_;conv=>whnf)|fail))
      refine acall [] (k_cloneA (all.drop (64 * k)) (by omega)) rfl (by simp [stIn]) rfl (fun _ => rfl) ?_
      rintro st nx r ⟨rfl, rfl, rfl⟩
      ((conv=>whnf);repeat' (first|((first|(show (_=true→_)∧(_=false→_);first|refine gT ?_|refine gF ?_)|(show (_=false→_)∧(_=true→_);first|refine gU ?_|refine gV ?_));conv=>whnf)|((first|(first|refine gD ?_ ?_|refine gE ?_ ?_|refine gI ?_ ?_|refine gJ ?_ ?_|refine gK ?_ ?_|refine gL ?_ ?_|refine splitB ?_ ?_|refine splitB2 ?_ ?_)<;>intro _h|intro _h);all_goals first|contradiction|conv=>whnf)|(show _∧_;refine gA ?_;conv=>whnf)|fail))
      refine ⟨[0, 1, 2], [(2, .row .u8 5 (all.drop (64 * (all.length / 64)))), (0, .cell 136 (hashC (foldS s all (all.length / 64)) (.own 2) (IntKind.u64.wrap (cnt + b.length))))], .tup [], ⟨rfl, ?_, rfl⟩, rfl, rfl, rfl⟩
      rw [hkk]
      refine ⟨⟨by decide, rfl⟩, ⟨by decide, ?_⟩, trivial⟩
      rw [hw0]
      rfl
    · ((conv=>whnf);repeat' (first|((first|(show (_=true→_)∧(_=false→_);first|refine gT ?_|refine gF ?_)|(show (_=false→_)∧(_=true→_);first|refine gU ?_|refine gV ?_));conv=>whnf)|((first|(first|refine gD ?_ ?_|refine gE ?_ ?_|refine gI ?_ ?_|refine gJ ?_ ?_|refine gK ?_ ?_|refine gL ?_ ?_|refine splitB ?_ ?_|refine splitB2 ?_ ?_)<;>intro _h|intro _h);all_goals first|contradiction|conv=>whnf)|(show _∧_;refine gA ?_;conv=>whnf)|fail))
      refine acall [0] (s_take hG (foldS s all k) (cutB all (64 * k) 64) (all.drop (64 * k)) _ hfl (haw.cut _ _) (cutB_len (by omega))) rfl ⟨⟨by decide, rfl⟩, trivial⟩ (by rw [← drop64]; rfl) (fun h => Bool.noConfusion h) ?_
      rintro st nx r ⟨rfl, rfl, rfl⟩
      ((conv=>whnf);repeat' (first|((first|(show (_=true→_)∧(_=false→_);first|refine gT ?_|refine gF ?_)|(show (_=false→_)∧(_=true→_);first|refine gU ?_|refine gV ?_));conv=>whnf)|((first|(first|refine gD ?_ ?_|refine gE ?_ ?_|refine gI ?_ ?_|refine gJ ?_ ?_|refine gK ?_ ?_|refine gL ?_ ?_|refine splitB ?_ ?_|refine splitB2 ?_ ?_)<;>intro _h|intro _h);all_goals first|contradiction|conv=>whnf)|(show _∧_;refine gA ?_;conv=>whnf)|fail))
      refine ⟨k + 1, [0, 1], by omega, by omega, rfl, ?_⟩
      (refine ⟨rfl, rfl, ?_, ?_⟩ <;> repeat' (first | exact True.intro | rfl | decide | (refine And.intro ?_ ?_)))
      show some (Ob.cell _ _) = some (Ob.cell _ _)
      rw [← drop64']
      rfl

theorem s_const : Imm Tryd.prog 119 [] (fun r => r = .d (wd KK)) := by
  (refine Imm.of_awp told0 [0] Tryd.func119 rfl (by decide) (Nat.le_of_ble_eq_true rfl) ?_; intro _w0 _S0 _E0 _B0; ((conv=>whnf);repeat' (first|((first|(show (_=true→_)∧(_=false→_);first|refine nTt ?_|refine nFf ?_)|(show (_=false→_)∧(_=true→_);first|refine nU ?_|refine nV ?_));conv=>whnf)|((first|(first|refine gD ?_ ?_|refine gE ?_ ?_|refine gI ?_ ?_|refine gJ ?_ ?_|refine gK ?_ ?_|refine gL ?_ ?_|refine splitB ?_ ?_|refine splitB2 ?_ ?_)<;>intro _h|intro _h);all_goals first|contradiction|conv=>whnf)|(show _∧_;refine gA ?_;conv=>whnf)|fail)))
  exact Ends.imm rfl rfl

def toldB : AW.Told := ⟨fun _ => false, fun _ _ => [], fun r =>
  if r == 7 || r == 10 then .take 0 (.take 1 (.take 2 (.take 4 (.take 5 (.take 6 (.take 9 (.take 10 (.take 11 (.one 3 (.one 7 (.take 8 (.one 12 (.take 13 (.take 14 .done))))))))))))))
  else if r == 8 then .take 0 (.take 1 (.take 2 (.take 3 (.take 4 (.take 5 (.take 6 (.take 7 (.take 8 (.take 9 (.take 10 (.take 11 (.take 12 (.take 13 (.take 14 (.take 15 (.take 16 .done))))))))))))))))
  else if r == 9 then .take 0 (.take 1 (.take 2 (.take 3 (.take 4 (.take 5 (.take 6 (.take 7 (.take 8 (.take 9 (.take 10 (.take 11 (.take 12 (.take 13 (.take 14 (.take 15 (.take 16 (.take 17 .done)))))))))))))))))
  else if r == 11 then .take 0 (.take 1 (.take 2 (.take 3 (.take 4 (.take 5 (.take 6 (.take 7 (.take 8 (.take 9 (.take 10 (.take 11 (.take 12 (.take 13 (.take 14 (.take 15 (.take 16 (.take 17 (.take 18 (.take 19 (.take 20 (.take 21 (.take 22 (.take 23 .done)))))))))))))))))))))))
  else if r == 12 then .take 0 (.take 1 (.take 2 (.take 3 (.take 4 (.take 5 (.take 6 (.take 7 (.take 8 (.take 9 (.take 10 (.take 11 (.take 12 (.take 13 (.take 14 (.take 15 (.take 16 (.take 17 (.take 18 (.take 19 (.take 20 (.take 21 (.take 22 (.take 23 (.take 24 (.take 25 (.take 26 (.take 27 (.one 28 (.take 29 .done)))))))))))))))))))))))))))))
  else if r == 17 then .take 0 (.take 1 (.take 2 (.take 3 (.take 4 (.take 5 (.take 6 (.take 7 (.take 8 (.take 9 (.one 10 (.one 11 (.take 12 .done))))))))))))
  else .done⟩

theorem map_range_succ (f : Nat → Int) (k : Nat) : (List.range (k + 1)).map f = (List.range k).map f ++ [f k] := by
  rw [List.range_succ, List.map_append]; rfl

theorem s_refBlock (h b : List Int) (hh : h.length = 8) (hb : wfd b) (hl : b.length = 64) : Imm Tryd.prog 102 [.d (wd h), .d (byt b)] (fun r => r = .d (wd (blkS h b))) := by
  obtain ⟨ws, hws⟩ : ∃ ws, ws = schW b 64 := ⟨_, rfl⟩
  have hwl : ws.length = 64 := by rw [hws]; exact schW_len b 64
  have hsw := s_words b hb hl
  rw [← hws] at hsw
  obtain ⟨kk, hkk⟩ : ∃ kk, kk = KK := ⟨_, rfl⟩
  have hkl : kk.length = 64 := by rw [hkk]; rfl
  have hsc := s_const
  rw [← hkk] at hsc
  (refine Imm.of_awp toldB [4] Tryd.func102 rfl (by decide) (Nat.le_of_ble_eq_true rfl) ?_; intro _w0 _S0 _E0 _B0; ((conv=>whnf);repeat' (first|((first|(show (_=true→_)∧(_=false→_);first|refine nTt ?_|refine nFf ?_)|(show (_=false→_)∧(_=true→_);first|refine nU ?_|refine nV ?_));conv=>whnf)|((first|(first|refine gD ?_ ?_|refine gE ?_ ?_|refine gI ?_ ?_|refine gJ ?_ ?_|refine gK ?_ ?_|refine gL ?_ ?_|refine splitB ?_ ?_|refine splitB2 ?_ ?_)<;>intro _h|intro _h);all_goals first|contradiction|conv=>whnf)|(show _∧_;refine gA ?_;conv=>whnf)|fail)))
  refine acallI hsw rfl fun r hr => ?_
  subst hr
  ((conv=>whnf);repeat' (first|((first|(show (_=true→_)∧(_=false→_);first|refine gT ?_|refine gF ?_)|(show (_=false→_)∧(_=true→_);first|refine gU ?_|refine gV ?_));conv=>whnf)|((first|(first|refine gD ?_ ?_|refine gE ?_ ?_|refine gI ?_ ?_|refine gJ ?_ ?_|refine gK ?_ ?_|refine gL ?_ ?_|refine splitB ?_ ?_|refine splitB2 ?_ ?_)<;>intro _h|intro _h);all_goals first|contradiction|conv=>whnf)|(show _∧_;refine gA ?_;conv=>whnf)|fail))
  refine acallI hsc rfl fun r hr => ?_
  subst hr
  ((conv=>whnf);repeat' (first|((first|(show (_=true→_)∧(_=false→_);first|refine gT ?_|refine gF ?_)|(show (_=false→_)∧(_=true→_);first|refine gU ?_|refine gV ?_));conv=>whnf)|((first|(first|refine gD ?_ ?_|refine gE ?_ ?_|refine gI ?_ ?_|refine gJ ?_ ?_|refine gK ?_ ?_|refine gL ?_ ?_|refine splitB ?_ ?_|refine splitB2 ?_ ?_)<;>intro _h|intro _h);all_goals first|contradiction|conv=>whnf)|(show _∧_;refine gA ?_;conv=>whnf)|fail))
  refine ⟨by show (0 + h.length) * 4 ≤ 140737488355328; omega, ?_⟩
  ((conv=>whnf);repeat' (first|((first|(show (_=true→_)∧(_=false→_);first|refine gT ?_|refine gF ?_)|(show (_=false→_)∧(_=true→_);first|refine gU ?_|refine gV ?_));conv=>whnf)|((first|(first|refine gD ?_ ?_|refine gE ?_ ?_|refine gI ?_ ?_|refine gJ ?_ ?_|refine gK ?_ ?_|refine gL ?_ ?_|refine splitB ?_ ?_|refine splitB2 ?_ ?_)<;>intro _h|intro _h);all_goals first|contradiction|conv=>whnf)|(show _∧_;refine gA ?_;conv=>whnf)|fail))
  refine aloop (T := toldB) (ι := Nat) (fun k => [(0, .d (wd h)), (5, .d (wd ws)), (6, .d (wd kk)), (7, .own 0), (8, i64 k)]) (fun k => [(0, .row .u32 79 (rnds h ws k))]) 156 1
    (fun k => 64 - k) (fun k => k ≤ 64)
    ⟨0, [0], rfl, by omega, by (refine ⟨rfl, rfl, ?_, ?_⟩ <;> repeat' (first | exact True.intro | rfl | decide | (refine And.intro ?_ ?_)))⟩ ?_
  intro k hk
  have hvl := rnds_len h ws hh k
  obtain ⟨v, hv⟩ : ∃ v, v = rnds h ws k := ⟨_, rfl⟩
  rw [← hv] at hvl ⊢
  rcases Nat.lt_or_ge k 64 with h64 | h64
  · ((conv=>whnf);repeat' (first|((first|(show (_=true→_)∧(_=false→_);first|refine gT ?_|refine gF ?_)|(show (_=false→_)∧(_=true→_);first|refine gU ?_|refine gV ?_));conv=>whnf)|((first|(first|refine gD ?_ ?_|refine gE ?_ ?_|refine gI ?_ ?_|refine gJ ?_ ?_|refine gK ?_ ?_|refine gL ?_ ?_|refine splitB ?_ ?_|refine splitB2 ?_ ?_)<;>intro _h|intro _h);all_goals first|contradiction|conv=>whnf)|(show _∧_;refine gA ?_;conv=>whnf)|fail))
    refine acallI (s_right (v.getD 4 0) 6 (by omega)) rfl fun r hr => ?_
    subst hr
    ((conv=>whnf);repeat' (first|((first|(show (_=true→_)∧(_=false→_);first|refine gT ?_|refine gF ?_)|(show (_=false→_)∧(_=true→_);first|refine gU ?_|refine gV ?_));conv=>whnf)|((first|(first|refine gD ?_ ?_|refine gE ?_ ?_|refine gI ?_ ?_|refine gJ ?_ ?_|refine gK ?_ ?_|refine gL ?_ ?_|refine splitB ?_ ?_|refine splitB2 ?_ ?_)<;>intro _h|intro _h);all_goals first|contradiction|conv=>whnf)|(show _∧_;refine gA ?_;conv=>whnf)|fail))
    refine acallI (s_right (v.getD 4 0) 11 (by omega)) rfl fun r hr => ?_
    subst hr
    ((conv=>whnf);repeat' (first|((first|(show (_=true→_)∧(_=false→_);first|refine gT ?_|refine gF ?_)|(show (_=false→_)∧(_=true→_);first|refine gU ?_|refine gV ?_));conv=>whnf)|((first|(first|refine gD ?_ ?_|refine gE ?_ ?_|refine gI ?_ ?_|refine gJ ?_ ?_|refine gK ?_ ?_|refine gL ?_ ?_|refine splitB ?_ ?_|refine splitB2 ?_ ?_)<;>intro _h|intro _h);all_goals first|contradiction|conv=>whnf)|(show _∧_;refine gA ?_;conv=>whnf)|fail))
    refine acallI (s_right (v.getD 4 0) 25 (by omega)) rfl fun r hr => ?_
    subst hr
    ((conv=>whnf);repeat' (first|((first|(show (_=true→_)∧(_=false→_);first|refine gT ?_|refine gF ?_)|(show (_=false→_)∧(_=true→_);first|refine gU ?_|refine gV ?_));conv=>whnf)|((first|(first|refine gD ?_ ?_|refine gE ?_ ?_|refine gI ?_ ?_|refine gJ ?_ ?_|refine gK ?_ ?_|refine gL ?_ ?_|refine splitB ?_ ?_|refine splitB2 ?_ ?_)<;>intro _h|intro _h);all_goals first|contradiction|conv=>whnf)|(show _∧_;refine gA ?_;conv=>whnf)|fail))
    refine acallI (s_right (v.getD 0 0) 2 (by omega)) rfl fun r hr => ?_
    subst hr
    ((conv=>whnf);repeat' (first|((first|(show (_=true→_)∧(_=false→_);first|refine gT ?_|refine gF ?_)|(show (_=false→_)∧(_=true→_);first|refine gU ?_|refine gV ?_));conv=>whnf)|((first|(first|refine gD ?_ ?_|refine gE ?_ ?_|refine gI ?_ ?_|refine gJ ?_ ?_|refine gK ?_ ?_|refine gL ?_ ?_|refine splitB ?_ ?_|refine splitB2 ?_ ?_)<;>intro _h|intro _h);all_goals first|contradiction|conv=>whnf)|(show _∧_;refine gA ?_;conv=>whnf)|fail))
    refine acallI (s_right (v.getD 0 0) 13 (by omega)) rfl fun r hr => ?_
    subst hr
    ((conv=>whnf);repeat' (first|((first|(show (_=true→_)∧(_=false→_);first|refine gT ?_|refine gF ?_)|(show (_=false→_)∧(_=true→_);first|refine gU ?_|refine gV ?_));conv=>whnf)|((first|(first|refine gD ?_ ?_|refine gE ?_ ?_|refine gI ?_ ?_|refine gJ ?_ ?_|refine gK ?_ ?_|refine gL ?_ ?_|refine splitB ?_ ?_|refine splitB2 ?_ ?_)<;>intro _h|intro _h);all_goals first|contradiction|conv=>whnf)|(show _∧_;refine gA ?_;conv=>whnf)|fail))
    refine acallI (s_right (v.getD 0 0) 22 (by omega)) rfl fun r hr => ?_
    subst hr
    ((conv=>whnf);repeat' (first|((first|(show (_=true→_)∧(_=false→_);first|refine gT ?_|refine gF ?_)|(show (_=false→_)∧(_=true→_);first|refine gU ?_|refine gV ?_));conv=>whnf)|((first|(first|refine gD ?_ ?_|refine gE ?_ ?_|refine gI ?_ ?_|refine gJ ?_ ?_|refine gK ?_ ?_|refine gL ?_ ?_|refine splitB ?_ ?_|refine splitB2 ?_ ?_)<;>intro _h|intro _h);all_goals first|contradiction|conv=>whnf)|(show _∧_;refine gA ?_;conv=>whnf)|fail))
    refine ⟨k + 1, [1], by omega, by omega, rfl, ?_⟩
    (refine ⟨rfl, rfl, ?_, ?_⟩ <;> repeat' (first | exact True.intro | rfl | decide | (refine And.intro ?_ ?_)))
    · exact di (by rw [wrap_i64 (by omega) (by omega)]; rfl)
    · have e : rnds h ws (k + 1) = rnd v (kk.getD k 0) (ws.getD k 0) := by rw [hv, hkk]; rfl
      show some (Ob.row .u32 _ _) = some (Ob.row .u32 _ (rnds h ws (k + 1)))
      rw [e]
      unfold rnd tmp2
      rw [← add2_assoc]
      rfl
  · have hk64 : k = 64 := by omega
    ((conv=>whnf);repeat' (first|((first|(show (_=true→_)∧(_=false→_);first|refine gT ?_|refine gF ?_)|(show (_=false→_)∧(_=true→_);first|refine gU ?_|refine gV ?_));conv=>whnf)|((first|(first|refine gD ?_ ?_|refine gE ?_ ?_|refine gI ?_ ?_|refine gJ ?_ ?_|refine gK ?_ ?_|refine gL ?_ ?_|refine splitB ?_ ?_|refine splitB2 ?_ ?_)<;>intro _h|intro _h);all_goals first|contradiction|conv=>whnf)|(show _∧_;refine gA ?_;conv=>whnf)|fail))
    refine AWp.adopt 14 (.row .u32 79 []) rfl rfl ?_
    refine aloop (T := toldB) (ι := Nat) (fun i => [(0, .d (wd h)), (7, .own 0), (14, .own 1), (15, i64 i)]) (fun i => [(0, .row .u32 79 v), (1, .row .u32 79 ((List.range i).map fun i => add2 (h.getD i 0) (v.getD i 0)))]) 156 2
      (fun i => 8 - i) (fun i => i ≤ 8)
      ⟨0, [0, 1], rfl, by omega, by (refine ⟨rfl, rfl, ?_, ?_⟩ <;> repeat' (first | exact True.intro | rfl | decide | (refine And.intro ?_ ?_)))⟩ ?_
    intro i hi
    rcases Nat.lt_or_ge i 8 with h8 | h8
    · ((conv=>whnf);repeat' (first|((first|(show (_=true→_)∧(_=false→_);first|refine gT ?_|refine gF ?_)|(show (_=false→_)∧(_=true→_);first|refine gU ?_|refine gV ?_));conv=>whnf)|((first|(first|refine gD ?_ ?_|refine gE ?_ ?_|refine gI ?_ ?_|refine gJ ?_ ?_|refine gK ?_ ?_|refine gL ?_ ?_|refine splitB ?_ ?_|refine splitB2 ?_ ?_)<;>intro _h|intro _h);all_goals first|contradiction|conv=>whnf)|(show _∧_;refine gA ?_;conv=>whnf)|fail))
      refine ⟨by rw [List.length_map, List.length_range]; show (i + 1) * 4 ≤ 140737488355328; omega, ?_⟩
      ((conv=>whnf);repeat' (first|((first|(show (_=true→_)∧(_=false→_);first|refine gT ?_|refine gF ?_)|(show (_=false→_)∧(_=true→_);first|refine gU ?_|refine gV ?_));conv=>whnf)|((first|(first|refine gD ?_ ?_|refine gE ?_ ?_|refine gI ?_ ?_|refine gJ ?_ ?_|refine gK ?_ ?_|refine gL ?_ ?_|refine splitB ?_ ?_|refine splitB2 ?_ ?_)<;>intro _h|intro _h);all_goals first|contradiction|conv=>whnf)|(show _∧_;refine gA ?_;conv=>whnf)|fail))
      refine ⟨i + 1, [0, 1], by omega, by omega, rfl, ?_⟩
      (refine ⟨rfl, rfl, ?_, ?_⟩ <;> repeat' (first | exact True.intro | rfl | decide | (refine And.intro ?_ ?_)))
      · exact di (by rw [wrap_i64 (by omega) (by omega)]; rfl)
      · show some (Ob.row .u32 _ _) = some (Ob.row .u32 _ _)
        rw [map_range_succ]
        rfl
    · have hi8 : i = 8 := by omega
      subst hi8
      ((conv=>whnf);repeat' (first|((first|(show (_=true→_)∧(_=false→_);first|refine gT ?_|refine gF ?_)|(show (_=false→_)∧(_=true→_);first|refine gU ?_|refine gV ?_));conv=>whnf)|((first|(first|refine gD ?_ ?_|refine gE ?_ ?_|refine gI ?_ ?_|refine gJ ?_ ?_|refine gK ?_ ?_|refine gL ?_ ?_|refine splitB ?_ ?_|refine splitB2 ?_ ?_)<;>intro _h|intro _h);all_goals first|contradiction|conv=>whnf)|(show _∧_;refine gA ?_;conv=>whnf)|fail))
      refine Ends.imm rfl ?_
      have e0 : blkS h b = (List.range 8).map fun i => add2 (h.getD i 0) (v.getD i 0) := by unfold blkS; rw [hv, hk64, hws]
      rw [e0]

theorem s_refPad (b : List Int) (hl : b.length ≤ 100000000) : Imm Tryd.prog 101 [.d (byt b)] (fun r => r = .d (byt (padS b))) := by
  obtain ⟨Z, hZ⟩ : ∃ Z, Z = (119 - b.length % 64) % 64 := ⟨_, rfl⟩
  have e8 : IntKind.u64.wrap (IntKind.u64.wrap (b.length : Int) * 8) = ((8 * b.length : Nat) : Int) := by
    rw [wrap_u64 (n := (b.length : Int)) (by omega) (by omega), wrap_u64 (by omega) (by omega)]; omega
  (refine Imm.of_awp told0 [2] Tryd.func101 rfl (by decide) (Nat.le_of_ble_eq_true rfl) ?_; intro _w0 _S0 _E0 _B0; ((conv=>whnf);repeat' (first|((first|(show (_=true→_)∧(_=false→_);first|refine nTt ?_|refine nFf ?_)|(show (_=false→_)∧(_=true→_);first|refine nU ?_|refine nV ?_));conv=>whnf)|((first|(first|refine gD ?_ ?_|refine gE ?_ ?_|refine gI ?_ ?_|refine gJ ?_ ?_|refine gK ?_ ?_|refine gL ?_ ?_|refine splitB ?_ ?_|refine splitB2 ?_ ?_)<;>intro _h|intro _h);all_goals first|contradiction|conv=>whnf)|(show _∧_;refine gA ?_;conv=>whnf)|fail)))
  refine ⟨by show (0 + b.length) * 1 ≤ 140737488355328; omega, ?_⟩
  ((conv=>whnf);repeat' (first|((first|(show (_=true→_)∧(_=false→_);first|refine gT ?_|refine gF ?_)|(show (_=false→_)∧(_=true→_);first|refine gU ?_|refine gV ?_));conv=>whnf)|((first|(first|refine gD ?_ ?_|refine gE ?_ ?_|refine gI ?_ ?_|refine gJ ?_ ?_|refine gK ?_ ?_|refine gL ?_ ?_|refine splitB ?_ ?_|refine splitB2 ?_ ?_)<;>intro _h|intro _h);all_goals first|contradiction|conv=>whnf)|(show _∧_;refine gA ?_;conv=>whnf)|fail))
  refine ⟨by show (b.length + 1) * 1 ≤ 140737488355328; omega, ?_⟩
  ((conv=>whnf);repeat' (first|((first|(show (_=true→_)∧(_=false→_);first|refine gT ?_|refine gF ?_)|(show (_=false→_)∧(_=true→_);first|refine gU ?_|refine gV ?_));conv=>whnf)|((first|(first|refine gD ?_ ?_|refine gE ?_ ?_|refine gI ?_ ?_|refine gJ ?_ ?_|refine gK ?_ ?_|refine gL ?_ ?_|refine splitB ?_ ?_|refine splitB2 ?_ ?_)<;>intro _h|intro _h);all_goals first|contradiction|conv=>whnf)|(show _∧_;refine gA ?_;conv=>whnf)|fail))
  refine aloop (T := told0) (ι := Nat) (fun j => [(0, .d (byt b)), (3, .own 0)]) (fun j => [(0, .row .u8 5 (b ++ [128] ++ List.replicate j 0))]) 36 1
    (fun j => Z - j) (fun j => j ≤ Z)
    ⟨0, [0], rfl, by omega, by (refine ⟨rfl, rfl, ?_, ?_⟩ <;> repeat' (first | exact True.intro | rfl | decide | (refine And.intro ?_ ?_))); simp; rfl⟩ ?_
  intro j hj
  have hrl : (b ++ [128] ++ List.replicate j 0).length = b.length + 1 + j := by simp; omega
  have hmod : ((b ++ [128] ++ List.replicate j 0).length : Int).tmod 64 = (((b.length + 1 + j) % 64 : Nat) : Int) := by
    rw [hrl, Int.tmod_eq_emod_of_nonneg (by omega)]; omega
  rcases Nat.lt_or_ge j Z with hjz | hjz
  · have hne : ¬ ((b ++ [128] ++ List.replicate j 0).length : Int).tmod 64 = 56 := by rw [hmod]; omega
    ((conv=>whnf);repeat' (first|((first|(show (_=true→_)∧(_=false→_);first|refine gT ?_|refine gF ?_)|(show (_=false→_)∧(_=true→_);first|refine gU ?_|refine gV ?_));conv=>whnf)|((first|(first|refine gD ?_ ?_|refine gE ?_ ?_|refine gI ?_ ?_|refine gJ ?_ ?_|refine gK ?_ ?_|refine gL ?_ ?_|refine splitB ?_ ?_|refine splitB2 ?_ ?_)<;>intro _h|intro _h);all_goals first|contradiction|conv=>whnf)|(show _∧_;refine gA ?_;conv=>whnf)|fail))
    refine ⟨by rw [hrl]; show (b.length + 1 + j + 1) * 1 ≤ 140737488355328; omega, ?_⟩
    ((conv=>whnf);repeat' (first|((first|(show (_=true→_)∧(_=false→_);first|refine gT ?_|refine gF ?_)|(show (_=false→_)∧(_=true→_);first|refine gU ?_|refine gV ?_));conv=>whnf)|((first|(first|refine gD ?_ ?_|refine gE ?_ ?_|refine gI ?_ ?_|refine gJ ?_ ?_|refine gK ?_ ?_|refine gL ?_ ?_|refine splitB ?_ ?_|refine splitB2 ?_ ?_)<;>intro _h|intro _h);all_goals first|contradiction|conv=>whnf)|(show _∧_;refine gA ?_;conv=>whnf)|fail))
    refine ⟨j + 1, [0], by omega, by omega, rfl, ?_⟩
    (refine ⟨rfl, rfl, ?_, ?_⟩ <;> repeat' (first | exact True.intro | rfl | decide | (refine And.intro ?_ ?_)))
    show some (Ob.row .u8 _ _) = some (Ob.row .u8 _ _)
    rw [List.replicate_succ', ← List.append_assoc]
  · have hjz' : j = Z := by omega
    have heq : ((b ++ [128] ++ List.replicate j 0).length : Int).tmod 64 = 56 := by rw [hmod]; omega
    ((conv=>whnf);repeat' (first|((first|(show (_=true→_)∧(_=false→_);first|refine gT ?_|refine gF ?_)|(show (_=false→_)∧(_=true→_);first|refine gU ?_|refine gV ?_));conv=>whnf)|((first|(first|refine gD ?_ ?_|refine gE ?_ ?_|refine gI ?_ ?_|refine gJ ?_ ?_|refine gK ?_ ?_|refine gL ?_ ?_|refine splitB ?_ ?_|refine splitB2 ?_ ?_)<;>intro _h|intro _h);all_goals first|contradiction|conv=>whnf)|(show _∧_;refine gA ?_;conv=>whnf)|fail))
    refine aloop (T := told0) (ι := Nat) (fun i => [(3, .own 0), (4, .d (.int .u64 ((8 * b.length : Nat) : Int))), (5, i64 (7 - (i : Int)))]) (fun i => [(0, .row .u8 5 (b ++ [128] ++ List.replicate j 0 ++ (be 8 (8 * b.length)).take i))]) 36 1
      (fun i => 8 - i) (fun i => i ≤ 8)
      ⟨0, [0], rfl, by omega, by
        (refine ⟨rfl, rfl, ?_, ?_⟩ <;> repeat' (first | exact True.intro | rfl | decide | (refine And.intro ?_ ?_)))
        · show AVal.d (.int .u64 _) = AVal.d (.int .u64 _)
          rw [e8]
        · simp; rfl⟩ ?_
    intro i hi
    rcases Nat.lt_or_ge i 8 with h8 | h8
    · have e1 : IntKind.i64.wrap (8 * (7 - (i : Int))) = ((8 * (7 - i) : Nat) : Int) := by rw [wrap_i64 (by omega) (by omega)]; omega
      have e0 : (0 : Int) ≤ IntKind.i64.wrap (8 * (7 - (i : Int))) := by omega
      have hlen : (b ++ [128] ++ List.replicate j 0 ++ (be 8 (8 * b.length)).take i).length = b.length + 1 + j + i := by
        rw [List.length_append, hrl, List.length_take, be_length]; omega
      have e2 : IntKind.u8.wrap ((((8 * b.length : Nat) : Int)) / 2 ^ min (IntKind.i64.wrap (8 * (7 - (i : Int)))).toNat IntKind.u64.bits) = ((8 * b.length / 256 ^ (8 - 1 - i) % 256 : Nat) : Int) := by
        rw [e1, Int.toNat_natCast, Nat.min_eq_left (by simp [IntKind.bits]; omega)]
        have : (2 : Int) ^ (8 * (7 - i)) = ((256 ^ (8 - 1 - i) : Nat) : Int) := by
          rw [Int.pow_mul]; push_cast; rfl
        rw [this, ← Int.natCast_ediv, u8w]
      ((conv=>whnf);repeat' (first|((first|(show (_=true→_)∧(_=false→_);first|refine gT ?_|refine gF ?_)|(show (_=false→_)∧(_=true→_);first|refine gU ?_|refine gV ?_));conv=>whnf)|((first|(first|refine gD ?_ ?_|refine gE ?_ ?_|refine gI ?_ ?_|refine gJ ?_ ?_|refine gK ?_ ?_|refine gL ?_ ?_|refine splitB ?_ ?_|refine splitB2 ?_ ?_)<;>intro _h|intro _h);all_goals first|contradiction|conv=>whnf)|(show _∧_;refine gA ?_;conv=>whnf)|fail))
      refine ⟨by rw [hlen]; show (b.length + 1 + j + i + 1) * 1 ≤ 140737488355328; omega, ?_⟩
      ((conv=>whnf);repeat' (first|((first|(show (_=true→_)∧(_=false→_);first|refine gT ?_|refine gF ?_)|(show (_=false→_)∧(_=true→_);first|refine gU ?_|refine gV ?_));conv=>whnf)|((first|(first|refine gD ?_ ?_|refine gE ?_ ?_|refine gI ?_ ?_|refine gJ ?_ ?_|refine gK ?_ ?_|refine gL ?_ ?_|refine splitB ?_ ?_|refine splitB2 ?_ ?_)<;>intro _h|intro _h);all_goals first|contradiction|conv=>whnf)|(show _∧_;refine gA ?_;conv=>whnf)|fail))
      refine ⟨i + 1, [0], by omega, by omega, rfl, ?_⟩
      (refine ⟨rfl, rfl, ?_, ?_⟩ <;> repeat' (first | exact True.intro | rfl | decide | (refine And.intro ?_ ?_)))
      · exact di (by rw [wrap_i64 (by omega) (by omega)]; omega)
      · show some (Ob.row .u8 _ _) = some (Ob.row .u8 _ _)
        rw [e2, be_take (by omega), ← List.append_assoc]
    · have hi8 : i = 8 := by omega
      ((conv=>whnf);repeat' (first|((first|(show (_=true→_)∧(_=false→_);first|refine gT ?_|refine gF ?_)|(show (_=false→_)∧(_=true→_);first|refine gU ?_|refine gV ?_));conv=>whnf)|((first|(first|refine gD ?_ ?_|refine gE ?_ ?_|refine gI ?_ ?_|refine gJ ?_ ?_|refine gK ?_ ?_|refine gL ?_ ?_|refine splitB ?_ ?_|refine splitB2 ?_ ?_)<;>intro _h|intro _h);all_goals first|contradiction|conv=>whnf)|(show _∧_;refine gA ?_;conv=>whnf)|fail))
      refine Ends.imm rfl ?_
      rw [List.take_of_length_le (by rw [be_length]; omega), hjz', hZ]
      unfold padS
      rw [Nat.mod_eq_of_lt (a := 8 * b.length) (b := 18446744073709551616) (by omega)]

theorem padS_wfd {b : List Int} (hb : wfd b) : wfd (padS b) := by
  unfold padS
  exact ((hb.append (fun x hx => by simp at hx; omega)).append (fun x hx => by rw [List.eq_of_mem_replicate hx]; omega)).append (be_wfd _ _)
theorem padS_le (b : List Int) : (padS b).length ≤ b.length + 73 := by
  simp [padS, be_length]; omega

theorem blkS_wfl (s b : List Int) : wfl (blkS s b) := fun x hx => by
  unfold blkS at hx
  obtain ⟨i, _, rfl⟩ := List.mem_map.1 hx
  exact wrap32_range _
theorem H0_wfl : wfl H0 := by unfold wfl; decide
theorem foldS_wfl (p : List Int) : ∀ k, wfl (foldS H0 p k)
  | 0 => H0_wfl
  | k + 1 => blkS_wfl _ _

theorem byte4 (x : Int) (j : Nat) (m : Int) (hx : 0 ≤ x) (hj : j < 4) (hm : m = 8 * (3 - j : Nat)) : IntKind.u8.wrap (x / 2 ^ min m.toNat (IntKind.bits .u32)) = ((x.toNat / 256 ^ (4 - 1 - j) % 256 : Nat) : Int) := by
  obtain ⟨n, rfl⟩ : ∃ n : Nat, x = n := ⟨x.toNat, by omega⟩
  have e : m.toNat = 8 * (3 - j) := by omega
  rw [e, Nat.min_eq_left (by simp [IntKind.bits]; omega)]
  have : (2 : Int) ^ (8 * (3 - j)) = ((256 ^ (4 - 1 - j) : Nat) : Int) := by
    rw [Int.pow_mul]; push_cast; rfl
  rw [this, ← Int.natCast_ediv, u8w, Int.toNat_natCast]

def toldRS : AW.Told := ⟨fun _ => false, fun r i => if r == 2 && i == 0 then [3] else [], fun _ => .done⟩

theorem flat_take4 (xs : List Int) (k : Nat) (h : k < xs.length) : (xs.take (k + 1)).flatMap (fun x => be 4 x.toNat) = (xs.take k).flatMap (fun x => be 4 x.toNat) ++ be 4 (xs.getD k 0).toNat := by
  rw [take_snoc h, List.flatMap_append]; simp
theorem s_refSum (b : List Int) (hb : wfd b) (hl : b.length ≤ 100000000) : Imm Tryd.prog 72 [.d (byt b)] (fun r => r = .d (byt (sumS b))) := by
  have hpw := padS_wfd hb
  have hple := padS_le b
  have hpm := padS_len b
  have hsp := s_refPad b hl
  have hsum : sumS b = (foldS H0 (padS b) ((padS b).length / 64)).flatMap fun x => be 4 x.toNat := rfl
  obtain ⟨p, hp⟩ : ∃ p, p = padS b := ⟨_, rfl⟩
  rw [← hp] at hpw hple hpm hsp hsum
  (refine Imm.of_awp toldRS [2] Tryd.func72 rfl (by decide) (Nat.le_of_ble_eq_true rfl) ?_; intro _w0 _S0 _E0 _B0; ((conv=>whnf);repeat' (first|((first|(show (_=true→_)∧(_=false→_);first|refine nTt ?_|refine nFf ?_)|(show (_=false→_)∧(_=true→_);first|refine nU ?_|refine nV ?_));conv=>whnf)|((first|(first|refine gD ?_ ?_|refine gE ?_ ?_|refine gI ?_ ?_|refine gJ ?_ ?_|refine gK ?_ ?_|refine gL ?_ ?_|refine splitB ?_ ?_|refine splitB2 ?_ ?_)<;>intro _h|intro _h);all_goals first|contradiction|conv=>whnf)|(show _∧_;refine gA ?_;conv=>whnf)|fail)))
  refine acallI hsp rfl fun r hr => ?_
  subst hr
  ((conv=>whnf);repeat' (first|((first|(show (_=true→_)∧(_=false→_);first|refine gT ?_|refine gF ?_)|(show (_=false→_)∧(_=true→_);first|refine gU ?_|refine gV ?_));conv=>whnf)|((first|(first|refine gD ?_ ?_|refine gE ?_ ?_|refine gI ?_ ?_|refine gJ ?_ ?_|refine gK ?_ ?_|refine gL ?_ ?_|refine splitB ?_ ?_|refine splitB2 ?_ ?_)<;>intro _h|intro _h);all_goals first|contradiction|conv=>whnf)|(show _∧_;refine gA ?_;conv=>whnf)|fail))
  refine aloop (T := toldRS) (ι := Nat) (fun k => [(3, .d (wd (foldS H0 p k))), (4, .d (byt p)), (5, i64 (64 * k : Nat))]) (fun _ => []) 45 0
    (fun k => p.length / 64 - k) (fun k => 64 * k ≤ p.length)
    ⟨0, [], rfl, by omega, by (refine ⟨rfl, rfl, ?_, ?_⟩ <;> repeat' (first | exact True.intro | rfl | decide | (refine And.intro ?_ ?_)))⟩ ?_
  intro k hk
  have hfl := foldS_len H0 p rfl k
  have hfw := foldS_wfl p k
  rcases Nat.lt_or_ge (64 * k) p.length with hlt | hge
  · have e1 : IntKind.i64.wrap (((64 * k : Nat) : Int) + 64) = ((64 * k + 64 : Nat) : Int) := by rw [wrap_i64 (by omega) (by omega)]; omega
    ((conv=>whnf);repeat' (first|((first|(show (_=true→_)∧(_=false→_);first|refine gT ?_|refine gF ?_)|(show (_=false→_)∧(_=true→_);first|refine gU ?_|refine gV ?_));conv=>whnf)|((first|(first|refine gD ?_ ?_|refine gE ?_ ?_|refine gI ?_ ?_|refine gJ ?_ ?_|refine gK ?_ ?_|refine gL ?_ ?_|refine splitB ?_ ?_|refine splitB2 ?_ ?_)<;>intro _h|intro _h);all_goals first|contradiction|conv=>whnf)|(show _∧_;refine gA ?_;conv=>whnf)|fail))
    refine acallI (s_refBlock (foldS H0 p k) (cutB p (64 * k) 64) hfl (hpw.cut _ _) (cutB_len (by omega))) (by rw [e1]; rfl) fun r hr => ?_
    subst hr
    ((conv=>whnf);repeat' (first|((first|(show (_=true→_)∧(_=false→_);first|refine gT ?_|refine gF ?_)|(show (_=false→_)∧(_=true→_);first|refine gU ?_|refine gV ?_));conv=>whnf)|((first|(first|refine gD ?_ ?_|refine gE ?_ ?_|refine gI ?_ ?_|refine gJ ?_ ?_|refine gK ?_ ?_|refine gL ?_ ?_|refine splitB ?_ ?_|refine splitB2 ?_ ?_)<;>intro _h|intro _h);all_goals first|contradiction|conv=>whnf)|(show _∧_;refine gA ?_;conv=>whnf)|fail))
    refine ⟨k + 1, [], by omega, by omega, rfl, ?_⟩
    (refine ⟨rfl, rfl, ?_, ?_⟩ <;> repeat' (first | exact True.intro | rfl | decide | (refine And.intro ?_ ?_)))
    exact di (by rw [e1]; omega)
  · have hkk : p.length / 64 = k := by omega
    rw [hkk] at hsum
    obtain ⟨v, hv⟩ : ∃ v, v = foldS H0 p k := ⟨_, rfl⟩
    rw [← hv] at hfl hfw hsum ⊢
    ((conv=>whnf);repeat' (first|((first|(show (_=true→_)∧(_=false→_);first|refine gT ?_|refine gF ?_)|(show (_=false→_)∧(_=true→_);first|refine gU ?_|refine gV ?_));conv=>whnf)|((first|(first|refine gD ?_ ?_|refine gE ?_ ?_|refine gI ?_ ?_|refine gJ ?_ ?_|refine gK ?_ ?_|refine gL ?_ ?_|refine splitB ?_ ?_|refine splitB2 ?_ ?_)<;>intro _h|intro _h);all_goals first|contradiction|conv=>whnf)|(show _∧_;refine gA ?_;conv=>whnf)|fail))
    refine AWp.adopt 6 (.row .u8 5 []) rfl rfl ?_
    refine aloop (T := toldRS) (ι := Nat) (fun i => [(3, .d (wd v)), (6, .own 0), (7, i64 i)]) (fun i => [(0, .row .u8 5 ((v.take i).flatMap fun x => be 4 x.toNat))]) 45 1
      (fun i => 8 - i) (fun i => i ≤ 8)
      ⟨0, [0], rfl, by omega, by (refine ⟨rfl, rfl, ?_, ?_⟩ <;> repeat' (first | exact True.intro | rfl | decide | (refine And.intro ?_ ?_)))⟩ ?_
    intro i hi
    rcases Nat.lt_or_ge i 8 with h8 | h8
    · have hf4 := flat_take4 v i (by omega)
      have hfll := flat_len (v.take i)
      rw [List.length_take, Nat.min_eq_left (by omega)] at hfll
      ((conv=>whnf);repeat' (first|((first|(show (_=true→_)∧(_=false→_);first|refine gT ?_|refine gF ?_)|(show (_=false→_)∧(_=true→_);first|refine gU ?_|refine gV ?_));conv=>whnf)|((first|(first|refine gD ?_ ?_|refine gE ?_ ?_|refine gI ?_ ?_|refine gJ ?_ ?_|refine gK ?_ ?_|refine gL ?_ ?_|refine splitB ?_ ?_|refine splitB2 ?_ ?_)<;>intro _h|intro _h);all_goals first|contradiction|conv=>whnf)|(show _∧_;refine gA ?_;conv=>whnf)|fail))
      refine aloop (T := toldRS) (ι := Nat) (fun j => [(3, .d (wd v)), (6, .own 0), (7, i64 i), (8, i64 (3 - (j : Int)))]) (fun j => [(0, .row .u8 5 ((v.take i).flatMap (fun x => be 4 x.toNat) ++ (be 4 (v.getD i 0).toNat).take j))]) 45 1
        (fun j => 4 - j) (fun j => j ≤ 4)
        ⟨0, [0], rfl, by omega, by (refine ⟨rfl, rfl, ?_, ?_⟩ <;> repeat' (first | exact True.intro | rfl | decide | (refine And.intro ?_ ?_))); simp; rfl⟩ ?_
      intro j hj
      have hx := hfw.get i
      have hlen : ((v.take i).flatMap (fun x => be 4 x.toNat) ++ (be 4 (v.getD i 0).toNat).take j).length = 4 * i + j := by
        rw [List.length_append, hfll, List.length_take, be_length]; omega
      rcases Nat.lt_or_ge j 4 with h4 | h4
      · have e1 : IntKind.i64.wrap (8 * (3 - (j : Int))) = 8 * ((3 - j : Nat) : Int) := by rw [wrap_i64 (by omega) (by omega)]; omega
        have e0 : (0 : Int) ≤ IntKind.i64.wrap (8 * (3 - (j : Int))) := by omega
        have e2 := byte4 (v.getD i 0) j _ hx.1 h4 e1
        ((conv=>whnf);repeat' (first|((first|(show (_=true→_)∧(_=false→_);first|refine gT ?_|refine gF ?_)|(show (_=false→_)∧(_=true→_);first|refine gU ?_|refine gV ?_));conv=>whnf)|((first|(first|refine gD ?_ ?_|refine gE ?_ ?_|refine gI ?_ ?_|refine gJ ?_ ?_|refine gK ?_ ?_|refine gL ?_ ?_|refine splitB ?_ ?_|refine splitB2 ?_ ?_)<;>intro _h|intro _h);all_goals first|contradiction|conv=>whnf)|(show _∧_;refine gA ?_;conv=>whnf)|fail))
        refine ⟨by rw [hlen]; show (4 * i + j + 1) * 1 ≤ 140737488355328; omega, ?_⟩
        ((conv=>whnf);repeat' (first|((first|(show (_=true→_)∧(_=false→_);first|refine gT ?_|refine gF ?_)|(show (_=false→_)∧(_=true→_);first|refine gU ?_|refine gV ?_));conv=>whnf)|((first|(first|refine gD ?_ ?_|refine gE ?_ ?_|refine gI ?_ ?_|refine gJ ?_ ?_|refine gK ?_ ?_|refine gL ?_ ?_|refine splitB ?_ ?_|refine splitB2 ?_ ?_)<;>intro _h|intro _h);all_goals first|contradiction|conv=>whnf)|(show _∧_;refine gA ?_;conv=>whnf)|fail))
        refine ⟨j + 1, [0], by omega, by omega, rfl, ?_⟩
        (refine ⟨rfl, rfl, ?_, ?_⟩ <;> repeat' (first | exact True.intro | rfl | decide | (refine And.intro ?_ ?_)))
        · exact di (by rw [wrap_i64 (by omega) (by omega)]; omega)
        · show some (Ob.row .u8 _ _) = some (Ob.row .u8 _ _)
          rw [Int.toNat_natCast, e2, be_take (by omega), ← List.append_assoc]
      · have hj4 : j = 4 := by omega
        ((conv=>whnf);repeat' (first|((first|(show (_=true→_)∧(_=false→_);first|refine gT ?_|refine gF ?_)|(show (_=false→_)∧(_=true→_);first|refine gU ?_|refine gV ?_));conv=>whnf)|((first|(first|refine gD ?_ ?_|refine gE ?_ ?_|refine gI ?_ ?_|refine gJ ?_ ?_|refine gK ?_ ?_|refine gL ?_ ?_|refine splitB ?_ ?_|refine splitB2 ?_ ?_)<;>intro _h|intro _h);all_goals first|contradiction|conv=>whnf)|(show _∧_;refine gA ?_;conv=>whnf)|fail))
        refine ⟨i + 1, [0], by omega, by omega, rfl, ?_⟩
        (refine ⟨rfl, rfl, ?_, ?_⟩ <;> repeat' (first | exact True.intro | rfl | decide | (refine And.intro ?_ ?_)))
        · exact di (by rw [wrap_i64 (by omega) (by omega)]; rfl)
        · show some (Ob.row .u8 _ _) = some (Ob.row .u8 _ _)
          rw [hf4, List.take_of_length_le (l := be 4 _) (by rw [be_length]; omega)]
    · have hi8 : i = 8 := by omega
      ((conv=>whnf);repeat' (first|((first|(show (_=true→_)∧(_=false→_);first|refine gT ?_|refine gF ?_)|(show (_=false→_)∧(_=true→_);first|refine gU ?_|refine gV ?_));conv=>whnf)|((first|(first|refine gD ?_ ?_|refine gE ?_ ?_|refine gI ?_ ?_|refine gJ ?_ ?_|refine gK ?_ ?_|refine gL ?_ ?_|refine splitB ?_ ?_|refine splitB2 ?_ ?_)<;>intro _h|intro _h);all_goals first|contradiction|conv=>whnf)|(show _∧_;refine gA ?_;conv=>whnf)|fail))
      refine Ends.imm rfl ?_
      rw [hsum, hi8, List.take_of_length_le (by omega)]

def toldSum : AW.Told := ⟨fun f => f == 116 || f == 1004002, fun r i => if r == 9 && i == 2 then [54] else [], fun r =>
  if r == 1 then .take 0 (.take 1 (.take 2 (.take 4 (.take 5 (.take 6 (.take 7 (.four 3 (.three 8 (.two 9 (.two 10 (.two 11 (.one 12 (.one 13 .done)) 12 (.one 11 (.one 13 .done))) 12 (.one 10 (.one 11 (.one 13 .done)))) 12 (.one 9 (.one 10 (.one 11 (.one 13 .done))))) 9 (.two 8 (.two 10 (.two 11 (.one 12 (.one 13 .done)) 12 (.one 11 (.one 13 .done))) 12 (.one 10 (.one 11 (.one 13 .done)))) 12 (.one 8 (.one 10 (.one 11 (.one 13 .done))))) 12 (.two 8 (.one 9 (.one 10 (.one 11 (.one 13 .done)))) 9 (.one 8 (.one 10 (.one 11 (.one 13 .done)))))) 8 (.three 3 (.two 9 (.two 10 (.two 11 (.one 12 (.one 13 .done)) 12 (.one 11 (.one 13 .done))) 12 (.one 10 (.one 11 (.one 13 .done)))) 12 (.one 9 (.one 10 (.one 11 (.one 13 .done))))) 9 (.three 3 (.two 10 (.two 11 (.one 12 (.one 13 .done)) 12 (.one 11 (.one 13 .done))) 12 (.one 10 (.one 11 (.one 13 .done)))) 10 (.take 3 (.two 11 (.one 12 (.one 13 .done)) 12 (.one 11 (.one 13 .done)))) 12 (.two 3 (.one 10 (.one 11 (.one 13 .done))) 10 (.take 3 (.one 11 (.one 13 .done))))) 12 (.two 3 (.one 9 (.one 10 (.one 11 (.one 13 .done)))) 9 (.two 3 (.one 10 (.one 11 (.one 13 .done))) 10 (.take 3 (.one 11 (.one 13 .done)))))) 9 (.three 3 (.two 8 (.two 10 (.two 11 (.one 12 (.one 13 .done)) 12 (.one 11 (.one 13 .done))) 12 (.one 10 (.one 11 (.one 13 .done)))) 12 (.one 8 (.one 10 (.one 11 (.one 13 .done))))) 8 (.three 3 (.two 10 (.two 11 (.one 12 (.one 13 .done)) 12 (.one 11 (.one 13 .done))) 12 (.one 10 (.one 11 (.one 13 .done)))) 10 (.take 3 (.two 11 (.one 12 (.one 13 .done)) 12 (.one 11 (.one 13 .done)))) 12 (.two 3 (.one 10 (.one 11 (.one 13 .done))) 10 (.take 3 (.one 11 (.one 13 .done))))) 12 (.two 3 (.one 8 (.one 10 (.one 11 (.one 13 .done)))) 8 (.two 3 (.one 10 (.one 11 (.one 13 .done))) 10 (.take 3 (.one 11 (.one 13 .done)))))) 12 (.three 3 (.two 8 (.one 9 (.one 10 (.one 11 (.one 13 .done)))) 9 (.one 8 (.one 10 (.one 11 (.one 13 .done))))) 8 (.two 3 (.one 9 (.one 10 (.one 11 (.one 13 .done)))) 9 (.two 3 (.one 10 (.one 11 (.one 13 .done))) 10 (.take 3 (.one 11 (.one 13 .done))))) 9 (.two 3 (.one 8 (.one 10 (.one 11 (.one 13 .done)))) 8 (.two 3 (.one 10 (.one 11 (.one 13 .done))) 10 (.take 3 (.one 11 (.one 13 .done)))))))))))))
  else if r == 8 then .take 0 (.take 1 (.take 2 (.take 3 (.take 4 (.take 7 (.one 5 (.take 6 (.take 8 (.take 9 (.one 10 (.one 11 (.take 12 (.one 13 .done)))))))))))))
  else .done⟩

/-- What is left, a bit 1, noughts, and how many bits there were. -/
def endP (rest : List Int) (cnt : Nat) : List Int := rest ++ [128] ++ List.replicate ((119 - rest.length % 64) % 64) 0 ++ be 8 (8 * cnt % 18446744073709551616)

theorem k_chunk (xs : List Int) : Imm Tryd.prog 117 [.d (byt xs), i64 64] (fun r => r = .d (.fn 130 [.ptr (byt xs), .ptr (.int .i64 64)])) := by
  (refine Imm.of_awp (⟨fun _ => false, fun r i => if r == 3 && i == 0 then [2, 3] else [], fun _ => .done⟩ : AW.Told) [] Tryd.func117 rfl (by decide) (Nat.le_of_ble_eq_true rfl) ?_; intro _w0 _S0 _E0 _B0; ((conv=>whnf);repeat' (first|((first|(show (_=true→_)∧(_=false→_);first|refine gT ?_|refine gF ?_)|(show (_=false→_)∧(_=true→_);first|refine gU ?_|refine gV ?_));conv=>whnf)|((first|(first|refine gD ?_ ?_|refine gE ?_ ?_|refine gI ?_ ?_|refine gJ ?_ ?_|refine gK ?_ ?_|refine gL ?_ ?_|refine splitB ?_ ?_|refine splitB2 ?_ ?_)<;>intro _h|intro _h);all_goals first|contradiction|conv=>whnf)|(show _∧_;refine gA ?_;conv=>whnf)|fail)))
  exact Ends.imm rfl rfl

theorem s_sum (hG : Globs.gl 4 = some ROUNDS) (s rest : List Int) (cnt : Nat) (hs : s.length = 8) (hr : wfd rest) (hl : rest.length < 64) (hc : cnt ≤ 1000000000) :
    CSpec Tryd.prog 100 [.optr 0 0] [(0, .cell 136 (hashC s (.own 1) cnt)), (1, .row .u8 5 rest)] 2
      (fun st nx r => st = [(0, .cell 136 (hashC s (.own 1) cnt)), (1, .row .u8 5 rest), (2, .row .u8 5 ((foldS s (endP rest cnt) ((endP rest cnt).length / 64)).flatMap fun x => be 4 x.toNat))] ∧ nx = 3 ∧ r = .own 2) := by
  refine CSpec.ends (CSpec.of_AWp [] Tryd.func100 rfl (by decide) (Nat.le_of_ble_eq_true rfl) fun _w0 _S0 _E0 _B0 => ?_)
  obtain ⟨Z, hZ⟩ : ∃ Z, Z = (119 - rest.length % 64) % 64 := ⟨_, rfl⟩
  refine AWp.seq toldSum ?_
  ((conv=>whnf);repeat' (first|((first|(show (_=true→_)∧(_=false→_);first|refine gT ?_|refine gF ?_)|(show (_=false→_)∧(_=true→_);first|refine gU ?_|refine gV ?_));conv=>whnf)|((first|(first|refine gD ?_ ?_|refine gE ?_ ?_|refine gI ?_ ?_|refine gJ ?_ ?_|refine gK ?_ ?_|refine gL ?_ ?_|refine splitB ?_ ?_|refine splitB2 ?_ ?_)<;>intro _h|intro _h);all_goals first|contradiction|conv=>whnf)|(show _∧_;refine gA ?_;conv=>whnf)|fail))
  refine AWp.cut toldSum (ι := Unit) (fun _ => [(0, .optr 0 0), (3, .optr 2 0)])
    (fun _ => [(0, .cell 136 (hashC s (.own 1) cnt)), (1, .row .u8 5 rest), (2, .cell 136 (hashC s (.own 3) 0)), (3, .row .u8 5 (rest ++ [128]))]) 77 4 (fun _ => True) ?_ fun _ _ => ?_
  · ((conv=>whnf);repeat' (first|((first|(show (_=true→_)∧(_=false→_);first|refine gT ?_|refine gF ?_)|(show (_=false→_)∧(_=true→_);first|refine gU ?_|refine gV ?_));conv=>whnf)|((first|(first|refine gD ?_ ?_|refine gE ?_ ?_|refine gI ?_ ?_|refine gJ ?_ ?_|refine gK ?_ ?_|refine gL ?_ ?_|refine splitB ?_ ?_|refine splitB2 ?_ ?_)<;>intro _h|intro _h);all_goals first|contradiction|conv=>whnf)|(show _∧_;refine gA ?_;conv=>whnf)|fail))
    repeat' (first
      | (refine acallP [] [] (k_cloneA rest (by omega)) rfl trivial trivial rfl (fun _ => rfl) ?_; rintro st nx r ⟨rfl, rfl, rfl⟩; refine ⟨rfl, rfl, ?_⟩; ((conv=>whnf);repeat' (first|((first|(show (_=true→_)∧(_=false→_);first|refine gT ?_|refine gF ?_)|(show (_=false→_)∧(_=true→_);first|refine gU ?_|refine gV ?_));conv=>whnf)|((first|(first|refine gD ?_ ?_|refine gE ?_ ?_|refine gI ?_ ?_|refine gJ ?_ ?_|refine gK ?_ ?_|refine gL ?_ ?_|refine splitB ?_ ?_|refine splitB2 ?_ ?_)<;>intro _h|intro _h);all_goals first|contradiction|conv=>whnf)|(show _∧_;refine gA ?_;conv=>whnf)|fail)))
      | (refine And.intro (by show (rest.length + 1) * 1 ≤ 140737488355328; omega) ?_; ((conv=>whnf);repeat' (first|((first|(show (_=true→_)∧(_=false→_);first|refine gT ?_|refine gF ?_)|(show (_=false→_)∧(_=true→_);first|refine gU ?_|refine gV ?_));conv=>whnf)|((first|(first|refine gD ?_ ?_|refine gE ?_ ?_|refine gI ?_ ?_|refine gJ ?_ ?_|refine gK ?_ ?_|refine gL ?_ ?_|refine splitB ?_ ?_|refine splitB2 ?_ ?_)<;>intro _h|intro _h);all_goals first|contradiction|conv=>whnf)|(show _∧_;refine gA ?_;conv=>whnf)|fail)))
      | (refine And.intro ?_ ?_ <;> ((conv=>whnf);repeat' (first|((first|(show (_=true→_)∧(_=false→_);first|refine gT ?_|refine gF ?_)|(show (_=false→_)∧(_=true→_);first|refine gU ?_|refine gV ?_));conv=>whnf)|((first|(first|refine gD ?_ ?_|refine gE ?_ ?_|refine gI ?_ ?_|refine gJ ?_ ?_|refine gK ?_ ?_|refine gL ?_ ?_|refine splitB ?_ ?_|refine splitB2 ?_ ?_)<;>intro _h|intro _h);all_goals first|contradiction|conv=>whnf)|(show _∧_;refine gA ?_;conv=>whnf)|fail))))
    all_goals first
      | (refine ⟨(), [0, 1, 4, 2], trivial, rfl, ?_⟩; (refine ⟨rfl, rfl, ?_, ?_⟩ <;> repeat' (first | exact True.intro | rfl | decide | (refine And.intro ?_ ?_))); done)
      | (refine ⟨(), [0, 1, 4, 3], trivial, rfl, ?_⟩; (refine ⟨rfl, rfl, ?_, ?_⟩ <;> repeat' (first | exact True.intro | rfl | decide | (refine And.intro ?_ ?_))); done)
      | (refine ⟨(), [0, 1, 3, 2], trivial, rfl, ?_⟩; (refine ⟨rfl, rfl, ?_, ?_⟩ <;> repeat' (first | exact True.intro | rfl | decide | (refine And.intro ?_ ?_))); done)
      | (refine ⟨(), [0, 1, 3, 4], trivial, rfl, ?_⟩; (refine ⟨rfl, rfl, ?_, ?_⟩ <;> repeat' (first | exact True.intro | rfl | decide | (refine And.intro ?_ ?_))); done)
      | (refine ⟨(), [0, 1, 2, 3], trivial, rfl, ?_⟩; (refine ⟨rfl, rfl, ?_, ?_⟩ <;> repeat' (first | exact True.intro | rfl | decide | (refine And.intro ?_ ?_))); done)
      | (refine ⟨(), [0, 1, 2, 4], trivial, rfl, ?_⟩; (refine ⟨rfl, rfl, ?_, ?_⟩ <;> repeat' (first | exact True.intro | rfl | decide | (refine And.intro ?_ ?_))); done)
  · refine AWp.of_awp toldSum ?_
    ((conv=>whnf);repeat' (first|((first|(show (_=true→_)∧(_=false→_);first|refine gT ?_|refine gF ?_)|(show (_=false→_)∧(_=true→_);first|refine gU ?_|refine gV ?_));conv=>whnf)|((first|(first|refine gD ?_ ?_|refine gE ?_ ?_|refine gI ?_ ?_|refine gJ ?_ ?_|refine gK ?_ ?_|refine gL ?_ ?_|refine splitB ?_ ?_|refine splitB2 ?_ ?_)<;>intro _h|intro _h);all_goals first|contradiction|conv=>whnf)|(show _∧_;refine gA ?_;conv=>whnf)|fail))
    refine aloop (T := toldSum) (ι := Nat) (fun j => [(0, .optr 0 0), (3, .optr 2 0)]) (fun j => [(0, .cell 136 (hashC s (.own 1) cnt)), (1, .row .u8 5 rest), (2, .cell 136 (hashC s (.own 3) 0)), (3, .row .u8 5 (rest ++ [128] ++ List.replicate j 0))]) 77 4
      (fun j => Z - j) (fun j => j ≤ Z)
      ⟨0, [0, 1, 2, 3], rfl, by omega, by (refine ⟨rfl, rfl, ?_, ?_⟩ <;> repeat' (first | exact True.intro | rfl | decide | (refine And.intro ?_ ?_))); simp; rfl⟩ ?_
    intro j hj
    have hrl : (rest ++ [128] ++ List.replicate j 0).length = rest.length + 1 + j := by simp; omega
    have hmod : ((rest ++ [128] ++ List.replicate j 0).length : Int).tmod 64 = (((rest.length + 1 + j) % 64 : Nat) : Int) := by
      rw [hrl, Int.tmod_eq_emod_of_nonneg (by omega)]; omega
    rcases Nat.lt_or_ge j Z with hjz | hjz
    · have hne : ¬ ((rest ++ [128] ++ List.replicate j 0).length : Int).tmod 64 = 56 := by rw [hmod]; omega
      ((conv=>whnf);repeat' (first|((first|(show (_=true→_)∧(_=false→_);first|refine gT ?_|refine gF ?_)|(show (_=false→_)∧(_=true→_);first|refine gU ?_|refine gV ?_));conv=>whnf)|((first|(first|refine gD ?_ ?_|refine gE ?_ ?_|refine gI ?_ ?_|refine gJ ?_ ?_|refine gK ?_ ?_|refine gL ?_ ?_|refine splitB ?_ ?_|refine splitB2 ?_ ?_)<;>intro _h|intro _h);all_goals first|contradiction|conv=>whnf)|(show _∧_;refine gA ?_;conv=>whnf)|fail))
      refine ⟨by rw [hrl]; show (rest.length + 1 + j + 1) * 1 ≤ 140737488355328; omega, ?_⟩
      ((conv=>whnf);repeat' (first|((first|(show (_=true→_)∧(_=false→_);first|refine gT ?_|refine gF ?_)|(show (_=false→_)∧(_=true→_);first|refine gU ?_|refine gV ?_));conv=>whnf)|((first|(first|refine gD ?_ ?_|refine gE ?_ ?_|refine gI ?_ ?_|refine gJ ?_ ?_|refine gK ?_ ?_|refine gL ?_ ?_|refine splitB ?_ ?_|refine splitB2 ?_ ?_)<;>intro _h|intro _h);all_goals first|contradiction|conv=>whnf)|(show _∧_;refine gA ?_;conv=>whnf)|fail))
      refine ⟨j + 1, [0, 1, 2, 3], by omega, by omega, rfl, ?_⟩
      (refine ⟨rfl, rfl, ?_, ?_⟩ <;> repeat' (first | exact True.intro | rfl | decide | (refine And.intro ?_ ?_)))
      show some (Ob.row .u8 _ _) = some (Ob.row .u8 _ _)
      rw [List.replicate_succ', ← List.append_assoc]
    · have hjz' : j = Z := by omega
      have heq : ((rest ++ [128] ++ List.replicate j 0).length : Int).tmod 64 = 56 := by rw [hmod]; omega
      ((conv=>whnf);repeat' (first|((first|(show (_=true→_)∧(_=false→_);first|refine gT ?_|refine gF ?_)|(show (_=false→_)∧(_=true→_);first|refine gU ?_|refine gV ?_));conv=>whnf)|((first|(first|refine gD ?_ ?_|refine gE ?_ ?_|refine gI ?_ ?_|refine gJ ?_ ?_|refine gK ?_ ?_|refine gL ?_ ?_|refine splitB ?_ ?_|refine splitB2 ?_ ?_)<;>intro _h|intro _h);all_goals first|contradiction|conv=>whnf)|(show _∧_;refine gA ?_;conv=>whnf)|fail))
      refine ao_app0 (k := .u8) (j := 3) rfl rfl rfl rfl rfl rfl rfl rfl rfl ?_
      ((conv=>whnf);repeat' (first|((first|(show (_=true→_)∧(_=false→_);first|refine gT ?_|refine gF ?_)|(show (_=false→_)∧(_=true→_);first|refine gU ?_|refine gV ?_));conv=>whnf)|((first|(first|refine gD ?_ ?_|refine gE ?_ ?_|refine gI ?_ ?_|refine gJ ?_ ?_|refine gK ?_ ?_|refine gL ?_ ?_|refine splitB ?_ ?_|refine splitB2 ?_ ?_)<;>intro _h|intro _h);all_goals first|contradiction|conv=>whnf)|(show _∧_;refine gA ?_;conv=>whnf)|fail))
      rw [hjz']
      obtain ⟨p0, hp0⟩ : ∃ p0, p0 = rest ++ [128] ++ List.replicate Z 0 := ⟨_, rfl⟩
      have hpl : p0.length = rest.length + 1 + Z := by rw [hp0, ← hjz', hrl]
      rw [← hp0]
      refine aloop (T := toldSum) (ι := Nat) (fun i => [(0, .optr 0 0), (3, .optr 2 0), (4, i64 (8 * (7 - (i : Int))))]) (fun i => [(0, .cell 136 (hashC s (.own 1) cnt)), (1, .row .u8 5 rest), (2, .cell 136 (hashC s (.own 3) 0)), (3, .row .u8 5 (p0 ++ (be 8 (8 * cnt)).take i))]) 77 4
        (fun i => 8 - i) (fun i => i ≤ 8)
        ⟨0, [0, 1, 2, 3], rfl, by omega, by (refine ⟨rfl, rfl, ?_, ?_⟩ <;> repeat' (first | exact True.intro | rfl | decide | (refine And.intro ?_ ?_))); simp; rfl⟩ ?_
      intro i hi
      have hlen : (p0 ++ (be 8 (8 * cnt)).take i).length = p0.length + i := by
        rw [List.length_append, List.length_take, be_length]; omega
      rcases Nat.lt_or_ge i 8 with h8 | h8
      · have e8 : IntKind.u64.wrap (8 * (cnt : Int)) = ((8 * cnt : Nat) : Int) := by rw [wrap_u64 (by omega) (by omega)]; omega
        have e0 : (0 : Int) ≤ 8 * (7 - (i : Int)) := by omega
        have e2 : IntKind.u8.wrap (IntKind.u64.wrap (8 * (cnt : Int)) / 2 ^ min (8 * (7 - (i : Int))).toNat IntKind.u64.bits) = ((8 * cnt / 256 ^ (8 - 1 - i) % 256 : Nat) : Int) := by
          have e1 : (8 * (7 - (i : Int))).toNat = 8 * (7 - i) := by omega
          rw [e1, e8, Nat.min_eq_left (by simp [IntKind.bits]; omega)]
          have : (2 : Int) ^ (8 * (7 - i)) = ((256 ^ (8 - 1 - i) : Nat) : Int) := by
            rw [Int.pow_mul]; push_cast; rfl
          rw [this, ← Int.natCast_ediv, u8w]
        ((conv=>whnf);repeat' (first|((first|(show (_=true→_)∧(_=false→_);first|refine gT ?_|refine gF ?_)|(show (_=false→_)∧(_=true→_);first|refine gU ?_|refine gV ?_));conv=>whnf)|((first|(first|refine gD ?_ ?_|refine gE ?_ ?_|refine gI ?_ ?_|refine gJ ?_ ?_|refine gK ?_ ?_|refine gL ?_ ?_|refine splitB ?_ ?_|refine splitB2 ?_ ?_)<;>intro _h|intro _h);all_goals first|contradiction|conv=>whnf)|(show _∧_;refine gA ?_;conv=>whnf)|fail))
        refine ⟨by rw [hlen]; show (p0.length + i + 1) * 1 ≤ 140737488355328; omega, ?_⟩
        ((conv=>whnf);repeat' (first|((first|(show (_=true→_)∧(_=false→_);first|refine gT ?_|refine gF ?_)|(show (_=false→_)∧(_=true→_);first|refine gU ?_|refine gV ?_));conv=>whnf)|((first|(first|refine gD ?_ ?_|refine gE ?_ ?_|refine gI ?_ ?_|refine gJ ?_ ?_|refine gK ?_ ?_|refine gL ?_ ?_|refine splitB ?_ ?_|refine splitB2 ?_ ?_)<;>intro _h|intro _h);all_goals first|contradiction|conv=>whnf)|(show _∧_;refine gA ?_;conv=>whnf)|fail))
        refine ⟨i + 1, [0, 1, 2, 3], by omega, by omega, rfl, ?_⟩
        (refine ⟨rfl, rfl, ?_, ?_⟩ <;> repeat' (first | exact True.intro | rfl | decide | (refine And.intro ?_ ?_)))
        · exact di (by rw [wrap_i64 (by omega) (by omega)]; omega)
        · show some (Ob.row .u8 _ _) = some (Ob.row .u8 _ _)
          rw [e2, be_take (by omega), ← List.append_assoc]
      · have hi8 : i = 8 := by omega
        have hend : endP rest cnt = p0 ++ be 8 (8 * cnt) := by
          unfold endP
          rw [hp0, hZ, Nat.mod_eq_of_lt (a := 8 * cnt) (b := 18446744073709551616) (by omega)]
        have htk : (be 8 (8 * cnt)).take i = be 8 (8 * cnt) := List.take_of_length_le (by rw [be_length]; omega)
        rw [htk, hend]
        obtain ⟨p, hp⟩ : ∃ p, p = p0 ++ be 8 (8 * cnt) := ⟨_, rfl⟩
        obtain ⟨n, hn⟩ : ∃ n, p.length = 64 * n := ⟨(rest.length + 9 + Z) / 64, by rw [hp, List.length_append, be_length, hpl]; omega⟩
        have hpn : p.length / 64 = n := by omega
        have hn0 : 0 < n := by have := congrArg List.length hp; rw [List.length_append, be_length, hpl] at this; omega
        have hple : p.length ≤ 1000000000 := by have := congrArg List.length hp; rw [List.length_append, be_length, hpl] at this; omega
        have hpw : wfd p := by
          rw [hp, hp0]
          exact ((hr.append (fun x hx => by simp at hx; omega)).append (fun x hx => by rw [List.eq_of_mem_replicate hx]; omega)).append (be_wfd _ _)
        rw [← hp, hpn]
        ((conv=>whnf);repeat' (first|((first|(show (_=true→_)∧(_=false→_);first|refine gT ?_|refine gF ?_)|(show (_=false→_)∧(_=true→_);first|refine gU ?_|refine gV ?_));conv=>whnf)|((first|(first|refine gD ?_ ?_|refine gE ?_ ?_|refine gI ?_ ?_|refine gJ ?_ ?_|refine gK ?_ ?_|refine gL ?_ ?_|refine splitB ?_ ?_|refine splitB2 ?_ ?_)<;>intro _h|intro _h);all_goals first|contradiction|conv=>whnf)|(show _∧_;refine gA ?_;conv=>whnf)|fail))
        refine acallI (k_chunk p) rfl fun r hr => ?_
        subst hr
        ((conv=>whnf);repeat' (first|((first|(show (_=true→_)∧(_=false→_);first|refine gT ?_|refine gF ?_)|(show (_=false→_)∧(_=true→_);first|refine gU ?_|refine gV ?_));conv=>whnf)|((first|(first|refine gD ?_ ?_|refine gE ?_ ?_|refine gI ?_ ?_|refine gJ ?_ ?_|refine gK ?_ ?_|refine gL ?_ ?_|refine splitB ?_ ?_|refine splitB2 ?_ ?_)<;>intro _h|intro _h);all_goals first|contradiction|conv=>whnf)|(show _∧_;refine gA ?_;conv=>whnf)|fail))
        refine AWp.rangeFunc toldSum (aiC p n hn hple hn0) (ι := Nat) [(0, .optr 0 0), (3, .optr 2 0)]
          (fun k => [(0, .cell 136 (hashC s (.own 1) cnt)), (1, .row .u8 5 rest), (2, .cell 136 (hashC (foldS s p k) (.d (byt p)) 0))]) 77 3 3
          (fun k i => i = k) (fun e v => False) rfl rfl rfl (fun k hk => rfl) rfl rfl (show 2 ≤ 3 by decide) (Nat.le_refl _) rfl ?_ ?_ ?_ ?_ ?_
        · exact ⟨0, [0, 1, 2], rfl, rfl, by (refine ⟨rfl, rfl, ?_, ?_⟩ <;> repeat' (first | exact True.intro | rfl | decide | (refine And.intro ?_ ?_)))⟩
        · intro k i hk hi' _ _ _ _ _
          subst hi'
          have hfl := foldS_len s p hs i
          ((conv=>whnf);repeat' (first|((first|(show (_=true→_)∧(_=false→_);first|refine gT ?_|refine gF ?_)|(show (_=false→_)∧(_=true→_);first|refine gU ?_|refine gV ?_));conv=>whnf)|((first|(first|refine gD ?_ ?_|refine gE ?_ ?_|refine gI ?_ ?_|refine gJ ?_ ?_|refine gK ?_ ?_|refine gL ?_ ?_|refine splitB ?_ ?_|refine splitB2 ?_ ?_)<;>intro _h|intro _h);all_goals first|contradiction|conv=>whnf)|(show _∧_;refine gA ?_;conv=>whnf)|fail))
          refine acall [2] (s_take hG (foldS s p i) (cutB p (64 * i) 64) p 0 hfl (hpw.cut _ _) (cutB_len (by omega))) rfl ⟨⟨by decide, rfl⟩, trivial⟩ rfl (fun h => Bool.noConfusion h) ?_
          rintro st nx r ⟨rfl, rfl, rfl⟩
          ((conv=>whnf);repeat' (first|((first|(show (_=true→_)∧(_=false→_);first|refine gT ?_|refine gF ?_)|(show (_=false→_)∧(_=true→_);first|refine gU ?_|refine gV ?_));conv=>whnf)|((first|(first|refine gD ?_ ?_|refine gE ?_ ?_|refine gI ?_ ?_|refine gJ ?_ ?_|refine gK ?_ ?_|refine gL ?_ ?_|refine splitB ?_ ?_|refine splitB2 ?_ ?_)<;>intro _h|intro _h);all_goals first|contradiction|conv=>whnf)|(show _∧_;refine gA ?_;conv=>whnf)|fail))
          refine ⟨i + 1, [0, 1, 2], rfl, rfl, rfl, ?_⟩
          (repeat' (first | exact True.intro | rfl | decide | (refine And.intro ?_ ?_)))
        · intro k hk
          subst hk
          have hfl := foldS_len s p hs k
          obtain ⟨v, hv⟩ : ∃ v, v = foldS s p k := ⟨_, rfl⟩
          have hvw : wfl v := by
            obtain ⟨k', rfl⟩ : ∃ k', k = k' + 1 := ⟨k - 1, by omega⟩
            rw [hv]
            exact blkS_wfl _ _
          rw [← hv] at hfl ⊢
          ((conv=>whnf);repeat' (first|((first|(show (_=true→_)∧(_=false→_);first|refine gT ?_|refine gF ?_)|(show (_=false→_)∧(_=true→_);first|refine gU ?_|refine gV ?_));conv=>whnf)|((first|(first|refine gD ?_ ?_|refine gE ?_ ?_|refine gI ?_ ?_|refine gJ ?_ ?_|refine gK ?_ ?_|refine gL ?_ ?_|refine splitB ?_ ?_|refine splitB2 ?_ ?_)<;>intro _h|intro _h);all_goals first|contradiction|conv=>whnf)|(show _∧_;refine gA ?_;conv=>whnf)|fail))
          refine AWp.adopt 6 (.row .u8 5 []) rfl rfl ?_
          refine aloop (T := toldSum) (ι := Nat) (fun i => [(60, .ag 134 (st8 v)), (6, .own 3), (61, i64 i)]) (fun i => [(0, .cell 136 (hashC s (.own 1) cnt)), (1, .row .u8 5 rest), (3, .row .u8 5 ((v.take i).flatMap fun x => be 4 x.toNat))]) 77 4
            (fun i => 8 - i) (fun i => i ≤ 8)
            ⟨0, [0, 1, 2, 3], rfl, by omega, by (refine ⟨rfl, rfl, ?_, ?_⟩ <;> repeat' (first | exact True.intro | rfl | decide | (refine And.intro ?_ ?_)))⟩ ?_
          intro i hi
          rcases Nat.lt_or_ge i 8 with h8 | h8
          · have hf4 := flat_take4 v i (by omega)
            have hfll := flat_len (v.take i)
            rw [List.length_take, Nat.min_eq_left (by omega)] at hfll
            ((conv=>whnf);repeat' (first|((first|(show (_=true→_)∧(_=false→_);first|refine gT ?_|refine gF ?_)|(show (_=false→_)∧(_=true→_);first|refine gU ?_|refine gV ?_));conv=>whnf)|((first|(first|refine gD ?_ ?_|refine gE ?_ ?_|refine gI ?_ ?_|refine gJ ?_ ?_|refine gK ?_ ?_|refine gL ?_ ?_|refine splitB ?_ ?_|refine splitB2 ?_ ?_)<;>intro _h|intro _h);all_goals first|contradiction|conv=>whnf)|(show _∧_;refine gA ?_;conv=>whnf)|fail))
            have hx0 := hvw.get i
            have hgx : [v.getD 0 0, v.getD 1 0, v.getD 2 0, v.getD 3 0, v.getD 4 0, v.getD 5 0, v.getD 6 0, v.getD 7 0].getD (i : Int).toNat 0 = v.getD i 0 := by
              rw [Int.toNat_natCast]
              rcases Nat.lt_or_ge i 8 with _ | h
              · match i, h8 with
                | 0, _ => rfl
                | 1, _ => rfl
                | 2, _ => rfl
                | 3, _ => rfl
                | 4, _ => rfl
                | 5, _ => rfl
                | 6, _ => rfl
                | 7, _ => rfl
              · omega
            obtain ⟨x, hx⟩ : ∃ x, x = v.getD i 0 := ⟨_, rfl⟩
            rw [← hx] at hgx hx0 hf4
            refine aloop (T := toldSum) (ι := Nat) (fun j => [(60, .ag 134 (st8 v)), (6, .own 3), (61, i64 i), (8, u32 x), (9, i64 (8 * (3 - (j : Int))))]) (fun j => [(0, .cell 136 (hashC s (.own 1) cnt)), (1, .row .u8 5 rest), (3, .row .u8 5 ((v.take i).flatMap (fun x => be 4 x.toNat) ++ (be 4 x.toNat).take j))]) 77 4
              (fun j => 4 - j) (fun j => j ≤ 4)
              ⟨0, [0, 1, 2, 3], rfl, by omega, by
                (refine ⟨rfl, rfl, ?_, ?_⟩ <;> repeat' (first | exact True.intro | rfl | decide | (refine And.intro ?_ ?_)))
                · rw [← hgx]; rfl
                · simp; rfl⟩ ?_
            intro j hj
            have hlen : ((v.take i).flatMap (fun x => be 4 x.toNat) ++ (be 4 x.toNat).take j).length = 4 * i + j := by
              rw [List.length_append, hfll, List.length_take, be_length]; omega
            rcases Nat.lt_or_ge j 4 with h4 | h4
            · have e2 := byte4 x j (8 * (3 - (j : Int))) hx0.1 h4 (by omega)
              ((conv=>whnf);repeat' (first|((first|(show (_=true→_)∧(_=false→_);first|refine gT ?_|refine gF ?_)|(show (_=false→_)∧(_=true→_);first|refine gU ?_|refine gV ?_));conv=>whnf)|((first|(first|refine gD ?_ ?_|refine gE ?_ ?_|refine gI ?_ ?_|refine gJ ?_ ?_|refine gK ?_ ?_|refine gL ?_ ?_|refine splitB ?_ ?_|refine splitB2 ?_ ?_)<;>intro _h|intro _h);all_goals first|contradiction|conv=>whnf)|(show _∧_;refine gA ?_;conv=>whnf)|fail))
              refine ⟨by rw [hlen]; show (4 * i + j + 1) * 1 ≤ 140737488355328; omega, ?_⟩
              ((conv=>whnf);repeat' (first|((first|(show (_=true→_)∧(_=false→_);first|refine gT ?_|refine gF ?_)|(show (_=false→_)∧(_=true→_);first|refine gU ?_|refine gV ?_));conv=>whnf)|((first|(first|refine gD ?_ ?_|refine gE ?_ ?_|refine gI ?_ ?_|refine gJ ?_ ?_|refine gK ?_ ?_|refine gL ?_ ?_|refine splitB ?_ ?_|refine splitB2 ?_ ?_)<;>intro _h|intro _h);all_goals first|contradiction|conv=>whnf)|(show _∧_;refine gA ?_;conv=>whnf)|fail))
              refine ⟨j + 1, [0, 1, 2, 3], by omega, by omega, rfl, ?_⟩
              (refine ⟨rfl, rfl, ?_, ?_⟩ <;> repeat' (first | exact True.intro | rfl | decide | (refine And.intro ?_ ?_)))
              · exact di (by rw [wrap_i64 (by omega) (by omega)]; omega)
              · show some (Ob.row .u8 _ _) = some (Ob.row .u8 _ _)
                rw [e2, be_take (by omega), ← List.append_assoc]
            · have hj4 : j = 4 := by omega
              ((conv=>whnf);repeat' (first|((first|(show (_=true→_)∧(_=false→_);first|refine gT ?_|refine gF ?_)|(show (_=false→_)∧(_=true→_);first|refine gU ?_|refine gV ?_));conv=>whnf)|((first|(first|refine gD ?_ ?_|refine gE ?_ ?_|refine gI ?_ ?_|refine gJ ?_ ?_|refine gK ?_ ?_|refine gL ?_ ?_|refine splitB ?_ ?_|refine splitB2 ?_ ?_)<;>intro _h|intro _h);all_goals first|contradiction|conv=>whnf)|(show _∧_;refine gA ?_;conv=>whnf)|fail))
              refine ⟨i + 1, [0, 1, 2, 3], by omega, by omega, rfl, ?_⟩
              (refine ⟨rfl, rfl, ?_, ?_⟩ <;> repeat' (first | exact True.intro | rfl | decide | (refine And.intro ?_ ?_)))
              · exact di (by rw [wrap_i64 (by omega) (by omega)]; rfl)
              · show some (Ob.row .u8 _ _) = some (Ob.row .u8 _ _)
                rw [hf4, List.take_of_length_le (l := be 4 _) (by rw [be_length]; omega)]
          · have hi8 : i = 8 := by omega
            ((conv=>whnf);repeat' (first|((first|(show (_=true→_)∧(_=false→_);first|refine gT ?_|refine gF ?_)|(show (_=false→_)∧(_=true→_);first|refine gU ?_|refine gV ?_));conv=>whnf)|((first|(first|refine gD ?_ ?_|refine gE ?_ ?_|refine gI ?_ ?_|refine gJ ?_ ?_|refine gK ?_ ?_|refine gL ?_ ?_|refine splitB ?_ ?_|refine splitB2 ?_ ?_)<;>intro _h|intro _h);all_goals first|contradiction|conv=>whnf)|(show _∧_;refine gA ?_;conv=>whnf)|fail))
            refine ⟨[0, 1, 3], [(0, .cell 136 (hashC s (.own 1) cnt)), (1, .row .u8 5 rest), (2, .row .u8 5 (v.flatMap fun x => be 4 x.toNat))], .own 2, ⟨rfl, ⟨⟨by decide, rfl⟩, ⟨by decide, rfl⟩, ⟨by decide, ?_⟩, trivial⟩, rfl⟩, rfl, rfl, rfl⟩
            have e : v.take i = v := by rw [hi8, List.take_of_length_le (by omega)]
            rw [e]
            rfl
        · intro n h
          exact h.elim
        · intro id n h
          exact h.elim

theorem sum_end (t : List Int) : (foldS (stS t) (endP (reS t) t.length) ((endP (reS t) t.length).length / 64)).flatMap (fun x => be 4 x.toNat) = sumS t := by
  have hl := reS_len t
  have e0 : t = t.take (64 * (t.length / 64)) ++ reS t := (List.take_append_drop _ _).symm
  have ep : padS t = t.take (64 * (t.length / 64)) ++ endP (reS t) t.length := by
    unfold padS endP
    rw [hl, Nat.mod_mod]
    conv => lhs; lhs; lhs; lhs; rw [e0]
    simp only [List.append_assoc]
  have el : (t.take (64 * (t.length / 64))).length = 64 * (t.length / 64) := by rw [List.length_take]; omega
  have e1 : (padS t).length / 64 = t.length / 64 + (endP (reS t) t.length).length / 64 := by
    rw [ep, List.length_append, el]; omega
  have e2 : (padS t).drop (64 * (t.length / 64)) = endP (reS t) t.length := by
    rw [ep, List.drop_append_of_le_length (by omega), List.drop_of_length_le (by omega)]; rfl
  have e3 : foldS H0 (padS t) (t.length / 64) = stS t := by
    unfold padS stS
    rw [List.append_assoc, List.append_assoc, foldS_app _ _ _ (by omega)]
  unfold sumS
  rw [e1, foldS_split, e2, e3]

def toldOf : AW.Told := ⟨fun f => f == 99 || f == 100, fun _ _ => [], fun _ => .done⟩

theorem s_of (hG : Globs.gl 4 = some ROUNDS) (hF : Globs.gl 1 = some FIRST) (xss : List (List Int)) (hw : ∀ x ∈ xss, wfd x) (hl : xss.flatten.length ≤ 10000000) (hx : xss.length ≤ 1000000) :
    Imm Tryd.prog 71 [.d (.sl 1 (xss.map byt))] (fun r => r = .d (byt (sumS xss.flatten))) := by
  have hwf : ∀ k, wfd (xss.take k).flatten := fun k x hx => by
    obtain ⟨l, h1, h2⟩ := List.mem_flatten.1 hx
    exact hw l (List.mem_of_mem_take h1) x h2
  (refine Imm.of_awp toldOf [2] Tryd.func71 rfl (by decide) (Nat.le_of_ble_eq_true rfl) ?_; intro _w0 _S0 _E0 _B0; ((conv=>whnf);repeat' (first|((first|(show (_=true→_)∧(_=false→_);first|refine nTt ?_|refine nFf ?_)|(show (_=false→_)∧(_=true→_);first|refine nU ?_|refine nV ?_));conv=>whnf)|((first|(first|refine gD ?_ ?_|refine gE ?_ ?_|refine gI ?_ ?_|refine gJ ?_ ?_|refine gK ?_ ?_|refine gL ?_ ?_|refine splitB ?_ ?_|refine splitB2 ?_ ?_)<;>intro _h|intro _h);all_goals first|contradiction|conv=>whnf)|(show _∧_;refine gA ?_;conv=>whnf)|fail)))
  refine acall [] (s_new hF) rfl (by simp [stIn]) rfl (fun _ => rfl) ?_
  rintro st nx r ⟨rfl, rfl, rfl⟩
  ((conv=>whnf);repeat' (first|((first|(show (_=true→_)∧(_=false→_);first|refine gT ?_|refine gF ?_)|(show (_=false→_)∧(_=true→_);first|refine gU ?_|refine gV ?_));conv=>whnf)|((first|(first|refine gD ?_ ?_|refine gE ?_ ?_|refine gI ?_ ?_|refine gJ ?_ ?_|refine gK ?_ ?_|refine gL ?_ ?_|refine splitB ?_ ?_|refine splitB2 ?_ ?_)<;>intro _h|intro _h);all_goals first|contradiction|conv=>whnf)|(show _∧_;refine gA ?_;conv=>whnf)|fail))
  refine aloop (T := toldOf) (fun k : Nat => [(3, .optr 0 0), (7, .d (.sl 1 (xss.map byt))), (8, i64 xss.length), (9, i64 k)])
    (fun k => [(0, .cell 136 (hashC (stS (xss.take k).flatten) (.own 1) ((xss.take k).flatten.length : Nat))), (1, .row .u8 5 (reS (xss.take k).flatten))]) 19 2 (fun k => xss.length - k) (fun k => k ≤ xss.length)
    ⟨0, [0, 1], rfl, Nat.zero_le _, by
      (refine ⟨rfl, rfl, ?_, ?_⟩ <;> repeat' (first | exact True.intro | rfl | decide | (refine And.intro ?_ ?_)))
      · simp [AW.upd, renV]
      · rw [List.take_zero, List.flatten_nil, show stS [] = H0 from rfl]; rfl
      · rw [List.take_zero, List.flatten_nil, show reS [] = [] from rfl]; rfl⟩ ?_
  intro k hk
  have hf1 := flat_le xss k
  have hf2 := flat_le xss (k + 1)
  obtain ⟨t, ht⟩ : ∃ t, t = (xss.take k).flatten := ⟨_, rfl⟩
  have htw : wfd t := by rw [ht]; exact hwf k
  have hrl := reS_len t
  rw [← ht] at hf1 ⊢
  rcases Nat.lt_or_ge k xss.length with hkl | hkl
  · have hfk := flat_take xss k hkl
    rw [← ht] at hfk
    have hlen : (xss.take (k + 1)).flatten.length = t.length + (xss.getD k []).length := by rw [hfk, List.length_append]
    obtain ⟨b, hb⟩ : ∃ b, b = xss.getD k [] := ⟨_, rfl⟩
    have hbw : wfd b := by
      rw [hb, List.getD_eq_getElem?_getD, List.getElem?_eq_getElem hkl]
      exact hw _ (List.getElem_mem hkl)
    rw [← hb] at hfk hlen
    have hap := stS_app t b
    have ew : IntKind.u64.wrap ((t.length : Int) + b.length) = ((t ++ b).length : Nat) := by rw [wrap_u64 (by omega) (by omega), List.length_append]; rfl
    ((conv=>whnf);repeat' (first|((first|(show (_=true→_)∧(_=false→_);first|refine gT ?_|refine gF ?_)|(show (_=false→_)∧(_=true→_);first|refine gU ?_|refine gV ?_));conv=>whnf)|((first|(first|refine gD ?_ ?_|refine gE ?_ ?_|refine gI ?_ ?_|refine gJ ?_ ?_|refine gK ?_ ?_|refine gL ?_ ?_|refine splitB ?_ ?_|refine splitB2 ?_ ?_)<;>intro _h|intro _h);all_goals first|contradiction|conv=>whnf)|(show _∧_;refine gA ?_;conv=>whnf)|fail))
    rw [Int.toNat_natCast, getD_map byt xss k [] default (by omega), ← hb]
    ((conv=>whnf);repeat' (first|((first|(show (_=true→_)∧(_=false→_);first|refine gT ?_|refine gF ?_)|(show (_=false→_)∧(_=true→_);first|refine gU ?_|refine gV ?_));conv=>whnf)|((first|(first|refine gD ?_ ?_|refine gE ?_ ?_|refine gI ?_ ?_|refine gJ ?_ ?_|refine gK ?_ ?_|refine gL ?_ ?_|refine splitB ?_ ?_|refine splitB2 ?_ ?_)<;>intro _h|intro _h);all_goals first|contradiction|conv=>whnf)|(show _∧_;refine gA ?_;conv=>whnf)|fail))
    refine acall [0, 1] (s_write hG (stS t) (reS t) b t.length (stS_len t) (reS_wfd htw) hbw (by omega)) rfl ⟨⟨by decide, rfl⟩, ⟨by decide, rfl⟩, trivial⟩ rfl (fun h => Bool.noConfusion h) ?_
    rintro st nx r ⟨rfl, rfl, rfl⟩
    ((conv=>whnf);repeat' (first|((first|(show (_=true→_)∧(_=false→_);first|refine gT ?_|refine gF ?_)|(show (_=false→_)∧(_=true→_);first|refine gU ?_|refine gV ?_));conv=>whnf)|((first|(first|refine gD ?_ ?_|refine gE ?_ ?_|refine gI ?_ ?_|refine gJ ?_ ?_|refine gK ?_ ?_|refine gL ?_ ?_|refine splitB ?_ ?_|refine splitB2 ?_ ?_)<;>intro _h|intro _h);all_goals first|contradiction|conv=>whnf)|(show _∧_;refine gA ?_;conv=>whnf)|fail))
    refine ⟨k + 1, [0, 2], by omega, by omega, rfl, ?_⟩
    (refine ⟨rfl, rfl, ?_, ?_⟩ <;> repeat' (first | exact True.intro | rfl | decide | (refine And.intro ?_ ?_)))
    · exact di (by rw [wrap_i64 (by omega) (by omega)]; rfl)
    · rw [hfk, hap.1, ew]; rfl
    · rw [hfk, hap.2]; rfl
  · have hk' : k = xss.length := by omega
    subst hk'
    rw [List.take_length] at ht
    ((conv=>whnf);repeat' (first|((first|(show (_=true→_)∧(_=false→_);first|refine gT ?_|refine gF ?_)|(show (_=false→_)∧(_=true→_);first|refine gU ?_|refine gV ?_));conv=>whnf)|((first|(first|refine gD ?_ ?_|refine gE ?_ ?_|refine gI ?_ ?_|refine gJ ?_ ?_|refine gK ?_ ?_|refine gL ?_ ?_|refine splitB ?_ ?_|refine splitB2 ?_ ?_)<;>intro _h|intro _h);all_goals first|contradiction|conv=>whnf)|(show _∧_;refine gA ?_;conv=>whnf)|fail))
    refine acall [0, 1] (s_sum hG (stS t) (reS t) t.length (stS_len t) (reS_wfd htw) (by omega) (by omega)) rfl ⟨⟨by decide, rfl⟩, ⟨by decide, rfl⟩, trivial⟩ rfl (fun h => Bool.noConfusion h) ?_
    rintro st nx r ⟨rfl, rfl, rfl⟩
    ((conv=>whnf);repeat' (first|((first|(show (_=true→_)∧(_=false→_);first|refine gT ?_|refine gF ?_)|(show (_=false→_)∧(_=true→_);first|refine gU ?_|refine gV ?_));conv=>whnf)|((first|(first|refine gD ?_ ?_|refine gE ?_ ?_|refine gI ?_ ?_|refine gJ ?_ ?_|refine gK ?_ ?_|refine gL ?_ ?_|refine splitB ?_ ?_|refine splitB2 ?_ ?_)<;>intro _h|intro _h);all_goals first|contradiction|conv=>whnf)|(show _∧_;refine gA ?_;conv=>whnf)|fail))
    refine Ends.imm rfl ?_
    rw [← ht, ← sum_end t]

theorem s_ofO (hG : Globs.gl 4 = some ROUNDS) (hF : Globs.gl 1 = some FIRST) (xss : List (List Int)) (hw : ∀ x ∈ xss, wfd x) (hl : xss.flatten.length ≤ 10000000) (hx : xss.length ≤ 1000000) :
    CSpec Tryd.prog 71 [.d (.sl 1 (xss.map byt))] [] 0 (fun st nx r => st = [(0, .row .u8 5 (sumS xss.flatten))] ∧ nx = 1 ∧ r = .own 0) := by
  have hwf : ∀ k, wfd (xss.take k).flatten := fun k x hx => by
    obtain ⟨l, h1, h2⟩ := List.mem_flatten.1 hx
    exact hw l (List.mem_of_mem_take h1) x h2
  refine CSpec.ends (CSpec.of_awp toldOf [] Tryd.func71 rfl (by decide) (Nat.le_of_ble_eq_true rfl) fun _w0 _S0 _E0 _B0 => ?_)
  ((conv=>whnf);repeat' (first|((first|(show (_=true→_)∧(_=false→_);first|refine nTt ?_|refine nFf ?_)|(show (_=false→_)∧(_=true→_);first|refine nU ?_|refine nV ?_));conv=>whnf)|((first|(first|refine gD ?_ ?_|refine gE ?_ ?_|refine gI ?_ ?_|refine gJ ?_ ?_|refine gK ?_ ?_|refine gL ?_ ?_|refine splitB ?_ ?_|refine splitB2 ?_ ?_)<;>intro _h|intro _h);all_goals first|contradiction|conv=>whnf)|(show _∧_;refine gA ?_;conv=>whnf)|fail))
  refine acall [] (s_new hF) rfl (by simp [stIn]) rfl (fun _ => rfl) ?_
  rintro st nx r ⟨rfl, rfl, rfl⟩
  ((conv=>whnf);repeat' (first|((first|(show (_=true→_)∧(_=false→_);first|refine gT ?_|refine gF ?_)|(show (_=false→_)∧(_=true→_);first|refine gU ?_|refine gV ?_));conv=>whnf)|((first|(first|refine gD ?_ ?_|refine gE ?_ ?_|refine gI ?_ ?_|refine gJ ?_ ?_|refine gK ?_ ?_|refine gL ?_ ?_|refine splitB ?_ ?_|refine splitB2 ?_ ?_)<;>intro _h|intro _h);all_goals first|contradiction|conv=>whnf)|(show _∧_;refine gA ?_;conv=>whnf)|fail))
  refine aloop (T := toldOf) (fun k : Nat => [(3, .optr 0 0), (7, .d (.sl 1 (xss.map byt))), (8, i64 xss.length), (9, i64 k)])
    (fun k => [(0, .cell 136 (hashC (stS (xss.take k).flatten) (.own 1) ((xss.take k).flatten.length : Nat))), (1, .row .u8 5 (reS (xss.take k).flatten))]) 19 2 (fun k => xss.length - k) (fun k => k ≤ xss.length)
    ⟨0, [0, 1], rfl, Nat.zero_le _, by
      (refine ⟨rfl, rfl, ?_, ?_⟩ <;> repeat' (first | exact True.intro | rfl | decide | (refine And.intro ?_ ?_)))
      · simp [AW.upd, renV]
      · rw [List.take_zero, List.flatten_nil, show stS [] = H0 from rfl]; rfl
      · rw [List.take_zero, List.flatten_nil, show reS [] = [] from rfl]; rfl⟩ ?_
  intro k hk
  have hf1 := flat_le xss k
  have hf2 := flat_le xss (k + 1)
  obtain ⟨t, ht⟩ : ∃ t, t = (xss.take k).flatten := ⟨_, rfl⟩
  have htw : wfd t := by rw [ht]; exact hwf k
  have hrl := reS_len t
  rw [← ht] at hf1 ⊢
  rcases Nat.lt_or_ge k xss.length with hkl | hkl
  · have hfk := flat_take xss k hkl
    rw [← ht] at hfk
    have hlen : (xss.take (k + 1)).flatten.length = t.length + (xss.getD k []).length := by rw [hfk, List.length_append]
    obtain ⟨b, hb⟩ : ∃ b, b = xss.getD k [] := ⟨_, rfl⟩
    have hbw : wfd b := by
      rw [hb, List.getD_eq_getElem?_getD, List.getElem?_eq_getElem hkl]
      exact hw _ (List.getElem_mem hkl)
    rw [← hb] at hfk hlen
    have hap := stS_app t b
    have ew : IntKind.u64.wrap ((t.length : Int) + b.length) = ((t ++ b).length : Nat) := by rw [wrap_u64 (by omega) (by omega), List.length_append]; rfl
    ((conv=>whnf);repeat' (first|((first|(show (_=true→_)∧(_=false→_);first|refine gT ?_|refine gF ?_)|(show (_=false→_)∧(_=true→_);first|refine gU ?_|refine gV ?_));conv=>whnf)|((first|(first|refine gD ?_ ?_|refine gE ?_ ?_|refine gI ?_ ?_|refine gJ ?_ ?_|refine gK ?_ ?_|refine gL ?_ ?_|refine splitB ?_ ?_|refine splitB2 ?_ ?_)<;>intro _h|intro _h);all_goals first|contradiction|conv=>whnf)|(show _∧_;refine gA ?_;conv=>whnf)|fail))
    rw [Int.toNat_natCast, getD_map byt xss k [] default (by omega), ← hb]
    ((conv=>whnf);repeat' (first|((first|(show (_=true→_)∧(_=false→_);first|refine gT ?_|refine gF ?_)|(show (_=false→_)∧(_=true→_);first|refine gU ?_|refine gV ?_));conv=>whnf)|((first|(first|refine gD ?_ ?_|refine gE ?_ ?_|refine gI ?_ ?_|refine gJ ?_ ?_|refine gK ?_ ?_|refine gL ?_ ?_|refine splitB ?_ ?_|refine splitB2 ?_ ?_)<;>intro _h|intro _h);all_goals first|contradiction|conv=>whnf)|(show _∧_;refine gA ?_;conv=>whnf)|fail))
    refine acall [0, 1] (s_write hG (stS t) (reS t) b t.length (stS_len t) (reS_wfd htw) hbw (by omega)) rfl ⟨⟨by decide, rfl⟩, ⟨by decide, rfl⟩, trivial⟩ rfl (fun h => Bool.noConfusion h) ?_
    rintro st nx r ⟨rfl, rfl, rfl⟩
    ((conv=>whnf);repeat' (first|((first|(show (_=true→_)∧(_=false→_);first|refine gT ?_|refine gF ?_)|(show (_=false→_)∧(_=true→_);first|refine gU ?_|refine gV ?_));conv=>whnf)|((first|(first|refine gD ?_ ?_|refine gE ?_ ?_|refine gI ?_ ?_|refine gJ ?_ ?_|refine gK ?_ ?_|refine gL ?_ ?_|refine splitB ?_ ?_|refine splitB2 ?_ ?_)<;>intro _h|intro _h);all_goals first|contradiction|conv=>whnf)|(show _∧_;refine gA ?_;conv=>whnf)|fail))
    refine ⟨k + 1, [0, 2], by omega, by omega, rfl, ?_⟩
    (refine ⟨rfl, rfl, ?_, ?_⟩ <;> repeat' (first | exact True.intro | rfl | decide | (refine And.intro ?_ ?_)))
    · exact di (by rw [wrap_i64 (by omega) (by omega)]; rfl)
    · rw [hfk, hap.1, ew]; rfl
    · rw [hfk, hap.2]; rfl
  · have hk' : k = xss.length := by omega
    subst hk'
    rw [List.take_length] at ht
    ((conv=>whnf);repeat' (first|((first|(show (_=true→_)∧(_=false→_);first|refine gT ?_|refine gF ?_)|(show (_=false→_)∧(_=true→_);first|refine gU ?_|refine gV ?_));conv=>whnf)|((first|(first|refine gD ?_ ?_|refine gE ?_ ?_|refine gI ?_ ?_|refine gJ ?_ ?_|refine gK ?_ ?_|refine gL ?_ ?_|refine splitB ?_ ?_|refine splitB2 ?_ ?_)<;>intro _h|intro _h);all_goals first|contradiction|conv=>whnf)|(show _∧_;refine gA ?_;conv=>whnf)|fail))
    refine acall [0, 1] (s_sum hG (stS t) (reS t) t.length (stS_len t) (reS_wfd htw) (by omega) (by omega)) rfl ⟨⟨by decide, rfl⟩, ⟨by decide, rfl⟩, trivial⟩ rfl (fun h => Bool.noConfusion h) ?_
    rintro st nx r ⟨rfl, rfl, rfl⟩
    ((conv=>whnf);repeat' (first|((first|(show (_=true→_)∧(_=false→_);first|refine gT ?_|refine gF ?_)|(show (_=false→_)∧(_=true→_);first|refine gU ?_|refine gV ?_));conv=>whnf)|((first|(first|refine gD ?_ ?_|refine gE ?_ ?_|refine gI ?_ ?_|refine gJ ?_ ?_|refine gK ?_ ?_|refine gL ?_ ?_|refine splitB ?_ ?_|refine splitB2 ?_ ?_)<;>intro _h|intro _h);all_goals first|contradiction|conv=>whnf)|(show _∧_;refine gA ?_;conv=>whnf)|fail))
    rw [← ht, ← sum_end t]
    exact ⟨[2], [(0, .row .u8 5 ((foldS (stS t) (endP (reS t) t.length) ((endP (reS t) t.length).length / 64)).flatMap fun x => be 4 x.toNat))], .own 0, ⟨rfl, ⟨⟨by decide, rfl⟩, trivial⟩, rfl⟩, rfl, rfl, rfl⟩
end Go.Proofs.YtniaeiikdgbnfaaDoor.R
namespace Go.Proofs.YtniaeiikdgbnfaaDoor.AW
open Go Go.RowKit
set_option linter.unusedSectionVars false
set_option linter.unusedVariables false

/-- A table: its name, number, type, the type of its elements, their kind, its numbers. -/
structure Tab where
  name : String
  g : Nat
  t : TypeId
  e : TypeId
  k : IntKind
  zs : List Int

def Tab.ok (P : Program) (x : Tab) : Prop :=
  P.globalNamed x.name = some x.g ∧ (P.globals[x.g]?).map (·.type) = some x.t ∧ P.underlying x.t = some (.array x.zs.length x.e) ∧ P.underlying x.e = some (.int x.k) ∧ P.cellsOf x.e = 1 ∧ P.cellsOf x.t = x.zs.length ∧
    x.zs.all (fun z => x.k.wrap z == z) = true ∧ 0 < x.zs.length

def tabGl (tabs : List Tab) (g : Nat) : Option D := (tabs.find? (fun x => x.g == g)).map fun x => .agg (x.zs.map (D.int x.k))

def tabLaid (tabs : List Tab) : List (String × DataW Unit) := tabs.map fun x => (x.name, Lib.tabData x.k x.zs)

theorem tabs_of_vars {P : Program} {W : World} : ∀ {tabs : List Tab} {ps : List MemPlace}, (∀ x ∈ tabs, x.ok P) → DataW.LaidVars P W (tabLaid tabs) ps → ∀ x ∈ tabs, Lib.TabIs P W x.name x.k x.zs
  | [], _, _, _, x, hx => by simp at hx
  | y :: tabs, ps, hok, h, x, hx => by
    obtain ⟨g', t', cs, fuel, p, q, hg', ht', hvar, hd, hr, _⟩ := h
    rcases List.mem_cons.1 hx with rfl | hx
    · obtain ⟨h1, h2, h3, h4, h5, h6, _⟩ := hok x (List.mem_cons_self ..)
      obtain rfl := Option.some.inj (h1.symm.trans hg')
      obtain rfl := Option.some.inj (h2.symm.trans ht')
      unfold Lib.TabIs
      rw [hvar, ← Lib.cells_of_tab h3 h4 h5 h6 hd]
    · exact tabs_of_vars (fun z hz => hok z (List.mem_cons_of_mem _ hz)) hr x hx

theorem repAll_ints {W : World} {S : Nat → Prop} {k : IntKind} : ∀ {zs : List Int}, zs.all (fun z => k.wrap z == z) = true → RepAll W S (zs.map (D.int k)) (zs.map (Value.int k))
  | [], _ => rfl
  | z :: zs, h => by
    simp only [List.all_cons, Bool.and_eq_true, beq_iff_eq] at h
    simp only [List.map_cons, RepAll, Rep]
    exact ⟨[.int k z], _, rfl, ⟨rfl, h.1⟩, repAll_ints h.2⟩

theorem globOk_tabs [Globs] {P : Program} {W : World} (tabs : List Tab) (hgl : ∀ g, Globs.gl g = tabGl tabs g) (hok : ∀ x ∈ tabs, x.ok P) (h : laidMet P (tabLaid tabs) W) : GlobOk W (fun b => b < W.heap.size) := fun g d hg => by
  rw [hgl] at hg
  unfold tabGl at hg
  obtain ⟨ps, hv, _⟩ := h
  cases hf : tabs.find? (fun x => x.g == g) with
  | none => rw [hf] at hg; simp at hg
  | some x =>
    rw [hf] at hg
    simp only [Option.map_some, Option.some.injEq] at hg
    subst hg
    have hx := List.mem_of_find?_eq_some hf
    have hxg : x.g = g := by have := List.find?_some hf; simpa using this
    obtain ⟨h1, h2, h3, h4, h5, h6, h7, h8⟩ := hok x hx
    have ht := tabs_of_vars hok hv x hx
    have c : ∀ i, i < x.zs.length → W.cell? ⟨x.g, i, none⟩ = some (.int x.k (x.zs.getD i 0)) := fun i hi => ht.cell h1 i hi
    subst hxg
    refine ⟨?_, x.zs.map (Value.int x.k), ?_, ?_⟩
    · have := c 0 h8
      unfold World.cell? at this
      cases hb : W.heap[x.g]? with
      | none => simp [hb] at this
      | some o => exact (Array.getElem?_eq_some_iff.1 hb).1
    · intro i v hv
      rw [List.getElem?_map] at hv
      have hi : i < x.zs.length := by
        rcases Nat.lt_or_ge i x.zs.length with h | h
        · exact h
        · rw [List.getElem?_eq_none h] at hv; simp at hv
      have h9 := c i hi
      rw [List.getElem?_eq_getElem hi] at hv
      simp only [Option.map_some, Option.some.injEq] at hv
      rw [Nat.zero_add, h9, ← hv, List.getD_eq_getElem?_getD, List.getElem?_eq_getElem hi]
      rfl
    · simp only [Rep]
      exact repAll_ints h7
end Go.Proofs.YtniaeiikdgbnfaaDoor.AW
namespace Go.Proofs.YtniaeiikdgbnfaaDoor.R
open Go Go.RowKit Go.Proofs Go.Proofs.YtniaeiikdgbnfaaDoor.AW
set_option linter.unusedSectionVars false
variable [Globs]
set_option maxRecDepth 100000
set_option linter.unusedSimpArgs false
set_option linter.unusedVariables false
set_option maxHeartbeats 4000000

def toldNm : AW.Told := ⟨fun _ => false, fun r i => if r == 1 && i == 3 then [5] else [], fun _ => .done⟩

theorem k_name (hG : Globs.gl 4 = some ROUNDS) (hF : Globs.gl 1 = some FIRST) (m n : List Int) (n0 : Int) (rr : List Int) (h : Key m n n0 rr) :
    Imm Tryd.prog 35 [.d (keyD m n n0 rr)] (fun r => r = .d (byt (sumS (keyC m)))) := by
  obtain ⟨h1, h2, h3, hs⟩ := h.pos
  have hl := h.len
  (refine Imm.of_awp toldNm [] Tryd.func35 rfl (by decide) (Nat.le_of_ble_eq_true rfl) ?_; intro _w0 _S0 _E0 _B0; ((conv=>whnf);repeat' (first|((first|(show (_=true→_)∧(_=false→_);first|refine nTt ?_|refine nFf ?_)|(show (_=false→_)∧(_=true→_);first|refine nU ?_|refine nV ?_));conv=>whnf)|((first|(first|refine gD ?_ ?_|refine gE ?_ ?_|refine gI ?_ ?_|refine gJ ?_ ?_|refine gK ?_ ?_|refine gL ?_ ?_|refine splitB ?_ ?_|refine splitB2 ?_ ?_)<;>intro _h|intro _h);all_goals first|contradiction|conv=>whnf)|(show _∧_;refine gA ?_;conv=>whnf)|fail)))
  refine acallI (k_keyBytes m n n0 rr h) rfl fun r hr => ?_
  rw [key_eq h] at hr
  subst hr
  ((conv=>whnf);repeat' (first|((first|(show (_=true→_)∧(_=false→_);first|refine gT ?_|refine gF ?_)|(show (_=false→_)∧(_=true→_);first|refine gU ?_|refine gV ?_));conv=>whnf)|((first|(first|refine gD ?_ ?_|refine gE ?_ ?_|refine gI ?_ ?_|refine gJ ?_ ?_|refine gK ?_ ?_|refine gL ?_ ?_|refine splitB ?_ ?_|refine splitB2 ?_ ?_)<;>intro _h|intro _h);all_goals first|contradiction|conv=>whnf)|(show _∧_;refine gA ?_;conv=>whnf)|fail))
  refine acallI (s_of hG hF [keyC m] (fun x hx => by simp at hx; subst hx; exact keyC_wfd h.wf) (by simp [keyC_len]; omega) (by simp)) rfl fun r hr => ?_
  subst hr
  ((conv=>whnf);repeat' (first|((first|(show (_=true→_)∧(_=false→_);first|refine gT ?_|refine gF ?_)|(show (_=false→_)∧(_=true→_);first|refine gU ?_|refine gV ?_));conv=>whnf)|((first|(first|refine gD ?_ ?_|refine gE ?_ ?_|refine gI ?_ ?_|refine gJ ?_ ?_|refine gK ?_ ?_|refine gL ?_ ?_|refine splitB ?_ ?_|refine splitB2 ?_ ?_)<;>intro _h|intro _h);all_goals first|contradiction|conv=>whnf)|(show _∧_;refine gA ?_;conv=>whnf)|fail))
  refine Ends.imm rfl ?_
  rw [List.flatten_cons, List.flatten_nil, List.append_nil]

theorem k_nameO (hG : Globs.gl 4 = some ROUNDS) (hF : Globs.gl 1 = some FIRST) (m n : List Int) (n0 : Int) (rr : List Int) (h : Key m n n0 rr) :
    CSpec Tryd.prog 35 [.d (keyD m n n0 rr)] [] 0 (fun st nx r => st = [(0, .row .u8 5 (sumS (keyC m)))] ∧ nx = 1 ∧ r = .own 0) := by
  obtain ⟨h1, h2, h3, hs⟩ := h.pos
  have hl := h.len
  refine CSpec.ends (CSpec.of_awp toldNm [] Tryd.func35 rfl (by decide) (Nat.le_of_ble_eq_true rfl) fun _w0 _S0 _E0 _B0 => ?_)
  ((conv=>whnf);repeat' (first|((first|(show (_=true→_)∧(_=false→_);first|refine nTt ?_|refine nFf ?_)|(show (_=false→_)∧(_=true→_);first|refine nU ?_|refine nV ?_));conv=>whnf)|((first|(first|refine gD ?_ ?_|refine gE ?_ ?_|refine gI ?_ ?_|refine gJ ?_ ?_|refine gK ?_ ?_|refine gL ?_ ?_|refine splitB ?_ ?_|refine splitB2 ?_ ?_)<;>intro _h|intro _h);all_goals first|contradiction|conv=>whnf)|(show _∧_;refine gA ?_;conv=>whnf)|fail))
  refine acallI (k_keyBytes m n n0 rr h) rfl fun r hr => ?_
  rw [key_eq h] at hr
  subst hr
  ((conv=>whnf);repeat' (first|((first|(show (_=true→_)∧(_=false→_);first|refine gT ?_|refine gF ?_)|(show (_=false→_)∧(_=true→_);first|refine gU ?_|refine gV ?_));conv=>whnf)|((first|(first|refine gD ?_ ?_|refine gE ?_ ?_|refine gI ?_ ?_|refine gJ ?_ ?_|refine gK ?_ ?_|refine gL ?_ ?_|refine splitB ?_ ?_|refine splitB2 ?_ ?_)<;>intro _h|intro _h);all_goals first|contradiction|conv=>whnf)|(show _∧_;refine gA ?_;conv=>whnf)|fail))
  refine acall [] (s_ofO hG hF [keyC m] (fun x hx => by simp at hx; subst hx; exact keyC_wfd h.wf) (by simp [keyC_len]; omega) (by simp)) rfl (by simp [stIn]) rfl (fun _ => rfl) ?_
  rintro st nx r ⟨rfl, rfl, rfl⟩
  ((conv=>whnf);repeat' (first|((first|(show (_=true→_)∧(_=false→_);first|refine gT ?_|refine gF ?_)|(show (_=false→_)∧(_=true→_);first|refine gU ?_|refine gV ?_));conv=>whnf)|((first|(first|refine gD ?_ ?_|refine gE ?_ ?_|refine gI ?_ ?_|refine gJ ?_ ?_|refine gK ?_ ?_|refine gL ?_ ?_|refine splitB ?_ ?_|refine splitB2 ?_ ?_)<;>intro _h|intro _h);all_goals first|contradiction|conv=>whnf)|(show _∧_;refine gA ?_;conv=>whnf)|fail))
  refine ⟨[1], [(0, .row .u8 5 (sumS (keyC m)))], .own 0, ⟨rfl, ⟨⟨by decide, ?_⟩, trivial⟩, rfl⟩, rfl, rfl, rfl⟩
  rw [List.flatten_cons, List.flatten_nil, List.append_nil]
  rfl

theorem k_refName (m : List Int) (hm : wfd m) (hl : 4 ≤ m.length ∧ m.length ≤ 600) (h0 : 0 < bn m) : Imm Tryd.prog 36 [.d (byt m)] (fun r => r = .d (byt (sumS (keyC m)))) := by
  (refine Imm.of_awp told0 [] Tryd.func36 rfl (by decide) (Nat.le_of_ble_eq_true rfl) ?_; intro _w0 _S0 _E0 _B0; ((conv=>whnf);repeat' (first|((first|(show (_=true→_)∧(_=false→_);first|refine nTt ?_|refine nFf ?_)|(show (_=false→_)∧(_=true→_);first|refine nU ?_|refine nV ?_));conv=>whnf)|((first|(first|refine gD ?_ ?_|refine gE ?_ ?_|refine gI ?_ ?_|refine gJ ?_ ?_|refine gK ?_ ?_|refine gL ?_ ?_|refine splitB ?_ ?_|refine splitB2 ?_ ?_)<;>intro _h|intro _h);all_goals first|contradiction|conv=>whnf)|(show _∧_;refine gA ?_;conv=>whnf)|fail)))
  refine acallI (k_refBytes m hm hl h0) rfl fun r hr => ?_
  subst hr
  ((conv=>whnf);repeat' (first|((first|(show (_=true→_)∧(_=false→_);first|refine gT ?_|refine gF ?_)|(show (_=false→_)∧(_=true→_);first|refine gU ?_|refine gV ?_));conv=>whnf)|((first|(first|refine gD ?_ ?_|refine gE ?_ ?_|refine gI ?_ ?_|refine gJ ?_ ?_|refine gK ?_ ?_|refine gL ?_ ?_|refine splitB ?_ ?_|refine splitB2 ?_ ?_)<;>intro _h|intro _h);all_goals first|contradiction|conv=>whnf)|(show _∧_;refine gA ?_;conv=>whnf)|fail))
  refine acallI (s_refSum (keyC m) (keyC_wfd hm) (by rw [keyC_len]; omega)) rfl fun r hr => ?_
  subst hr
  ((conv=>whnf);repeat' (first|((first|(show (_=true→_)∧(_=false→_);first|refine gT ?_|refine gF ?_)|(show (_=false→_)∧(_=true→_);first|refine gU ?_|refine gV ?_));conv=>whnf)|((first|(first|refine gD ?_ ?_|refine gE ?_ ?_|refine gI ?_ ?_|refine gJ ?_ ?_|refine gK ?_ ?_|refine gL ?_ ?_|refine splitB ?_ ?_|refine splitB2 ?_ ?_)<;>intro _h|intro _h);all_goals first|contradiction|conv=>whnf)|(show _∧_;refine gA ?_;conv=>whnf)|fail))
  exact Ends.imm rfl rfl

def toldLKM : AW.Told := ⟨fun _ => false, fun _ _ => [], fun r => if r == 11 then .take 0 (.take 3 (.one 1 (.take 2 (.one 4 (.take 5 (.take 6 (.take 7 (.take 8 (.take 10 (.take 11 (.one 9 (.take 12 (.take 13 (.take 14 (.take 15 (.take 18 (.take 19 (.one 16 (.take 17 (.take 20 (.take 21 (.take 22 (.take 23 (.take 26 (.one 24 (.take 25 (.one 27 (.take 28 (.take 29 (.take 30 (.take 31 .done))))))))))))))))))))))))))))))) else .done⟩

theorem l_keyMakes (hE : Globs.gl 0 = some EXP) (hG : Globs.gl 4 = some ROUNDS) (hF : Globs.gl 1 = some FIRST) (m : List Int) (hm : wfd m) (hml : m.length ≤ LIM) :
    Imm Tryd.prog 8 [.d (byt m)] (fun r => r = bool true) := by
  (refine Imm.of_awp toldLKM [] Tryd.func8 rfl (by decide) (Nat.le_of_ble_eq_true rfl) ?_; intro _w0 _S0 _E0 _B0; ((conv=>whnf);repeat' (first|((first|(show (_=true→_)∧(_=false→_);first|refine nTt ?_|refine nFf ?_)|(show (_=false→_)∧(_=true→_);first|refine nU ?_|refine nV ?_));conv=>whnf)|((first|(first|refine gD ?_ ?_|refine gE ?_ ?_|refine gI ?_ ?_|refine gJ ?_ ?_|refine gK ?_ ?_|refine gL ?_ ?_|refine splitB ?_ ?_|refine splitB2 ?_ ?_)<;>intro _h|intro _h);all_goals first|contradiction|conv=>whnf)|(show _∧_;refine gA ?_;conv=>whnf)|fail)))
  refine acallI (k_anchor hE) rfl fun r hr => ?_
  subst hr
  ((conv=>whnf);repeat' (first|((first|(show (_=true→_)∧(_=false→_);first|refine gT ?_|refine gF ?_)|(show (_=false→_)∧(_=true→_);first|refine gU ?_|refine gV ?_));conv=>whnf)|((first|(first|refine gD ?_ ?_|refine gE ?_ ?_|refine gI ?_ ?_|refine gJ ?_ ?_|refine gK ?_ ?_|refine gL ?_ ?_|refine splitB ?_ ?_|refine splitB2 ?_ ?_)<;>intro _h|intro _h);all_goals first|contradiction|conv=>whnf)|(show _∧_;refine gA ?_;conv=>whnf)|fail))
  all_goals first
    | exact Ends.imm rfl rfl
    | skip
  · refine acallI (k_make m hm hml) rfl fun r hr => ?_
    by_cases hn : notMod m = 0
    · rw [if_neg (by simp [hn])] at hr
      obtain ⟨n, n0, rr, rfl, hk⟩ := hr
      obtain ⟨h1, h2, h3, hsz⟩ := hk.pos
      have hl4 := hk.len
      exfalso
      omega
    · rw [if_pos (by simp [hn])] at hr
      subst hr
      ((conv=>whnf);repeat' (first|((first|(show (_=true→_)∧(_=false→_);first|refine gT ?_|refine gF ?_)|(show (_=false→_)∧(_=true→_);first|refine gU ?_|refine gV ?_));conv=>whnf)|((first|(first|refine gD ?_ ?_|refine gE ?_ ?_|refine gI ?_ ?_|refine gJ ?_ ?_|refine gK ?_ ?_|refine gL ?_ ?_|refine splitB ?_ ?_|refine splitB2 ?_ ?_)<;>intro _h|intro _h);all_goals first|contradiction|conv=>whnf)|(show _∧_;refine gA ?_;conv=>whnf)|fail))
      refine acallI (k_right m hm hml) rfl fun r hr => ?_
      subst hr
      ((conv=>whnf);repeat' (first|((first|(show (_=true→_)∧(_=false→_);first|refine gT ?_|refine gF ?_)|(show (_=false→_)∧(_=true→_);first|refine gU ?_|refine gV ?_));conv=>whnf)|((first|(first|refine gD ?_ ?_|refine gE ?_ ?_|refine gI ?_ ?_|refine gJ ?_ ?_|refine gK ?_ ?_|refine gL ?_ ?_|refine splitB ?_ ?_|refine splitB2 ?_ ?_)<;>intro _h|intro _h);all_goals first|contradiction|conv=>whnf)|(show _∧_;refine gA ?_;conv=>whnf)|fail))
      exact Ends.imm rfl (by simp)
  · refine acallI (k_make m hm hml) rfl fun r hr => ?_
    by_cases hn : notMod m = 0
    · rw [if_neg (by simp [hn])] at hr
      obtain ⟨n, n0, rr, rfl, hk⟩ := hr
      obtain ⟨h1, h2, h3, hsz⟩ := hk.pos
      have hl4 := hk.len
      have hbn : 0 < bn m := by omega
      ((conv=>whnf);repeat' (first|((first|(show (_=true→_)∧(_=false→_);first|refine gT ?_|refine gF ?_)|(show (_=false→_)∧(_=true→_);first|refine gU ?_|refine gV ?_));conv=>whnf)|((first|(first|refine gD ?_ ?_|refine gE ?_ ?_|refine gI ?_ ?_|refine gJ ?_ ?_|refine gK ?_ ?_|refine gL ?_ ?_|refine splitB ?_ ?_|refine splitB2 ?_ ?_)<;>intro _h|intro _h);all_goals first|contradiction|conv=>whnf)|(show _∧_;refine gA ?_;conv=>whnf)|fail))
      refine acallI (k_right m hm hml) rfl fun r hr => ?_
      rw [hn] at hr
      subst hr
      ((conv=>whnf);repeat' (first|((first|(show (_=true→_)∧(_=false→_);first|refine gT ?_|refine gF ?_)|(show (_=false→_)∧(_=true→_);first|refine gU ?_|refine gV ?_));conv=>whnf)|((first|(first|refine gD ?_ ?_|refine gE ?_ ?_|refine gI ?_ ?_|refine gJ ?_ ?_|refine gK ?_ ?_|refine gL ?_ ?_|refine splitB ?_ ?_|refine splitB2 ?_ ?_)<;>intro _h|intro _h);all_goals first|contradiction|conv=>whnf)|(show _∧_;refine gA ?_;conv=>whnf)|fail))
      refine acallI (k_keyBytes m n n0 rr hk) rfl fun r hr => ?_
      rw [key_eq hk] at hr
      subst hr
      ((conv=>whnf);repeat' (first|((first|(show (_=true→_)∧(_=false→_);first|refine gT ?_|refine gF ?_)|(show (_=false→_)∧(_=true→_);first|refine gU ?_|refine gV ?_));conv=>whnf)|((first|(first|refine gD ?_ ?_|refine gE ?_ ?_|refine gI ?_ ?_|refine gJ ?_ ?_|refine gK ?_ ?_|refine gL ?_ ?_|refine splitB ?_ ?_|refine splitB2 ?_ ?_)<;>intro _h|intro _h);all_goals first|contradiction|conv=>whnf)|(show _∧_;refine gA ?_;conv=>whnf)|fail))
      refine acallI (k_refBytes m hm (by omega) hbn) rfl fun r hr => ?_
      subst hr
      ((conv=>whnf);repeat' (first|((first|(show (_=true→_)∧(_=false→_);first|refine gT ?_|refine gF ?_)|(show (_=false→_)∧(_=true→_);first|refine gU ?_|refine gV ?_));conv=>whnf)|((first|(first|refine gD ?_ ?_|refine gE ?_ ?_|refine gI ?_ ?_|refine gJ ?_ ?_|refine gK ?_ ?_|refine gL ?_ ?_|refine splitB ?_ ?_|refine splitB2 ?_ ?_)<;>intro _h|intro _h);all_goals first|contradiction|conv=>whnf)|(show _∧_;refine gA ?_;conv=>whnf)|fail))
      refine acallI (k_size m n n0 rr) rfl fun r hr => ?_
      subst hr
      ((conv=>whnf);repeat' (first|((first|(show (_=true→_)∧(_=false→_);first|refine gT ?_|refine gF ?_)|(show (_=false→_)∧(_=true→_);first|refine gU ?_|refine gV ?_));conv=>whnf)|((first|(first|refine gD ?_ ?_|refine gE ?_ ?_|refine gI ?_ ?_|refine gJ ?_ ?_|refine gK ?_ ?_|refine gL ?_ ?_|refine splitB ?_ ?_|refine splitB2 ?_ ?_)<;>intro _h|intro _h);all_goals first|contradiction|conv=>whnf)|(show _∧_;refine gA ?_;conv=>whnf)|fail))
      refine acallI (k_modOf m n n0 rr hk) rfl fun r hr => ?_
      subst hr
      ((conv=>whnf);repeat' (first|((first|(show (_=true→_)∧(_=false→_);first|refine gT ?_|refine gF ?_)|(show (_=false→_)∧(_=true→_);first|refine gU ?_|refine gV ?_));conv=>whnf)|((first|(first|refine gD ?_ ?_|refine gE ?_ ?_|refine gI ?_ ?_|refine gJ ?_ ?_|refine gK ?_ ?_|refine gL ?_ ?_|refine splitB ?_ ?_|refine splitB2 ?_ ?_)<;>intro _h|intro _h);all_goals first|contradiction|conv=>whnf)|(show _∧_;refine gA ?_;conv=>whnf)|fail))
      refine acallI (k_name hG hF m n n0 rr hk) rfl fun r hr => ?_
      subst hr
      ((conv=>whnf);repeat' (first|((first|(show (_=true→_)∧(_=false→_);first|refine gT ?_|refine gF ?_)|(show (_=false→_)∧(_=true→_);first|refine gU ?_|refine gV ?_));conv=>whnf)|((first|(first|refine gD ?_ ?_|refine gE ?_ ?_|refine gI ?_ ?_|refine gJ ?_ ?_|refine gK ?_ ?_|refine gL ?_ ?_|refine splitB ?_ ?_|refine splitB2 ?_ ?_)<;>intro _h|intro _h);all_goals first|contradiction|conv=>whnf)|(show _∧_;refine gA ?_;conv=>whnf)|fail))
      refine acallI (k_refName m hm (by omega) hbn) rfl fun r hr => ?_
      subst hr
      ((conv=>whnf);repeat' (first|((first|(show (_=true→_)∧(_=false→_);first|refine gT ?_|refine gF ?_)|(show (_=false→_)∧(_=true→_);first|refine gU ?_|refine gV ?_));conv=>whnf)|((first|(first|refine gD ?_ ?_|refine gE ?_ ?_|refine gI ?_ ?_|refine gJ ?_ ?_|refine gK ?_ ?_|refine gL ?_ ?_|refine splitB ?_ ?_|refine splitB2 ?_ ?_)<;>intro _h|intro _h);all_goals first|contradiction|conv=>whnf)|(show _∧_;refine gA ?_;conv=>whnf)|fail))
      exact Ends.imm rfl (by simp)
    · rw [if_pos (by simp [hn])] at hr
      subst hr
      ((conv=>whnf);repeat' (first|((first|(show (_=true→_)∧(_=false→_);first|refine gT ?_|refine gF ?_)|(show (_=false→_)∧(_=true→_);first|refine gU ?_|refine gV ?_));conv=>whnf)|((first|(first|refine gD ?_ ?_|refine gE ?_ ?_|refine gI ?_ ?_|refine gJ ?_ ?_|refine gK ?_ ?_|refine gL ?_ ?_|refine splitB ?_ ?_|refine splitB2 ?_ ?_)<;>intro _h|intro _h);all_goals first|contradiction|conv=>whnf)|(show _∧_;refine gA ?_;conv=>whnf)|fail))
      refine acallI (k_right m hm hml) rfl fun r hr => ?_
      subst hr
      ((conv=>whnf);repeat' (first|((first|(show (_=true→_)∧(_=false→_);first|refine gT ?_|refine gF ?_)|(show (_=false→_)∧(_=true→_);first|refine gU ?_|refine gV ?_));conv=>whnf)|((first|(first|refine gD ?_ ?_|refine gE ?_ ?_|refine gI ?_ ?_|refine gJ ?_ ?_|refine gK ?_ ?_|refine gL ?_ ?_|refine splitB ?_ ?_|refine splitB2 ?_ ?_)<;>intro _h|intro _h);all_goals first|contradiction|conv=>whnf)|(show _∧_;refine gA ?_;conv=>whnf)|fail))
      exact Ends.imm rfl (by simp)
end Go.Proofs.YtniaeiikdgbnfaaDoor.R
