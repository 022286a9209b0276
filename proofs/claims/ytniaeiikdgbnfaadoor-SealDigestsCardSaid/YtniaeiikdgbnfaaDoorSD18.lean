/- Parts B5, B7, B8, B9, B10, B11. No condition of its own. -/
import Derived.Test.YtniaeiikdgbnfaaDoorSD17
import Derived.Test.YtniaeiikdgbnfaaDoorSD11
import Derived.Test.YtniaeiikdgbnfaaDoorSD6
import Derived.Test.YtniaeiikdgbnfaaDoorSD14

namespace Go.Proofs.YtniaeiikdgbnfaaDoor.R
open Go Go.RowKit Go.Proofs Go.Proofs.YtniaeiikdgbnfaaDoor.AW
set_option linter.unusedSectionVars false
variable [Globs]
set_option maxRecDepth 100000
set_option linter.unusedSimpArgs false
set_option linter.unusedVariables false
set_option maxHeartbeats 4000000

theorem b_signN (hT : Tabs4) (m secret : List Int) (alg : Int) (hm : wfd m) (hml : m.length ≤ LIM) (hs : wfd secret) :
    Imm Tryd.prog 44 [.d (byt m), .d (byt secret), i64 alg, .nls (byt [])] (fun r => r = sgnV m secret alg []) :=
  CSpec.args (b_sign hT m secret alg [] hm hml hs (fun x hx => by simp at hx) (by simp)) fun w β S vs h => by
    simp only [VAll] at h ⊢
    obtain ⟨v1, r1, e1, h1, v2, r2, e2, h2, v3, r3, e3, h3, v4, r4, e4, h4, h5⟩ := h
    exact ⟨v1, r1, e1, h1, v2, r2, e2, h2, v3, r3, e3, h3, v4, r4, e4, nls_d h4, h5⟩

def toldAn7 : AW.Told := ⟨fun f => f == 1001001 || f == 1001003 || f == 1001005 || f == 1003006 || f == 2000000, fun r i => if r == 1 && i == 7 then [12] else [], fun r => if r == 3 then .take 0 (.take 1 (.take 2 (.take 3 (.two 4 (.one 5 (.one 6 (.one 7 (.take 8 (.take 9 (.take 10 (.take 11 (.take 12 (.take 13 (.take 14 (.take 15 (.one 16 (.take 17 (.take 18 (.take 19 .done))))))))))))))) 5 (.two 4 (.one 6 (.one 7 (.take 8 (.take 9 (.take 10 (.take 11 (.take 12 (.take 13 (.take 14 (.take 15 (.one 16 (.take 17 (.take 18 (.take 19 .done)))))))))))))) 6 (.take 4 (.one 7 (.take 8 (.take 9 (.take 10 (.take 11 (.take 12 (.take 13 (.take 14 (.take 15 (.one 16 (.take 17 (.take 18 (.take 19 .done))))))))))))))))))) else .done⟩

theorem b_anchor (hT : Tabs4) : Imm Tryd.prog 37 [] (fun r => r = bool true) := by
  obtain ⟨dg, hdg⟩ : ∃ dg, dg = digS 1 [97, 98, 99] := ⟨_, rfl⟩
  have hd1 := b_digest hT 1 [97] [[98], [99]] (fun x hx => by simp at hx; omega) (by simp; unfold LIM; omega) (fun x hx => by simp at hx; rcases hx with rfl | rfl <;> (intro y hy; simp at hy; omega)) (by simp) (by simp)
  have hv1 : digV 1 [97] [[98], [99]].flatten = .tup [.d (byt dg), i64 0] := by rw [hdg]; rfl
  rw [hv1] at hd1
  have hd2 := b_refDigestN 1 [97, 98, 99] (.inl rfl) (fun x hx => by simp at hx; omega) (by simp)
  rw [← hdg] at hd2
  (refine Imm.of_awp toldAn7 [] Tryd.func37 rfl (by decide) (Nat.le_of_ble_eq_true rfl) ?_; intro _w0 _S0 _E0 _B0; ((conv=>whnf);repeat'((first|(show(_=true→_)∧(_=false→_);first|refine nTt ?_|refine nFf ?_|refine gS ?_ ?_<;>(intro _h;try contradiction))|(show(_=false→_)∧(_=true→_);first|refine nU ?_|refine nV ?_|refine gZ ?_ ?_<;>(intro _h;try contradiction))|(intro _h;try contradiction)|(show _∧_;refine gA ?_)|fail);all_goals conv=>whnf)))
  refine ao_convB rfl rfl rfl rfl rfl rfl (Nat.zero_le _) (by decide) (fun h => Bool.noConfusion h) ?_
  ((conv=>whnf);repeat'((first|(show(_=true→_)∧(_=false→_);first|refine gT ?_|refine gF ?_|refine gS ?_ ?_<;>(intro _h;try contradiction))|(show(_=false→_)∧(_=true→_);first|refine gU ?_|refine gV ?_|refine gZ ?_ ?_<;>(intro _h;try contradiction))|(intro _h;try contradiction)|(show _∧_;refine gA ?_)|fail);all_goals conv=>whnf))
  refine ao_convB rfl rfl rfl rfl rfl rfl (Nat.zero_le _) (by decide) (fun h => Bool.noConfusion h) ?_
  ((conv=>whnf);repeat'((first|(show(_=true→_)∧(_=false→_);first|refine gT ?_|refine gF ?_|refine gS ?_ ?_<;>(intro _h;try contradiction))|(show(_=false→_)∧(_=true→_);first|refine gU ?_|refine gV ?_|refine gZ ?_ ?_<;>(intro _h;try contradiction))|(intro _h;try contradiction)|(show _∧_;refine gA ?_)|fail);all_goals conv=>whnf))
  refine ao_convB rfl rfl rfl rfl rfl rfl (Nat.zero_le _) (by decide) (fun h => Bool.noConfusion h) ?_
  ((conv=>whnf);repeat'((first|(show(_=true→_)∧(_=false→_);first|refine gT ?_|refine gF ?_|refine gS ?_ ?_<;>(intro _h;try contradiction))|(show(_=false→_)∧(_=true→_);first|refine gU ?_|refine gV ?_|refine gZ ?_ ?_<;>(intro _h;try contradiction))|(intro _h;try contradiction)|(show _∧_;refine gA ?_)|fail);all_goals conv=>whnf))
  refine acallI hd1 rfl fun r hr => ?_
  subst hr
  ((conv=>whnf);repeat'((first|(show(_=true→_)∧(_=false→_);first|refine gT ?_|refine gF ?_|refine gS ?_ ?_<;>(intro _h;try contradiction))|(show(_=false→_)∧(_=true→_);first|refine gU ?_|refine gV ?_|refine gZ ?_ ?_<;>(intro _h;try contradiction))|(intro _h;try contradiction)|(show _∧_;refine gA ?_)|fail);all_goals conv=>whnf))
  refine acallI (k_modulus 0) rfl fun r hr => ?_
  subst hr
  ((conv=>whnf);repeat'((first|(show(_=true→_)∧(_=false→_);first|refine gT ?_|refine gF ?_|refine gS ?_ ?_<;>(intro _h;try contradiction))|(show(_=false→_)∧(_=true→_);first|refine gU ?_|refine gV ?_|refine gZ ?_ ?_<;>(intro _h;try contradiction))|(intro _h;try contradiction)|(show _∧_;refine gA ?_)|fail);all_goals conv=>whnf))
  refine acallI (k_secret 0) rfl fun r hr => ?_
  subst hr
  obtain ⟨m, hm⟩ : ∃ m, m = modB (idx 0) := ⟨_, rfl⟩
  obtain ⟨sc, hsc⟩ : ∃ sc, sc = secB (idx 0) := ⟨_, rfl⟩
  have hsg : sgnV m sc 2 [] = .tup [.nls (byt []), i64 21] := by
    have e : idx 0 = 0 := rfl
    have hn : notMod m = 0 := by rw [hm, e]; decide +kernel
    have hl : m.length = 64 := by rw [hm, e]; decide +kernel
    unfold sgnV
    rw [if_neg (by decide), if_neg (by simp [hn]), if_pos (by rw [hl]; decide)]
  have hb := b_signN hT m sc 2 (by rw [hm]; exact be_wfd _ _) (by rw [hm]; unfold modB; rw [be_length]; decide) (by rw [hsc]; exact be_wfd _ _)
  rw [hsg] at hb
  rw [← hm, ← hsc]
  ((conv=>whnf);repeat'((first|(show(_=true→_)∧(_=false→_);first|refine gT ?_|refine gF ?_|refine gS ?_ ?_<;>(intro _h;try contradiction))|(show(_=false→_)∧(_=true→_);first|refine gU ?_|refine gV ?_|refine gZ ?_ ?_<;>(intro _h;try contradiction))|(intro _h;try contradiction)|(show _∧_;refine gA ?_)|fail);all_goals conv=>whnf))
  refine acallI hb rfl fun r hr => ?_
  subst hr
  ((conv=>whnf);repeat'((first|(show(_=true→_)∧(_=false→_);first|refine gT ?_|refine gF ?_|refine gS ?_ ?_<;>(intro _h;try contradiction))|(show(_=false→_)∧(_=true→_);first|refine gU ?_|refine gV ?_|refine gZ ?_ ?_<;>(intro _h;try contradiction))|(intro _h;try contradiction)|(show _∧_;refine gA ?_)|fail);all_goals conv=>whnf))
  repeat' (first
    | (refine ao_convB rfl rfl rfl rfl rfl rfl (Nat.zero_le _) (by decide) (fun h => Bool.noConfusion h) ?_; ((conv=>whnf);repeat'((first|(show(_=true→_)∧(_=false→_);first|refine gT ?_|refine gF ?_|refine gS ?_ ?_<;>(intro _h;try contradiction))|(show(_=false→_)∧(_=true→_);first|refine gU ?_|refine gV ?_|refine gZ ?_ ?_<;>(intro _h;try contradiction))|(intro _h;try contradiction)|(show _∧_;refine gA ?_)|fail);all_goals conv=>whnf)))
    | (refine acallI hd2 rfl fun r hr => ?_; subst hr; ((conv=>whnf);repeat'((first|(show(_=true→_)∧(_=false→_);first|refine gT ?_|refine gF ?_|refine gS ?_ ?_<;>(intro _h;try contradiction))|(show(_=false→_)∧(_=true→_);first|refine gU ?_|refine gV ?_|refine gZ ?_ ?_<;>(intro _h;try contradiction))|(intro _h;try contradiction)|(show _∧_;refine gA ?_)|fail);all_goals conv=>whnf)))
    | (refine acallI (b_size 2) rfl fun r hr => ?_; subst hr; ((conv=>whnf);repeat'((first|(show(_=true→_)∧(_=false→_);first|refine gT ?_|refine gF ?_|refine gS ?_ ?_<;>(intro _h;try contradiction))|(show(_=false→_)∧(_=true→_);first|refine gU ?_|refine gV ?_|refine gZ ?_ ?_<;>(intro _h;try contradiction))|(intro _h;try contradiction)|(show _∧_;refine gA ?_)|fail);all_goals conv=>whnf)))
    | (refine And.intro ?_ ?_ <;> ((conv=>whnf);repeat'((first|(show(_=true→_)∧(_=false→_);first|refine gT ?_|refine gF ?_|refine gS ?_ ?_<;>(intro _h;try contradiction))|(show(_=false→_)∧(_=true→_);first|refine gU ?_|refine gV ?_|refine gZ ?_ ?_<;>(intro _h;try contradiction))|(intro _h;try contradiction)|(show _∧_;refine gA ?_)|fail);all_goals conv=>whnf))))
  all_goals exact Ends.imm rfl rfl

theorem keyM_ge (k : Nat) (hk : k ≤ 3) : 256 ^ (keyL k - 1) ≤ keyM k := by
  have : ∀ k : Fin 4, 256 ^ (keyL k.val - 1) ≤ keyM k.val := by decide +kernel
  exact this ⟨k, by omega⟩
theorem keyL_small (k : Nat) (hk : k ≤ 2) : keyL k = 64 ∨ keyL k = 128 := by
  have : ∀ k : Fin 3, keyL k.val = 64 ∨ keyL k.val = 128 := by decide
  exact this ⟨k, by omega⟩

/-- The text's block, of the key's size. -/
def tB (k : Nat) (alg : Int) (t : List Int) : List Int := blockB alg (digS alg t) (keyL k)
theorem tB_wfd (k : Nat) (alg : Int) (t : List Int) : wfd (tB k alg t) := blockB_wfd (digS_wfd _ _)
theorem tB_len {k : Nat} {alg : Int} {t : List Int} (h0 : alg = 1 ∨ alg = 2) (h : 30 + sizeS alg ≤ keyL k) : (tB k alg t).length = keyL k := blockB_len (by rw [digS_len _ _ h0]; omega)
theorem tB_lt {k : Nat} (hk : k ≤ 2) {alg : Int} {t : List Int} (h0 : alg = 1 ∨ alg = 2) (h : 30 + sizeS alg ≤ keyL k) : bn (tB k alg t) < (keyM k : Nat) := by
  have hl := tB_len (t := t) h0 h
  obtain ⟨r, hr⟩ : ∃ r, tB k alg t = 0 :: r := by
    unfold tB blockB
    exact ⟨_, rfl⟩
  have hw : wfd r := by
    have := tB_wfd k alg t
    rw [hr] at this
    exact this.cons.2
  have hb := bn_lt hw
  have hrl : r.length = keyL k - 1 := by rw [hr] at hl; simp at hl; omega
  have hM := keyM_ge k (by omega)
  rw [hr, bn_cons, Int.zero_mul, Int.zero_add]
  rw [hrl] at hb
  have : ((256 ^ (keyL k - 1) : Nat) : Int) ≤ (keyM k : Nat) := by exact_mod_cast hM
  omega

theorem mB_bn (k : Nat) (hk : k ≤ 2) : bn (modB k) = (keyM k : Nat) := mod_bn k (by omega)

theorem openB_sig (k : Nat) (hk : k ≤ 2) {b : List Int} (hb : wfd b) (hl : b.length = keyL k) (hlt : bn b < (keyM k : Nat)) : openB (modB k) (sigB k b) = some b := by
  have h := open_sig k hk hb hl hlt
  rcases openB_powV (modB k) (sigB k b) with ⟨e, he, h1, _⟩ | ⟨zs, h1, h2⟩
  · rw [h] at h1
    injection h1 with h1
    injection h1 with h1 _
    cases h1
  · rw [h] at h1
    injection h1 with h1
    injection h1 with h1 _
    injection h1 with h1
    injection h1 with _ h1
    rw [h2, h1]

theorem bn_pw (k : Nat) (hk : k ≤ 2) (n E : Nat) : bn (be (keyL k) (n ^ E % keyM k)) = ((n ^ E % keyM k : Nat) : Int) := by
  have hM := keyM_lt k (by omega)
  exact bn_be (Nat.lt_trans (Nat.mod_lt _ (Nat.lt_trans Nat.zero_lt_one hM.2)) hM.1)
theorem pw_pw (n E S M : Nat) : (n ^ E % M) ^ S % M = n ^ (S * E) % M := by rw [← Nat.pow_mod, ← Nat.pow_mul, Nat.mul_comm]
/-- What opens to a block is its signature. -/
theorem open_back (k : Nat) (hk : k ≤ 2) {x b : List Int} (hx : wfd x) (h : openB (modB k) x = some b) : x = sigB k b := by
  unfold openB at h
  split at h
  · rename_i hc
    obtain ⟨hl, hlt⟩ := hc
    rw [modB_len] at hl
    rw [mB_bn k hk] at hlt
    injection h with h
    obtain ⟨n, hn⟩ : ∃ n : Nat, bn x = n := ⟨(bn x).toNat, by have := bn_nonneg hx; omega⟩
    have hM := keyM_lt k (by omega)
    rw [hn] at hlt
    have hnM : n < keyM k := by omega
    rw [modB_len, mB_bn k hk, hn] at h
    have e1 : ∀ E : Nat, ((n : Int) ^ E % (keyM k : Nat)).toNat = n ^ E % keyM k := fun E => by
      rw [← Int.natCast_pow, ← Int.natCast_emod, Int.toNat_natCast]
    rw [e1] at h
    have e2 : bn b = ((n ^ 65537 % keyM k : Nat) : Int) := by
      rw [← h]
      exact bn_pw k hk n 65537
    have e3 : (n ^ 65537 % keyM k) ^ keyS k % keyM k = n := by
      exact (pw_pw n 65537 (keyS k) (keyM k)).trans ((undo k hk n).trans (Nat.mod_eq_of_lt hnM))
    unfold sigB
    rw [e2, Int.toNat_natCast, e3]
    have := be_bn hx
    rw [hn, Int.toNat_natCast, hl] at this
    exact this.symm
  · cases h

theorem ver_eq (k : Nat) (hk : k ≤ 2) (alg : Int) (t x : List Int) (h0 : alg = 1 ∨ alg = 2) (h : 30 + sizeS alg ≤ keyL k) : verV (modB k) alg t x = if openB (modB k) x = some (tB k alg t) then 0 else 23 := by
  unfold verV tB
  have hs := sizeS_pos.2 h0
  have hl := keyL_small k hk
  rw [if_neg hs, modB_len, if_neg (by omega)]
theorem ver_good (k : Nat) (hk : k ≤ 2) (alg : Int) (t : List Int) (h0 : alg = 1 ∨ alg = 2) (h : 30 + sizeS alg ≤ keyL k) : verV (modB k) alg t (sigB k (tB k alg t)) = 0 := by
  rw [ver_eq k hk alg t _ h0 h, openB_sig k hk (tB_wfd _ _ _) (tB_len h0 h) (tB_lt hk h0 h), if_pos rfl]
theorem ver_bad (k : Nat) (hk : k ≤ 2) (alg : Int) (t x : List Int) (h0 : alg = 1 ∨ alg = 2) (h : 30 + sizeS alg ≤ keyL k) (hx : wfd x) (hne : x ≠ sigB k (tB k alg t)) : verV (modB k) alg t x = 23 := by
  rw [ver_eq k hk alg t _ h0 h, if_neg fun e => hne (open_back k hk hx e)]
theorem sgn_eq (k : Nat) (hk : k ≤ 2) (alg : Int) (t : List Int) (h0 : alg = 1 ∨ alg = 2) (h : 30 + sizeS alg ≤ keyL k) : sgnV (modB k) (secB k) alg t = .tup [.d (byt (sigB k (tB k alg t))), i64 0] := by
  unfold sgnV
  rw [if_neg (sizeS_pos.2 h0), if_neg (by rw [modB_right k (by omega)]; simp), modB_len, if_neg (by omega)]
  exact close_sig k hk (tB_wfd _ _ _) (tB_len h0 h) (tB_lt hk h0 h)
theorem sgn_no (k : Nat) (hk : k ≤ 2) (alg : Int) (t : List Int) (h0 : alg ≠ 1 ∧ alg ≠ 2) : sgnV (modB k) (secB k) alg t = .tup [.nls (byt []), i64 20] := by
  unfold sgnV
  have : sizeS alg = 0 := by unfold sizeS; rw [if_neg h0.1, if_neg h0.2]
  rw [if_pos this]
theorem sgn_short (k : Nat) (hk : k ≤ 1) (t : List Int) : sgnV (modB k) (secB k) 2 t = .tup [.nls (byt []), i64 21] := by
  unfold sgnV
  have hl : keyL k = 64 := by
    have : ∀ k : Fin 2, keyL k.val = 64 := by decide
    exact this ⟨k, by omega⟩
  rw [if_neg (by decide), if_neg (by rw [modB_right k (by omega)]; simp), modB_len, hl, if_pos (by decide)]
/-- Two texts' blocks are the same just if their digests are. -/
theorem tB_inj {k : Nat} {alg : Int} {t u : List Int} (h0 : alg = 1 ∨ alg = 2) (h : tB k alg t = tB k alg u) : digS alg t = digS alg u := blockB_inj (by rw [digS_len _ _ h0, digS_len _ _ h0]) h
end Go.Proofs.YtniaeiikdgbnfaaDoor.R
namespace Go.Proofs.YtniaeiikdgbnfaaDoor.R
open Go Go.RowKit Go.Proofs Go.Proofs.YtniaeiikdgbnfaaDoor.AW
set_option linter.unusedSectionVars false
variable [Globs]
set_option maxRecDepth 100000
set_option linter.unusedSimpArgs false
set_option linter.unusedVariables false
set_option maxHeartbeats 4000000
set_option pp.deepTerms false
set_option pp.deepTerms.threshold 9

theorem l_sealBlocks (hT : Tabs4) (alg : Int) (d : List Int) (size : Int) (hd : wfd d) (hdl : d.length ≤ LIM) :
    Imm Tryd.prog 11 [i64 alg, .d (byt d), i64 size] (fun r => r = bool true) := by
  (refine Imm.of_awp told0 [] Tryd.func11 rfl (by decide) (Nat.le_of_ble_eq_true rfl) ?_; intro _w0 _S0 _E0 _B0; ((conv=>whnf);repeat'((first|(show(_=true→_)∧(_=false→_);first|refine nTt ?_|refine nFf ?_|refine gS ?_ ?_<;>(intro _h;try contradiction))|(show(_=false→_)∧(_=true→_);first|refine nU ?_|refine nV ?_|refine gZ ?_ ?_<;>(intro _h;try contradiction))|(intro _h;try contradiction)|(show _∧_;refine gA ?_)|fail);all_goals conv=>whnf)))
  refine acallI (b_anchor hT) rfl fun r hr => ?_
  subst hr
  ((conv=>whnf);repeat'((first|(show(_=true→_)∧(_=false→_);first|refine gT ?_|refine gF ?_|refine gS ?_ ?_<;>(intro _h;try contradiction))|(show(_=false→_)∧(_=true→_);first|refine gU ?_|refine gV ?_|refine gZ ?_ ?_<;>(intro _h;try contradiction))|(intro _h;try contradiction)|(show _∧_;refine gA ?_)|fail);all_goals conv=>whnf))
  all_goals first
    | exact Ends.imm rfl rfl
    | skip
  refine acallI (b_block alg d size hd hdl) rfl fun r hr => ?_
  unfold blockV at hr
  by_cases h0 : sizeS alg = 0
  · have h0' : ((sizeS alg : Nat) : Int) = 0 := by omega
    rw [if_pos h0] at hr
    subst hr
    ((conv=>whnf);repeat'((first|(show(_=true→_)∧(_=false→_);first|refine gT ?_|refine gF ?_|refine gS ?_ ?_<;>(intro _h;try contradiction))|(show(_=false→_)∧(_=true→_);first|refine gU ?_|refine gV ?_|refine gZ ?_ ?_<;>(intro _h;try contradiction))|(intro _h;try contradiction)|(show _∧_;refine gA ?_)|fail);all_goals conv=>whnf))
    refine acallI (b_refSize alg) rfl fun r hr => ?_
    subst hr
    ((conv=>whnf);repeat'((first|(show(_=true→_)∧(_=false→_);first|refine gT ?_|refine gF ?_|refine gS ?_ ?_<;>(intro _h;try contradiction))|(show(_=false→_)∧(_=true→_);first|refine gU ?_|refine gV ?_|refine gZ ?_ ?_<;>(intro _h;try contradiction))|(intro _h;try contradiction)|(show _∧_;refine gA ?_)|fail);all_goals conv=>whnf))
    exact Ends.imm rfl rfl
  have h0' : ¬ ((sizeS alg : Nat) : Int) = 0 := by omega
  have ha := sizeS_pos.1 h0
  rw [if_neg h0] at hr
  by_cases h1 : d.length = sizeS alg
  · have h1' : (d.length : Int) = ((sizeS alg : Nat) : Int) := by omega
    rw [if_neg (by omega)] at hr
    have hb := b_refBlock alg d size ha hd h1
    by_cases h2 : 512 < size ∨ size < 30 + (d.length : Int)
    · rw [if_pos h2] at hr hb
      subst hr
      ((conv=>whnf);repeat'((first|(show(_=true→_)∧(_=false→_);first|refine gT ?_|refine gF ?_|refine gS ?_ ?_<;>(intro _h;try contradiction))|(show(_=false→_)∧(_=true→_);first|refine gU ?_|refine gV ?_|refine gZ ?_ ?_<;>(intro _h;try contradiction))|(intro _h;try contradiction)|(show _∧_;refine gA ?_)|fail);all_goals conv=>whnf))
      refine acallI (b_refSize alg) rfl fun r hr => ?_
      subst hr
      ((conv=>whnf);repeat'((first|(show(_=true→_)∧(_=false→_);first|refine gT ?_|refine gF ?_|refine gS ?_ ?_<;>(intro _h;try contradiction))|(show(_=false→_)∧(_=true→_);first|refine gU ?_|refine gV ?_|refine gZ ?_ ?_<;>(intro _h;try contradiction))|(intro _h;try contradiction)|(show _∧_;refine gA ?_)|fail);all_goals conv=>whnf))
      refine acallI (b_refSize alg) rfl fun r hr => ?_
      subst hr
      ((conv=>whnf);repeat'((first|(show(_=true→_)∧(_=false→_);first|refine gT ?_|refine gF ?_|refine gS ?_ ?_<;>(intro _h;try contradiction))|(show(_=false→_)∧(_=true→_);first|refine gU ?_|refine gV ?_|refine gZ ?_ ?_<;>(intro _h;try contradiction))|(intro _h;try contradiction)|(show _∧_;refine gA ?_)|fail);all_goals conv=>whnf))
      refine acallI hb rfl fun r hr => ?_
      subst hr
      ((conv=>whnf);repeat'((first|(show(_=true→_)∧(_=false→_);first|refine gT ?_|refine gF ?_|refine gS ?_ ?_<;>(intro _h;try contradiction))|(show(_=false→_)∧(_=true→_);first|refine gU ?_|refine gV ?_|refine gZ ?_ ?_<;>(intro _h;try contradiction))|(intro _h;try contradiction)|(show _∧_;refine gA ?_)|fail);all_goals conv=>whnf))
      exact Ends.imm rfl rfl
    · rw [if_neg h2] at hr hb
      obtain ⟨B, hB⟩ : ∃ B, B = blockB alg d size.toNat := ⟨_, rfl⟩
      rw [← hB] at hr hb
      subst hr
      ((conv=>whnf);repeat'((first|(show(_=true→_)∧(_=false→_);first|refine gT ?_|refine gF ?_|refine gS ?_ ?_<;>(intro _h;try contradiction))|(show(_=false→_)∧(_=true→_);first|refine gU ?_|refine gV ?_|refine gZ ?_ ?_<;>(intro _h;try contradiction))|(intro _h;try contradiction)|(show _∧_;refine gA ?_)|fail);all_goals conv=>whnf))
      refine acallI (b_refSize alg) rfl fun r hr => ?_
      subst hr
      ((conv=>whnf);repeat'((first|(show(_=true→_)∧(_=false→_);first|refine gT ?_|refine gF ?_|refine gS ?_ ?_<;>(intro _h;try contradiction))|(show(_=false→_)∧(_=true→_);first|refine gU ?_|refine gV ?_|refine gZ ?_ ?_<;>(intro _h;try contradiction))|(intro _h;try contradiction)|(show _∧_;refine gA ?_)|fail);all_goals conv=>whnf))
      refine acallI (b_refSize alg) rfl fun r hr => ?_
      subst hr
      ((conv=>whnf);repeat'((first|(show(_=true→_)∧(_=false→_);first|refine gT ?_|refine gF ?_|refine gS ?_ ?_<;>(intro _h;try contradiction))|(show(_=false→_)∧(_=true→_);first|refine gU ?_|refine gV ?_|refine gZ ?_ ?_<;>(intro _h;try contradiction))|(intro _h;try contradiction)|(show _∧_;refine gA ?_)|fail);all_goals conv=>whnf))
      refine acallI hb rfl fun r hr => ?_
      subst hr
      ((conv=>whnf);repeat'((first|(show(_=true→_)∧(_=false→_);first|refine gT ?_|refine gF ?_|refine gS ?_ ?_<;>(intro _h;try contradiction))|(show(_=false→_)∧(_=true→_);first|refine gU ?_|refine gV ?_|refine gZ ?_ ?_<;>(intro _h;try contradiction))|(intro _h;try contradiction)|(show _∧_;refine gA ?_)|fail);all_goals conv=>whnf))
      exact Ends.imm rfl (by simp)
  · have h1' : ¬ (d.length : Int) = ((sizeS alg : Nat) : Int) := by omega
    rw [if_pos (by omega)] at hr
    subst hr
    ((conv=>whnf);repeat'((first|(show(_=true→_)∧(_=false→_);first|refine gT ?_|refine gF ?_|refine gS ?_ ?_<;>(intro _h;try contradiction))|(show(_=false→_)∧(_=true→_);first|refine gU ?_|refine gV ?_|refine gZ ?_ ?_<;>(intro _h;try contradiction))|(intro _h;try contradiction)|(show _∧_;refine gA ?_)|fail);all_goals conv=>whnf))
    refine acallI (b_refSize alg) rfl fun r hr => ?_
    subst hr
    ((conv=>whnf);repeat'((first|(show(_=true→_)∧(_=false→_);first|refine gT ?_|refine gF ?_|refine gS ?_ ?_<;>(intro _h;try contradiction))|(show(_=false→_)∧(_=true→_);first|refine gU ?_|refine gV ?_|refine gZ ?_ ?_<;>(intro _h;try contradiction))|(intro _h;try contradiction)|(show _∧_;refine gA ?_)|fail);all_goals conv=>whnf))
    refine acallI (b_refSize alg) rfl fun r hr => ?_
    subst hr
    ((conv=>whnf);repeat'((first|(show(_=true→_)∧(_=false→_);first|refine gT ?_|refine gF ?_|refine gS ?_ ?_<;>(intro _h;try contradiction))|(show(_=false→_)∧(_=true→_);first|refine gU ?_|refine gV ?_|refine gZ ?_ ?_<;>(intro _h;try contradiction))|(intro _h;try contradiction)|(show _∧_;refine gA ?_)|fail);all_goals conv=>whnf))
    exact Ends.imm rfl rfl

def toldLSS : AW.Told := ⟨fun _ => false, fun r i => if r == 5 && i == 4 then [27] else if r == 6 && i == 4 then [35] else if r == 7 && i == 6 then [45] else if r == 7 && i == 7 then [46] else [], fun _ => .done⟩

theorem l_sealSalts (hT : Tabs4) (alg : Int) (salt text : List Int) (hs : wfd salt) (hsl : salt.length ≤ LIM) (ht : wfd text) (htl : text.length ≤ LIM) :
    Imm Tryd.prog 12 [i64 alg, .d (byt salt), .d (byt text)] (fun r => r = bool true) := by
  (refine Imm.of_awp toldLSS [] Tryd.func12 rfl (by decide) (Nat.le_of_ble_eq_true rfl) ?_; intro _w0 _S0 _E0 _B0; ((conv=>whnf);repeat'((first|(show(_=true→_)∧(_=false→_);first|refine nTt ?_|refine nFf ?_|refine gS ?_ ?_<;>(intro _h;try contradiction))|(show(_=false→_)∧(_=true→_);first|refine nU ?_|refine nV ?_|refine gZ ?_ ?_<;>(intro _h;try contradiction))|(intro _h;try contradiction)|(show _∧_;refine gA ?_)|fail);all_goals conv=>whnf)))
  refine acallI (b_anchor hT) rfl fun r hr => ?_
  subst hr
  ((conv=>whnf);repeat'((first|(show(_=true→_)∧(_=false→_);first|refine gT ?_|refine gF ?_|refine gS ?_ ?_<;>(intro _h;try contradiction))|(show(_=false→_)∧(_=true→_);first|refine gU ?_|refine gV ?_|refine gZ ?_ ?_<;>(intro _h;try contradiction))|(intro _h;try contradiction)|(show _∧_;refine gA ?_)|fail);all_goals conv=>whnf))
  all_goals first
    | exact Ends.imm rfl rfl
    | skip
  have hw1 : ∀ x ∈ [text], wfd x := fun x hx => by simp at hx; subst hx; exact ht
  have hw2 : ∀ x ∈ [salt, text], wfd x := fun x hx => by simp at hx; rcases hx with rfl | rfl <;> assumption
  have hw3 : ∀ x ∈ [salt ++ text], wfd x := fun x hx => by simp at hx; subst hx; exact hs.append ht
  have d1 := b_digest hT alg salt [text] hs hsl hw1 (by simp; omega) (by simp)
  have d2 := b_digestN hT alg [salt, text] hw2 (by simp; omega) (by simp)
  have d3 := b_digestN hT alg [salt ++ text] hw3 (by simp; omega) (by simp)
  have e1 : [text].flatten = text := by simp
  have e2 : [salt, text].flatten = salt ++ text := by simp
  have e3 : [salt ++ text].flatten = salt ++ text := by simp
  rw [e1] at d1
  rw [e2] at d2
  rw [e3] at d3
  unfold digV at d1 d2 d3
  by_cases h0 : sizeS alg = 0
  · have h0' : ((sizeS alg : Nat) : Int) = 0 := by omega
    rw [if_pos h0] at d1 d2 d3
    refine acallI d1 rfl fun r hr => ?_
    subst hr
    ((conv=>whnf);repeat'((first|(show(_=true→_)∧(_=false→_);first|refine gT ?_|refine gF ?_|refine gS ?_ ?_<;>(intro _h;try contradiction))|(show(_=false→_)∧(_=true→_);first|refine gU ?_|refine gV ?_|refine gZ ?_ ?_<;>(intro _h;try contradiction))|(intro _h;try contradiction)|(show _∧_;refine gA ?_)|fail);all_goals conv=>whnf))
    refine acallI d2 rfl fun r hr => ?_
    subst hr
    ((conv=>whnf);repeat'((first|(show(_=true→_)∧(_=false→_);first|refine gT ?_|refine gF ?_|refine gS ?_ ?_<;>(intro _h;try contradiction))|(show(_=false→_)∧(_=true→_);first|refine gU ?_|refine gV ?_|refine gZ ?_ ?_<;>(intro _h;try contradiction))|(intro _h;try contradiction)|(show _∧_;refine gA ?_)|fail);all_goals conv=>whnf))
    refine ⟨by show (0 + salt.length) * 1 ≤ 140737488355328; omega, ?_⟩
    ((conv=>whnf);repeat'((first|(show(_=true→_)∧(_=false→_);first|refine gT ?_|refine gF ?_|refine gS ?_ ?_<;>(intro _h;try contradiction))|(show(_=false→_)∧(_=true→_);first|refine gU ?_|refine gV ?_|refine gZ ?_ ?_<;>(intro _h;try contradiction))|(intro _h;try contradiction)|(show _∧_;refine gA ?_)|fail);all_goals conv=>whnf))
    refine ⟨by show (([] ++ salt : List Int).length + text.length) * 1 ≤ 140737488355328; simp; omega, ?_⟩
    ((conv=>whnf);repeat'((first|(show(_=true→_)∧(_=false→_);first|refine gT ?_|refine gF ?_|refine gS ?_ ?_<;>(intro _h;try contradiction))|(show(_=false→_)∧(_=true→_);first|refine gU ?_|refine gV ?_|refine gZ ?_ ?_<;>(intro _h;try contradiction))|(intro _h;try contradiction)|(show _∧_;refine gA ?_)|fail);all_goals conv=>whnf))
    refine acallI d3 rfl fun r hr => ?_
    subst hr
    ((conv=>whnf);repeat'((first|(show(_=true→_)∧(_=false→_);first|refine gT ?_|refine gF ?_|refine gS ?_ ?_<;>(intro _h;try contradiction))|(show(_=false→_)∧(_=true→_);first|refine gU ?_|refine gV ?_|refine gZ ?_ ?_<;>(intro _h;try contradiction))|(intro _h;try contradiction)|(show _∧_;refine gA ?_)|fail);all_goals conv=>whnf))
    refine acallI (b_size alg) rfl fun r hr => ?_
    subst hr
    ((conv=>whnf);repeat'((first|(show(_=true→_)∧(_=false→_);first|refine gT ?_|refine gF ?_|refine gS ?_ ?_<;>(intro _h;try contradiction))|(show(_=false→_)∧(_=true→_);first|refine gU ?_|refine gV ?_|refine gZ ?_ ?_<;>(intro _h;try contradiction))|(intro _h;try contradiction)|(show _∧_;refine gA ?_)|fail);all_goals conv=>whnf))
    exact Ends.imm rfl (by simp [h0])
  · have h0' : ¬ ((sizeS alg : Nat) : Int) = 0 := by omega
    rw [if_neg h0, if_neg (by omega)] at d1
    rw [if_neg h0, if_neg (by simp)] at d2 d3
    rw [List.nil_append] at d2 d3
    have hdl := digS_len alg (salt ++ text) (sizeS_pos.1 h0)
    obtain ⟨dg, hdg⟩ : ∃ dg, dg = digS alg (salt ++ text) := ⟨_, rfl⟩
    rw [← hdg] at d1 d2 d3 hdl
    have hdl' : (dg.length : Int) = ((sizeS alg : Nat) : Int) := by omega
    refine acallI d1 rfl fun r hr => ?_
    subst hr
    ((conv=>whnf);repeat'((first|(show(_=true→_)∧(_=false→_);first|refine gT ?_|refine gF ?_|refine gS ?_ ?_<;>(intro _h;try contradiction))|(show(_=false→_)∧(_=true→_);first|refine gU ?_|refine gV ?_|refine gZ ?_ ?_<;>(intro _h;try contradiction))|(intro _h;try contradiction)|(show _∧_;refine gA ?_)|fail);all_goals conv=>whnf))
    refine acallI d2 rfl fun r hr => ?_
    subst hr
    ((conv=>whnf);repeat'((first|(show(_=true→_)∧(_=false→_);first|refine gT ?_|refine gF ?_|refine gS ?_ ?_<;>(intro _h;try contradiction))|(show(_=false→_)∧(_=true→_);first|refine gU ?_|refine gV ?_|refine gZ ?_ ?_<;>(intro _h;try contradiction))|(intro _h;try contradiction)|(show _∧_;refine gA ?_)|fail);all_goals conv=>whnf))
    refine ⟨by show (0 + salt.length) * 1 ≤ 140737488355328; omega, ?_⟩
    ((conv=>whnf);repeat'((first|(show(_=true→_)∧(_=false→_);first|refine gT ?_|refine gF ?_|refine gS ?_ ?_<;>(intro _h;try contradiction))|(show(_=false→_)∧(_=true→_);first|refine gU ?_|refine gV ?_|refine gZ ?_ ?_<;>(intro _h;try contradiction))|(intro _h;try contradiction)|(show _∧_;refine gA ?_)|fail);all_goals conv=>whnf))
    refine ⟨by show (([] ++ salt : List Int).length + text.length) * 1 ≤ 140737488355328; simp; omega, ?_⟩
    ((conv=>whnf);repeat'((first|(show(_=true→_)∧(_=false→_);first|refine gT ?_|refine gF ?_|refine gS ?_ ?_<;>(intro _h;try contradiction))|(show(_=false→_)∧(_=true→_);first|refine gU ?_|refine gV ?_|refine gZ ?_ ?_<;>(intro _h;try contradiction))|(intro _h;try contradiction)|(show _∧_;refine gA ?_)|fail);all_goals conv=>whnf))
    refine acallI d3 rfl fun r hr => ?_
    subst hr
    ((conv=>whnf);repeat'((first|(show(_=true→_)∧(_=false→_);first|refine gT ?_|refine gF ?_|refine gS ?_ ?_<;>(intro _h;try contradiction))|(show(_=false→_)∧(_=true→_);first|refine gU ?_|refine gV ?_|refine gZ ?_ ?_<;>(intro _h;try contradiction))|(intro _h;try contradiction)|(show _∧_;refine gA ?_)|fail);all_goals conv=>whnf))
    refine acallI (b_size alg) rfl fun r hr => ?_
    subst hr
    ((conv=>whnf);repeat'((first|(show(_=true→_)∧(_=false→_);first|refine gT ?_|refine gF ?_|refine gS ?_ ?_<;>(intro _h;try contradiction))|(show(_=false→_)∧(_=true→_);first|refine gU ?_|refine gV ?_|refine gZ ?_ ?_<;>(intro _h;try contradiction))|(intro _h;try contradiction)|(show _∧_;refine gA ?_)|fail);all_goals conv=>whnf))
    exact Ends.imm rfl (by simp [hdl'])

def toldLSD : AW.Told := ⟨fun _ => false, fun r i => if r == 20 && i == 8 then [74] else [], fun r => if r == 20 then .take 0 (.take 1 (.take 2 (.take 3 (.take 4 (.take 5 (.take 6 (.take 7 (.one 8 (.take 9 (.take 10 (.take 11 (.take 12 .done)))))))))))) else .done⟩

theorem flat_bound : ∀ (xss : List (List Int)) (k : Nat), (∀ j, j < k → (xss.getD j []).length ≤ 200) → k ≤ xss.length → (xss.take k).flatten.length ≤ 200 * k
  | xss, 0, _, _ => by simp
  | xss, k + 1, h, hk => by
    rw [flat_take xss k (by omega), List.length_append]
    have := flat_bound xss k (fun j hj => h j (by omega)) (by omega)
    have := h k (by omega)
    omega

theorem known_rows : ∀ {xss : List (List Int)}, knownAll (xss.map byt) → ∀ x ∈ xss, wfd x
  | [], _, x, h => by simp at h
  | y :: xss, h, x, hx => by
    simp only [List.map_cons, knownAll] at h
    rcases List.mem_cons.1 hx with rfl | hx
    · exact wfd_known h.1
    · exact known_rows h.2 x hx

theorem l_sealDigests (hT : Tabs4) (alg : Int) (salt : List Int) (xss : List (List Int)) (hs : wfd salt) (hsl : salt.length ≤ LIM) (hw : ∀ x ∈ xss, wfd x) (hx : xss.length ≤ LIM) :
    Imm Tryd.prog 10 [i64 alg, .d (byt salt), .d (.sl 1 (xss.map byt))] (fun r => r = bool true) := by
  have hml : (xss.map byt).length = xss.length := List.length_map ..
  have hml' : ((xss.map byt).length : Int) = xss.length := by rw [hml]
  (refine Imm.of_awp toldLSD [] Tryd.func10 rfl (by decide) (Nat.le_of_ble_eq_true rfl) ?_; intro _w0 _S0 _E0 _B0; ((conv=>whnf);repeat'((first|(show(_=true→_)∧(_=false→_);first|refine nTt ?_|refine nFf ?_|refine gS ?_ ?_<;>(intro _h;try contradiction))|(show(_=false→_)∧(_=true→_);first|refine nU ?_|refine nV ?_|refine gZ ?_ ?_<;>(intro _h;try contradiction))|(intro _h;try contradiction)|(show _∧_;refine gA ?_)|fail);all_goals conv=>whnf)))
  refine acallI (b_anchor hT) rfl fun r hr => ?_
  subst hr
  ((conv=>whnf);repeat'((first|(show(_=true→_)∧(_=false→_);first|refine gT ?_|refine gF ?_|refine gS ?_ ?_<;>(intro _h;try contradiction))|(show(_=false→_)∧(_=true→_);first|refine gU ?_|refine gV ?_|refine gZ ?_ ?_<;>(intro _h;try contradiction))|(intro _h;try contradiction)|(show _∧_;refine gA ?_)|fail);all_goals conv=>whnf))
  all_goals first
    | exact Ends.imm rfl rfl
    | skip
  refine AWp.adopt 7 (.row .u8 5 []) rfl rfl ?_
  refine aloop (T := toldLSD) (fun k : Nat => [(0, i64 alg), (1, .d (byt salt)), (2, .d (.sl 1 (xss.map byt))), (7, .own 0), (22, .d (.sl 1 (xss.map byt))), (23, i64 xss.length), (24, i64 k)]) (fun k => [(0, .row .u8 5 (xss.take k).flatten)]) 79 1
    (fun k => xss.length - k) (fun k => k ≤ xss.length ∧ ∀ j, j < k → (xss.getD j []).length ≤ 200)
    ⟨0, [0], rfl, ⟨Nat.zero_le _, fun j hj => by omega⟩, by (refine ⟨rfl, rfl, ?_, ?_⟩ <;> repeat' (first | exact True.intro | rfl | decide | (refine And.intro ?_ ?_))); exact di (by rw [hml])⟩ ?_
  intro k ⟨hk, hall⟩
  have hfb := flat_bound xss k hall hk
  rcases Nat.lt_or_ge k xss.length with hkl | hkl
  · have hfk := flat_take xss k hkl
    obtain ⟨b, hb⟩ : ∃ b, b = xss.getD k [] := ⟨_, rfl⟩
    rw [← hb] at hfk
    ((conv=>whnf);repeat'((first|(show(_=true→_)∧(_=false→_);first|refine gT ?_|refine gF ?_|refine gS ?_ ?_<;>(intro _h;try contradiction))|(show(_=false→_)∧(_=true→_);first|refine gU ?_|refine gV ?_|refine gZ ?_ ?_<;>(intro _h;try contradiction))|(intro _h;try contradiction)|(show _∧_;refine gA ?_)|fail);all_goals conv=>whnf))
    rw [Int.toNat_natCast, getD_map byt xss k [] default (by omega), ← hb]
    ((conv=>whnf);repeat'((first|(show(_=true→_)∧(_=false→_);first|refine gT ?_|refine gF ?_|refine gS ?_ ?_<;>(intro _h;try contradiction))|(show(_=false→_)∧(_=true→_);first|refine gU ?_|refine gV ?_|refine gZ ?_ ?_<;>(intro _h;try contradiction))|(intro _h;try contradiction)|(show _∧_;refine gA ?_)|fail);all_goals conv=>whnf))
    · exact Ends.imm rfl rfl
    · refine ⟨by show ((xss.take k).flatten.length + b.length) * 1 ≤ 140737488355328; omega, ?_⟩
      ((conv=>whnf);repeat'((first|(show(_=true→_)∧(_=false→_);first|refine gT ?_|refine gF ?_|refine gS ?_ ?_<;>(intro _h;try contradiction))|(show(_=false→_)∧(_=true→_);first|refine gU ?_|refine gV ?_|refine gZ ?_ ?_<;>(intro _h;try contradiction))|(intro _h;try contradiction)|(show _∧_;refine gA ?_)|fail);all_goals conv=>whnf))
      refine ⟨k + 1, [0], by omega, ⟨by omega, fun j hj => ?_⟩, rfl, ?_⟩
      · by_cases hjk : j < k
        · exact hall j hjk
        · have : j = k := by omega
          subst this
          rw [← hb]
          omega
      · (refine ⟨rfl, rfl, ?_, ?_⟩ <;> repeat' (first | exact True.intro | rfl | decide | (refine And.intro ?_ ?_)))
        · exact di (by rw [wrap_i64 (by omega) (by omega)]; rfl)
        · rw [hfk]; rfl
  · have hk' : k = xss.length := by omega
    subst hk'
    rw [List.take_length] at hfb ⊢
    obtain ⟨all, hal⟩ : ∃ all, all = xss.flatten := ⟨_, rfl⟩
    have haw : wfd all := fun x hx => by
      rw [hal] at hx
      obtain ⟨l, h1, h2⟩ := List.mem_flatten.1 hx
      exact hw l h1 x h2
    have d1 := b_digest hT alg salt xss hs hsl hw (by omega) (by omega)
    rw [← hal] at d1 hfb ⊢
    unfold digV at d1
    by_cases h0 : sizeS alg = 0
    · have h0' : ((sizeS alg : Nat) : Int) = 0 := by omega
      rw [if_pos h0] at d1
      ((conv=>whnf);repeat'((first|(show(_=true→_)∧(_=false→_);first|refine gT ?_|refine gF ?_|refine gS ?_ ?_<;>(intro _h;try contradiction))|(show(_=false→_)∧(_=true→_);first|refine gU ?_|refine gV ?_|refine gZ ?_ ?_<;>(intro _h;try contradiction))|(intro _h;try contradiction)|(show _∧_;refine gA ?_)|fail);all_goals conv=>whnf))
      refine acallI d1 rfl fun r hr => ?_
      subst hr
      ((conv=>whnf);repeat'((first|(show(_=true→_)∧(_=false→_);first|refine gT ?_|refine gF ?_|refine gS ?_ ?_<;>(intro _h;try contradiction))|(show(_=false→_)∧(_=true→_);first|refine gU ?_|refine gV ?_|refine gZ ?_ ?_<;>(intro _h;try contradiction))|(intro _h;try contradiction)|(show _∧_;refine gA ?_)|fail);all_goals conv=>whnf))
      refine acallI (b_size alg) rfl fun r hr => ?_
      subst hr
      ((conv=>whnf);repeat'((first|(show(_=true→_)∧(_=false→_);first|refine gT ?_|refine gF ?_|refine gS ?_ ?_<;>(intro _h;try contradiction))|(show(_=false→_)∧(_=true→_);first|refine gU ?_|refine gV ?_|refine gZ ?_ ?_<;>(intro _h;try contradiction))|(intro _h;try contradiction)|(show _∧_;refine gA ?_)|fail);all_goals conv=>whnf))
      refine acallI (b_refSize alg) rfl fun r hr => ?_
      subst hr
      ((conv=>whnf);repeat'((first|(show(_=true→_)∧(_=false→_);first|refine gT ?_|refine gF ?_|refine gS ?_ ?_<;>(intro _h;try contradiction))|(show(_=false→_)∧(_=true→_);first|refine gU ?_|refine gV ?_|refine gZ ?_ ?_<;>(intro _h;try contradiction))|(intro _h;try contradiction)|(show _∧_;refine gA ?_)|fail);all_goals conv=>whnf))
      refine acallI (b_refSize alg) rfl fun r hr => ?_
      subst hr
      ((conv=>whnf);repeat'((first|(show(_=true→_)∧(_=false→_);first|refine gT ?_|refine gF ?_|refine gS ?_ ?_<;>(intro _h;try contradiction))|(show(_=false→_)∧(_=true→_);first|refine gU ?_|refine gV ?_|refine gZ ?_ ?_<;>(intro _h;try contradiction))|(intro _h;try contradiction)|(show _∧_;refine gA ?_)|fail);all_goals conv=>whnf))
      exact Ends.imm rfl rfl
    have h0' : ¬ ((sizeS alg : Nat) : Int) = 0 := by omega
    have ha := sizeS_pos.1 h0
    rw [if_neg h0] at d1
    by_cases h1 : 64 < salt.length
    · have h1' : 64 < (salt.length : Int) := by omega
      rw [if_pos h1] at d1
      ((conv=>whnf);repeat'((first|(show(_=true→_)∧(_=false→_);first|refine gT ?_|refine gF ?_|refine gS ?_ ?_<;>(intro _h;try contradiction))|(show(_=false→_)∧(_=true→_);first|refine gU ?_|refine gV ?_|refine gZ ?_ ?_<;>(intro _h;try contradiction))|(intro _h;try contradiction)|(show _∧_;refine gA ?_)|fail);all_goals conv=>whnf))
      refine acallI d1 rfl fun r hr => ?_
      subst hr
      ((conv=>whnf);repeat'((first|(show(_=true→_)∧(_=false→_);first|refine gT ?_|refine gF ?_|refine gS ?_ ?_<;>(intro _h;try contradiction))|(show(_=false→_)∧(_=true→_);first|refine gU ?_|refine gV ?_|refine gZ ?_ ?_<;>(intro _h;try contradiction))|(intro _h;try contradiction)|(show _∧_;refine gA ?_)|fail);all_goals conv=>whnf))
      refine acallI (b_size alg) rfl fun r hr => ?_
      subst hr
      ((conv=>whnf);repeat'((first|(show(_=true→_)∧(_=false→_);first|refine gT ?_|refine gF ?_|refine gS ?_ ?_<;>(intro _h;try contradiction))|(show(_=false→_)∧(_=true→_);first|refine gU ?_|refine gV ?_|refine gZ ?_ ?_<;>(intro _h;try contradiction))|(intro _h;try contradiction)|(show _∧_;refine gA ?_)|fail);all_goals conv=>whnf))
      refine acallI (b_refSize alg) rfl fun r hr => ?_
      subst hr
      ((conv=>whnf);repeat'((first|(show(_=true→_)∧(_=false→_);first|refine gT ?_|refine gF ?_|refine gS ?_ ?_<;>(intro _h;try contradiction))|(show(_=false→_)∧(_=true→_);first|refine gU ?_|refine gV ?_|refine gZ ?_ ?_<;>(intro _h;try contradiction))|(intro _h;try contradiction)|(show _∧_;refine gA ?_)|fail);all_goals conv=>whnf))
      refine acallI (b_refSize alg) rfl fun r hr => ?_
      subst hr
      ((conv=>whnf);repeat'((first|(show(_=true→_)∧(_=false→_);first|refine gT ?_|refine gF ?_|refine gS ?_ ?_<;>(intro _h;try contradiction))|(show(_=false→_)∧(_=true→_);first|refine gU ?_|refine gV ?_|refine gZ ?_ ?_<;>(intro _h;try contradiction))|(intro _h;try contradiction)|(show _∧_;refine gA ?_)|fail);all_goals conv=>whnf))
      exact Ends.imm rfl rfl
    · have h1' : ¬ 64 < (salt.length : Int) := by omega
      rw [if_neg h1] at d1
      have d2 := b_refDigest alg salt all ha hs haw (by omega) (by omega)
      obtain ⟨dg, hdg⟩ : ∃ dg, dg = digS alg (salt ++ all) := ⟨_, rfl⟩
      rw [← hdg] at d1 d2
      ((conv=>whnf);repeat'((first|(show(_=true→_)∧(_=false→_);first|refine gT ?_|refine gF ?_|refine gS ?_ ?_<;>(intro _h;try contradiction))|(show(_=false→_)∧(_=true→_);first|refine gU ?_|refine gV ?_|refine gZ ?_ ?_<;>(intro _h;try contradiction))|(intro _h;try contradiction)|(show _∧_;refine gA ?_)|fail);all_goals conv=>whnf))
      refine acallI d1 rfl fun r hr => ?_
      subst hr
      ((conv=>whnf);repeat'((first|(show(_=true→_)∧(_=false→_);first|refine gT ?_|refine gF ?_|refine gS ?_ ?_<;>(intro _h;try contradiction))|(show(_=false→_)∧(_=true→_);first|refine gU ?_|refine gV ?_|refine gZ ?_ ?_<;>(intro _h;try contradiction))|(intro _h;try contradiction)|(show _∧_;refine gA ?_)|fail);all_goals conv=>whnf))
      refine acallI (b_size alg) rfl fun r hr => ?_
      subst hr
      ((conv=>whnf);repeat'((first|(show(_=true→_)∧(_=false→_);first|refine gT ?_|refine gF ?_|refine gS ?_ ?_<;>(intro _h;try contradiction))|(show(_=false→_)∧(_=true→_);first|refine gU ?_|refine gV ?_|refine gZ ?_ ?_<;>(intro _h;try contradiction))|(intro _h;try contradiction)|(show _∧_;refine gA ?_)|fail);all_goals conv=>whnf))
      refine acallI (b_refSize alg) rfl fun r hr => ?_
      subst hr
      ((conv=>whnf);repeat'((first|(show(_=true→_)∧(_=false→_);first|refine gT ?_|refine gF ?_|refine gS ?_ ?_<;>(intro _h;try contradiction))|(show(_=false→_)∧(_=true→_);first|refine gU ?_|refine gV ?_|refine gZ ?_ ?_<;>(intro _h;try contradiction))|(intro _h;try contradiction)|(show _∧_;refine gA ?_)|fail);all_goals conv=>whnf))
      refine acallI (b_refSize alg) rfl fun r hr => ?_
      subst hr
      ((conv=>whnf);repeat'((first|(show(_=true→_)∧(_=false→_);first|refine gT ?_|refine gF ?_|refine gS ?_ ?_<;>(intro _h;try contradiction))|(show(_=false→_)∧(_=true→_);first|refine gU ?_|refine gV ?_|refine gZ ?_ ?_<;>(intro _h;try contradiction))|(intro _h;try contradiction)|(show _∧_;refine gA ?_)|fail);all_goals conv=>whnf))
      refine acallI d2 rfl fun r hr => ?_
      subst hr
      ((conv=>whnf);repeat'((first|(show(_=true→_)∧(_=false→_);first|refine gT ?_|refine gF ?_|refine gS ?_ ?_<;>(intro _h;try contradiction))|(show(_=false→_)∧(_=true→_);first|refine gU ?_|refine gV ?_|refine gZ ?_ ?_<;>(intro _h;try contradiction))|(intro _h;try contradiction)|(show _∧_;refine gA ?_)|fail);all_goals conv=>whnf))
      exact Ends.imm rfl (by simp)

theorem idx_in {w : Int} (h0 : 0 ≤ w) (h2 : w ≤ 2) : (idx w : Int) = w ∧ idx w ≤ 2 := by
  unfold idx
  repeat' split
  all_goals omega
theorem sgn_err (k : Nat) (hk : k ≤ 2) (alg : Int) (t : List Int) (h : ¬ ((alg = 1 ∨ alg = 2) ∧ 30 + sizeS alg ≤ keyL k)) : (alg ≠ 1 ∧ alg ≠ 2 ∧ sgnV (modB k) (secB k) alg t = .tup [.nls (byt []), i64 20]) ∨ (alg = 2 ∧ k ≤ 1 ∧ sgnV (modB k) (secB k) alg t = .tup [.nls (byt []), i64 21]) := by
  by_cases h0 : alg = 1 ∨ alg = 2
  · right
    have hl : ∀ k : Fin 3, k.val ≤ 1 ∨ keyL k.val = 128 := by decide
    have hl : k ≤ 1 ∨ keyL k = 128 := hl ⟨k, by omega⟩
    have hl2 := keyL_small k hk
    rcases h0 with rfl | rfl
    · have : sizeS 1 = 32 := rfl
      omega
    · have : sizeS 2 = 64 := rfl
      have hk1 : k ≤ 1 := by omega
      exact ⟨rfl, hk1, sgn_short k hk1 t⟩
  · left
    exact ⟨fun e => h0 (.inl e), fun e => h0 (.inr e), sgn_no k hk alg t ⟨fun e => h0 (.inl e), fun e => h0 (.inr e)⟩⟩

theorem l_sealTexts (hT : Tabs4) (hE : Globs.gl 0 = some EXP) (which alg : Int) (text other : List Int) (ht : wfd text) (ho : wfd other) :
    Imm Tryd.prog 14 [i64 which, i64 alg, .d (byt text), .d (byt other)] (fun r => r = bool true) := by
  (refine Imm.of_awp (⟨fun _ => false, fun _ _ => [], fun r => if r == 10 then .take 0 (.take 1 (.take 4 (.take 5 (.one 2 (.take 3 (.one 6 (.take 7 (.take 8 (.take 9 .done))))))))) else .done⟩ : AW.Told) [] Tryd.func14 rfl (by decide) (Nat.le_of_ble_eq_true rfl) ?_; intro _w0 _S0 _E0 _B0; ((conv=>whnf);repeat'((first|(show(_=true→_)∧(_=false→_);first|refine nTt ?_|refine nFf ?_|refine gS ?_ ?_<;>(intro _h;try contradiction))|(show(_=false→_)∧(_=true→_);first|refine nU ?_|refine nV ?_|refine gZ ?_ ?_<;>(intro _h;try contradiction))|(intro _h;try contradiction)|(show _∧_;refine gA ?_)|fail);all_goals conv=>whnf)))
  refine acallI (b_anchor hT) rfl fun r hr => ?_
  subst hr
  ((conv=>whnf);repeat'((first|(show(_=true→_)∧(_=false→_);first|refine gT ?_|refine gF ?_|refine gS ?_ ?_<;>(intro _h;try contradiction))|(show(_=false→_)∧(_=true→_);first|refine gU ?_|refine gV ?_|refine gZ ?_ ?_<;>(intro _h;try contradiction))|(intro _h;try contradiction)|(show _∧_;refine gA ?_)|fail);all_goals conv=>whnf))
  all_goals first
    | exact Ends.imm rfl rfl
    | skip
  obtain ⟨hkw, hk⟩ := idx_in (w := which) (by omega) (by omega)
  refine acallI (k_modulus which) rfl fun r hr => ?_
  subst hr
  ((conv=>whnf);repeat'((first|(show(_=true→_)∧(_=false→_);first|refine gT ?_|refine gF ?_|refine gS ?_ ?_<;>(intro _h;try contradiction))|(show(_=false→_)∧(_=true→_);first|refine gU ?_|refine gV ?_|refine gZ ?_ ?_<;>(intro _h;try contradiction))|(intro _h;try contradiction)|(show _∧_;refine gA ?_)|fail);all_goals conv=>whnf))
  refine acallI (k_secret which) rfl fun r hr => ?_
  subst hr
  obtain ⟨k, hkd⟩ : ∃ k, k = idx which := ⟨_, rfl⟩
  rw [← hkd] at hk hkw ⊢
  have hml := modB_len k
  have hmw := modB_wfd k
  have hkl := keyL_le k
  have hsg := b_sign hT (modB k) (secB k) alg text hmw (by rw [hml]; unfold LIM; omega) (secB_wfd k) ht (by omega)
  have hmk := k_make (modB k) hmw (by rw [hml]; unfold LIM; omega)
  have hmr := modB_right k (by omega)
  by_cases hg : (alg = 1 ∨ alg = 2) ∧ 30 + sizeS alg ≤ keyL k
  · obtain ⟨h0, hsz⟩ := hg
    have hv1 := ver_eq k hk alg other (sigB k (tB k alg text)) h0 hsz
    rw [openB_sig k hk (tB_wfd _ _ _) (tB_len h0 hsz) (tB_lt hk h0 hsz)] at hv1
    rw [sgn_eq k hk alg text h0 hsz] at hsg
    have hSw := sigB_wfd k (tB k alg text)
    have hd1 := b_refDigestN alg text h0 ht (by omega)
    have hd2 := b_refDigestN alg other h0 ho (by omega)
    have hinj : tB k alg text = tB k alg other → digS alg text = digS alg other := fun e => tB_inj h0 e
    have hinj2 : digS alg text = digS alg other → tB k alg text = tB k alg other := fun e => by unfold tB; rw [e]
    obtain ⟨S, hS⟩ : ∃ S, S = sigB k (tB k alg text) := ⟨_, rfl⟩
    obtain ⟨x, hx⟩ : ∃ x, x = digS alg text := ⟨_, rfl⟩
    obtain ⟨y, hy⟩ : ∃ y, y = digS alg other := ⟨_, rfl⟩
    rw [← hS] at hsg hv1 hSw
    rw [← hx] at hd1 hinj hinj2
    rw [← hy] at hd2 hinj hinj2
    obtain ⟨m, hm⟩ : ∃ m, m = modB k := ⟨_, rfl⟩
    rw [← hm] at hsg hmk hv1 hmr ⊢
    ((conv=>whnf);repeat'((first|(show(_=true→_)∧(_=false→_);first|refine gT ?_|refine gF ?_|refine gS ?_ ?_<;>(intro _h;try contradiction))|(show(_=false→_)∧(_=true→_);first|refine gU ?_|refine gV ?_|refine gZ ?_ ?_<;>(intro _h;try contradiction))|(intro _h;try contradiction)|(show _∧_;refine gA ?_)|fail);all_goals conv=>whnf))
    refine acallI hsg rfl fun r hr => ?_
    subst hr
    ((conv=>whnf);repeat'((first|(show(_=true→_)∧(_=false→_);first|refine gT ?_|refine gF ?_|refine gS ?_ ?_<;>(intro _h;try contradiction))|(show(_=false→_)∧(_=true→_);first|refine gU ?_|refine gV ?_|refine gZ ?_ ?_<;>(intro _h;try contradiction))|(intro _h;try contradiction)|(show _∧_;refine gA ?_)|fail);all_goals conv=>whnf))
    refine acallI hmk rfl fun r hr => ?_
    rw [if_neg (by simp [hmr])] at hr
    obtain ⟨n, n0, rr, rfl, hkey⟩ := hr
    ((conv=>whnf);repeat'((first|(show(_=true→_)∧(_=false→_);first|refine gT ?_|refine gF ?_|refine gS ?_ ?_<;>(intro _h;try contradiction))|(show(_=false→_)∧(_=true→_);first|refine gU ?_|refine gV ?_|refine gZ ?_ ?_<;>(intro _h;try contradiction))|(intro _h;try contradiction)|(show _∧_;refine gA ?_)|fail);all_goals conv=>whnf))
    refine acallI hd1 rfl fun r hr => ?_
    subst hr
    ((conv=>whnf);repeat'((first|(show(_=true→_)∧(_=false→_);first|refine gT ?_|refine gF ?_|refine gS ?_ ?_<;>(intro _h;try contradiction))|(show(_=false→_)∧(_=true→_);first|refine gU ?_|refine gV ?_|refine gZ ?_ ?_<;>(intro _h;try contradiction))|(intro _h;try contradiction)|(show _∧_;refine gA ?_)|fail);all_goals conv=>whnf))
    refine acallI hd2 rfl fun r hr => ?_
    subst hr
    ((conv=>whnf);repeat'((first|(show(_=true→_)∧(_=false→_);first|refine gT ?_|refine gF ?_|refine gS ?_ ?_<;>(intro _h;try contradiction))|(show(_=false→_)∧(_=true→_);first|refine gU ?_|refine gV ?_|refine gZ ?_ ?_<;>(intro _h;try contradiction))|(intro _h;try contradiction)|(show _∧_;refine gA ?_)|fail);all_goals conv=>whnf))
    refine acallI (b_verify hT hE m n n0 rr hkey alg other S ho (by omega) hSw) rfl fun r hr => ?_
    subst hr
    rw [hv1]
    by_cases hxy : x = y
    · rw [if_pos (by rw [hinj2 hxy])]
      ((conv=>whnf);repeat'((first|(show(_=true→_)∧(_=false→_);first|refine gT ?_|refine gF ?_|refine gS ?_ ?_<;>(intro _h;try contradiction))|(show(_=false→_)∧(_=true→_);first|refine gU ?_|refine gV ?_|refine gZ ?_ ?_<;>(intro _h;try contradiction))|(intro _h;try contradiction)|(show _∧_;refine gA ?_)|fail);all_goals conv=>whnf))
      exact Ends.imm rfl (by simp [hxy])
    · rw [if_neg (fun e => hxy (hinj (by injection e)))]
      ((conv=>whnf);repeat'((first|(show(_=true→_)∧(_=false→_);first|refine gT ?_|refine gF ?_|refine gS ?_ ?_<;>(intro _h;try contradiction))|(show(_=false→_)∧(_=true→_);first|refine gU ?_|refine gV ?_|refine gZ ?_ ?_<;>(intro _h;try contradiction))|(intro _h;try contradiction)|(show _∧_;refine gA ?_)|fail);all_goals conv=>whnf))
      exact Ends.imm rfl (by simp [hxy])
  · obtain ⟨e, he0, hse⟩ : ∃ e, e ≠ 0 ∧ sgnV (modB k) (secB k) alg text = .tup [.nls (byt []), i64 e] := by
      rcases sgn_err k hk alg text hg with ⟨_, _, h⟩ | ⟨_, _, h⟩
      · exact ⟨20, by omega, h⟩
      · exact ⟨21, by omega, h⟩
    rw [hse] at hsg
    ((conv=>whnf);repeat'((first|(show(_=true→_)∧(_=false→_);first|refine gT ?_|refine gF ?_|refine gS ?_ ?_<;>(intro _h;try contradiction))|(show(_=false→_)∧(_=true→_);first|refine gU ?_|refine gV ?_|refine gZ ?_ ?_<;>(intro _h;try contradiction))|(intro _h;try contradiction)|(show _∧_;refine gA ?_)|fail);all_goals conv=>whnf))
    refine acallI hsg rfl fun r hr => ?_
    subst hr
    ((conv=>whnf);repeat'((first|(show(_=true→_)∧(_=false→_);first|refine gT ?_|refine gF ?_|refine gS ?_ ?_<;>(intro _h;try contradiction))|(show(_=false→_)∧(_=true→_);first|refine gU ?_|refine gV ?_|refine gZ ?_ ?_<;>(intro _h;try contradiction))|(intro _h;try contradiction)|(show _∧_;refine gA ?_)|fail);all_goals conv=>whnf))
    refine acallI hmk rfl fun r hr => ?_
    rw [if_neg (by simp [hmr])] at hr
    obtain ⟨n, n0, rr, rfl, hkey⟩ := hr
    ((conv=>whnf);repeat'((first|(show(_=true→_)∧(_=false→_);first|refine gT ?_|refine gF ?_|refine gS ?_ ?_<;>(intro _h;try contradiction))|(show(_=false→_)∧(_=true→_);first|refine gU ?_|refine gV ?_|refine gZ ?_ ?_<;>(intro _h;try contradiction))|(intro _h;try contradiction)|(show _∧_;refine gA ?_)|fail);all_goals conv=>whnf))
    exact Ends.imm rfl rfl

theorem xor_ne2 (a x : Int) (ha : 0 ≤ a ∧ a < 256) (hx : 1 ≤ x ∧ x ≤ 255) : bitsK .xor .u8 a (IntKind.u8.wrap x) ≠ a ∧ 0 ≤ bitsK .xor .u8 a (IntKind.u8.wrap x) ∧ bitsK .xor .u8 a (IntKind.u8.wrap x) < 256 := by
  have hw : IntKind.u8.wrap x = x := wrap_in.2 ⟨by simp only [loK]; omega, by simp only [hiK]; omega⟩
  rw [hw]
  obtain ⟨p, rfl⟩ : ∃ p : Nat, a = p := ⟨a.toNat, by omega⟩
  obtain ⟨q, rfl⟩ : ∃ q : Nat, x = q := ⟨x.toNat, by omega⟩
  have e : bitsK .xor .u8 (p : Int) (q : Int) = ((p ^^^ q : Nat) : Int) := by
    show IntKind.u8.wrap ((BitVec.ofInt 8 (p : Int) ^^^ BitVec.ofInt 8 (q : Int)).toNat : Int) = _
    have e6 : (BitVec.ofInt 8 (p : Int) ^^^ BitVec.ofInt 8 (q : Int)).toNat = p ^^^ q := by
      simp only [BitVec.ofInt_natCast, BitVec.toNat_xor, BitVec.toNat_ofNat]
      rw [Nat.mod_eq_of_lt (by omega), Nat.mod_eq_of_lt (by omega)]
    have hlt : p ^^^ q < 2 ^ 8 := Nat.xor_lt_two_pow (by omega) (by omega)
    rw [e6, u8w, Nat.mod_eq_of_lt (by omega)]
  rw [e]
  have hlt : p ^^^ q < 2 ^ 8 := Nat.xor_lt_two_pow (by omega) (by omega)
  refine ⟨fun h => ?_, by omega, by omega⟩
  have h1 : p ^^^ q = p := by omega
  have h2 : p ^^^ (p ^^^ q) = p ^^^ p := by rw [h1]
  rw [← Nat.xor_assoc, Nat.xor_self, Nat.zero_xor] at h2
  omega
theorem pow8 {c : Int} (h : 0 ≤ c ∧ c < 8) : 1 ≤ (1 : Int) * 2 ^ min c.toNat (IntKind.bits .u8) ∧ (1 : Int) * 2 ^ min c.toNat (IntKind.bits .u8) ≤ 255 := by
  have : ∀ k : Fin 8, 1 ≤ (1 : Int) * 2 ^ min k.val (IntKind.bits .u8) ∧ (1 : Int) * 2 ^ min k.val (IntKind.bits .u8) ≤ 255 := by decide
  exact this ⟨c.toNat, by omega⟩

def toldSS : AW.Told := ⟨fun _ => false, fun r i => if r == 16 && i == 4 then [116] else [], fun r => if r == 15 then .take 0 (.take 1 (.take 2 (.take 3 (.take 4 (.take 5 (.take 6 (.take 7 (.take 8 (.take 9 (.take 10 (.take 11 (.take 12 (.one 13 .done))))))))))))) else .done⟩

theorem l_sealSigns (hT : Tabs4) (hE : Globs.gl 0 = some EXP) (which alg : Int) (text : List Int) (at_ : Int) (ht : wfd text) (hat : IntKind.i64.wrap at_ = at_) :
    Imm Tryd.prog 13 [i64 which, i64 alg, .d (byt text), i64 at_] (fun r => r = bool true) := by
  have hat2 : at_ ≤ 9223372036854775807 := by have := wrap_in.1 hat; simp only [loK, hiK] at this; omega
  (refine Imm.of_awp toldSS [] Tryd.func13 rfl (by decide) (Nat.le_of_ble_eq_true rfl) ?_; intro _w0 _S0 _E0 _B0; ((conv=>whnf);repeat'((first|(show(_=true→_)∧(_=false→_);first|refine nTt ?_|refine nFf ?_|refine gS ?_ ?_<;>(intro _h;try contradiction))|(show(_=false→_)∧(_=true→_);first|refine nU ?_|refine nV ?_|refine gZ ?_ ?_<;>(intro _h;try contradiction))|(intro _h;try contradiction)|(show _∧_;refine gA ?_)|fail);all_goals conv=>whnf)))
  refine acallI (b_anchor hT) rfl fun r hr => ?_
  subst hr
  ((conv=>whnf);repeat'((first|(show(_=true→_)∧(_=false→_);first|refine gT ?_|refine gF ?_|refine gS ?_ ?_<;>(intro _h;try contradiction))|(show(_=false→_)∧(_=true→_);first|refine gU ?_|refine gV ?_|refine gZ ?_ ?_<;>(intro _h;try contradiction))|(intro _h;try contradiction)|(show _∧_;refine gA ?_)|fail);all_goals conv=>whnf))
  all_goals first
    | exact Ends.imm rfl rfl
    | skip
  obtain ⟨hkw, hk⟩ := idx_in (w := which) (by omega) (by omega)
  refine acallI (k_modulus which) rfl fun r hr => ?_
  subst hr
  ((conv=>whnf);repeat'((first|(show(_=true→_)∧(_=false→_);first|refine gT ?_|refine gF ?_|refine gS ?_ ?_<;>(intro _h;try contradiction))|(show(_=false→_)∧(_=true→_);first|refine gU ?_|refine gV ?_|refine gZ ?_ ?_<;>(intro _h;try contradiction))|(intro _h;try contradiction)|(show _∧_;refine gA ?_)|fail);all_goals conv=>whnf))
  refine acallI (k_secret which) rfl fun r hr => ?_
  subst hr
  obtain ⟨k, hkd⟩ : ∃ k, k = idx which := ⟨_, rfl⟩
  rw [← hkd] at hk hkw ⊢
  have hml := modB_len k
  have hmw := modB_wfd k
  have hkl := keyL_le k
  have hkl2 := keyL_small k hk
  have hsg := b_sign hT (modB k) (secB k) alg text hmw (by rw [hml]; unfold LIM; omega) (secB_wfd k) ht (by omega)
  have hmk := k_make (modB k) hmw (by rw [hml]; unfold LIM; omega)
  have hmr := modB_right k (by omega)
  by_cases hg : (alg = 1 ∨ alg = 2) ∧ 30 + sizeS alg ≤ keyL k
  · obtain ⟨h0, hsz⟩ := hg
    have hno2 : ¬ (alg = 2 ∧ which < 2) := fun ⟨h1, h2⟩ => by
      subst h1
      have hl : ∀ k : Fin 2, keyL k.val = 64 := by decide
      have hl : keyL k = 64 := hl ⟨k, by omega⟩
      have : sizeS 2 = 64 := rfl
      omega
    have hv1 := ver_good k hk alg text h0 hsz
    have hbad := fun x hx => ver_bad k hk alg text x h0 hsz hx
    rw [sgn_eq k hk alg text h0 hsz] at hsg
    have hSw := sigB_wfd k (tB k alg text)
    have hSl := sigB_len k (tB k alg text)
    obtain ⟨S, hS⟩ : ∃ S, S = sigB k (tB k alg text) := ⟨_, rfl⟩
    rw [← hS] at hsg hv1 hSw hSl hbad
    obtain ⟨m, hm⟩ : ∃ m, m = modB k := ⟨_, rfl⟩
    rw [← hm] at hsg hmk hv1 hmr hml hbad ⊢
    have hlen : (S.length : Int) = (m.length : Int) := by omega
    ((conv=>whnf);repeat'((first|(show(_=true→_)∧(_=false→_);first|refine gT ?_|refine gF ?_|refine gS ?_ ?_<;>(intro _h;try contradiction))|(show(_=false→_)∧(_=true→_);first|refine gU ?_|refine gV ?_|refine gZ ?_ ?_<;>(intro _h;try contradiction))|(intro _h;try contradiction)|(show _∧_;refine gA ?_)|fail);all_goals conv=>whnf))
    refine acallI hsg rfl fun r hr => ?_
    subst hr
    rcases h0 with rfl | rfl
    all_goals
      ((conv=>whnf);repeat'((first|(show(_=true→_)∧(_=false→_);first|refine gT ?_|refine gF ?_|refine gS ?_ ?_<;>(intro _h;try contradiction))|(show(_=false→_)∧(_=true→_);first|refine gU ?_|refine gV ?_|refine gZ ?_ ?_<;>(intro _h;try contradiction))|(intro _h;try contradiction)|(show _∧_;refine gA ?_)|fail);all_goals conv=>whnf))
      refine acallI hmk rfl fun r hr => ?_
      rw [if_neg (by simp [hmr])] at hr
      obtain ⟨n, n0, rr, rfl, hkey⟩ := hr
      ((conv=>whnf);repeat'((first|(show(_=true→_)∧(_=false→_);first|refine gT ?_|refine gF ?_|refine gS ?_ ?_<;>(intro _h;try contradiction))|(show(_=false→_)∧(_=true→_);first|refine gU ?_|refine gV ?_|refine gZ ?_ ?_<;>(intro _h;try contradiction))|(intro _h;try contradiction)|(show _∧_;refine gA ?_)|fail);all_goals conv=>whnf))
      refine acallI (b_verify hT hE m n n0 rr hkey _ text S ht (by omega) hSw) rfl fun r hr => ?_
      subst hr
      rw [hv1]
      ((conv=>whnf);repeat'((first|(show(_=true→_)∧(_=false→_);first|refine gT ?_|refine gF ?_|refine gS ?_ ?_<;>(intro _h;try contradiction))|(show(_=false→_)∧(_=true→_);first|refine gU ?_|refine gV ?_|refine gZ ?_ ?_<;>(intro _h;try contradiction))|(intro _h;try contradiction)|(show _∧_;refine gA ?_)|fail);all_goals conv=>whnf))
      refine ⟨by show (0 + S.length) * 1 ≤ 140737488355328; omega, ?_⟩
      have hw8 : IntKind.i64.wrap (at_.tdiv 8) = at_ / 8 := by rw [Int.tdiv_eq_ediv_of_nonneg (by omega), wrap_i64 (by omega) (by omega)]
      have hmod : (IntKind.i64.wrap (at_.tdiv 8)).tmod (S.length : Int) = at_ / 8 % S.length := by rw [hw8, Int.tmod_eq_emod_of_nonneg (by omega)]
      have hm0 : 0 ≤ at_ / 8 % (S.length : Int) := Int.emod_nonneg _ (by omega)
      have hm1 : at_ / 8 % (S.length : Int) < S.length := Int.emod_lt_of_pos _ (by omega)
      have hc : 0 ≤ at_.tmod 8 ∧ at_.tmod 8 < 8 := by rw [Int.tmod_eq_emod_of_nonneg (by omega)]; omega
      have hc0 := hc.1
      have hp := pow8 hc
      ((conv=>whnf);repeat'((first|(show(_=true→_)∧(_=false→_);first|refine gT ?_|refine gF ?_|refine gS ?_ ?_<;>(intro _h;try contradiction))|(show(_=false→_)∧(_=true→_);first|refine gU ?_|refine gV ?_|refine gZ ?_ ?_<;>(intro _h;try contradiction))|(intro _h;try contradiction)|(show _∧_;refine gA ?_)|fail);all_goals conv=>whnf))
      obtain ⟨j, hj⟩ : ∃ j, j = ((IntKind.i64.wrap (at_.tdiv 8)).tmod (S.length : Int)).toNat := ⟨_, rfl⟩
      have hjl : j < S.length := by omega
      have hx := xor_ne2 (S.getD j 0) _ (hSw.get j) hp
      obtain ⟨ys, hys⟩ : ∃ ys, ys = S.set j (bitsK .xor .u8 (S.getD j 0) (IntKind.u8.wrap (1 * 2 ^ min (at_.tmod 8).toNat (IntKind.bits .u8)))) := ⟨_, rfl⟩
      have hyw : wfd ys := by
        rw [hys]
        intro z hz
        rcases List.mem_or_eq_of_mem_set hz with h | h
        · exact hSw z h
        · rw [h]; exact hx.2
      have hne : ys ≠ S := fun e => by
        have : ys.getD j 0 = S.getD j 0 := by rw [e]
        rw [hys, getD_set, if_pos ⟨rfl, hjl⟩] at this
        exact hx.1 this
      refine acallI (b_verify hT hE m n n0 rr hkey _ text ys ht (by omega) hyw) (by rw [hys, hj]; rfl) fun r hr => ?_
      subst hr
      rw [hbad ys hyw hne]
      ((conv=>whnf);repeat'((first|(show(_=true→_)∧(_=false→_);first|refine gT ?_|refine gF ?_|refine gS ?_ ?_<;>(intro _h;try contradiction))|(show(_=false→_)∧(_=true→_);first|refine gU ?_|refine gV ?_|refine gZ ?_ ?_<;>(intro _h;try contradiction))|(intro _h;try contradiction)|(show _∧_;refine gA ?_)|fail);all_goals conv=>whnf))
      exact Ends.imm rfl rfl
  · rcases sgn_err k hk alg text hg with ⟨ha1, ha2, hse⟩ | ⟨rfl, hk1, hse⟩
    · rw [hse] at hsg
      ((conv=>whnf);repeat'((first|(show(_=true→_)∧(_=false→_);first|refine gT ?_|refine gF ?_|refine gS ?_ ?_<;>(intro _h;try contradiction))|(show(_=false→_)∧(_=true→_);first|refine gU ?_|refine gV ?_|refine gZ ?_ ?_<;>(intro _h;try contradiction))|(intro _h;try contradiction)|(show _∧_;refine gA ?_)|fail);all_goals conv=>whnf))
      refine acallI hsg rfl fun r hr => ?_
      subst hr
      ((conv=>whnf);repeat'((first|(show(_=true→_)∧(_=false→_);first|refine gT ?_|refine gF ?_|refine gS ?_ ?_<;>(intro _h;try contradiction))|(show(_=false→_)∧(_=true→_);first|refine gU ?_|refine gV ?_|refine gZ ?_ ?_<;>(intro _h;try contradiction))|(intro _h;try contradiction)|(show _∧_;refine gA ?_)|fail);all_goals conv=>whnf))
      exact Ends.imm rfl rfl
    · rw [hse] at hsg
      have hwl : which < 2 := by omega
      ((conv=>whnf);repeat'((first|(show(_=true→_)∧(_=false→_);first|refine gT ?_|refine gF ?_|refine gS ?_ ?_<;>(intro _h;try contradiction))|(show(_=false→_)∧(_=true→_);first|refine gU ?_|refine gV ?_|refine gZ ?_ ?_<;>(intro _h;try contradiction))|(intro _h;try contradiction)|(show _∧_;refine gA ?_)|fail);all_goals conv=>whnf))
      refine acallI hsg rfl fun r hr => ?_
      subst hr
      ((conv=>whnf);repeat'((first|(show(_=true→_)∧(_=false→_);first|refine gT ?_|refine gF ?_|refine gS ?_ ?_<;>(intro _h;try contradiction))|(show(_=false→_)∧(_=true→_);first|refine gU ?_|refine gV ?_|refine gZ ?_ ?_<;>(intro _h;try contradiction))|(intro _h;try contradiction)|(show _∧_;refine gA ?_)|fail);all_goals conv=>whnf))
      exact Ends.imm rfl rfl

def toldSL : AW.Told := ⟨fun _ => false, fun r i => if r == 10 && i == 2 then [58] else if r == 12 && i == 14 then [77, 82] else if r == 12 && i == 15 then [83] else [], fun r => if r == 12 then .take 0 (.take 1 (.take 2 (.take 3 (.take 4 (.take 5 (.take 7 (.take 10 (.take 16 (.three 6 (.three 8 (.two 9 (.two 11 (.one 12 (.one 13 (.one 14 (.take 15 .done)))) 12 (.one 11 (.one 13 (.one 14 (.take 15 .done))))) 12 (.one 9 (.one 11 (.one 13 (.one 14 (.take 15 .done)))))) 9 (.two 8 (.two 11 (.one 12 (.one 13 (.one 14 (.take 15 .done)))) 12 (.one 11 (.one 13 (.one 14 (.take 15 .done))))) 12 (.one 8 (.one 11 (.one 13 (.one 14 (.take 15 .done)))))) 12 (.two 8 (.one 9 (.one 11 (.one 13 (.one 14 (.take 15 .done))))) 9 (.one 8 (.one 11 (.one 13 (.one 14 (.take 15 .done))))))) 9 (.two 6 (.two 8 (.two 11 (.one 12 (.one 13 (.one 14 (.take 15 .done)))) 12 (.one 11 (.one 13 (.one 14 (.take 15 .done))))) 12 (.one 8 (.one 11 (.one 13 (.one 14 (.take 15 .done)))))) 12 (.one 6 (.one 8 (.one 11 (.one 13 (.one 14 (.take 15 .done))))))) 12 (.two 6 (.two 8 (.one 9 (.one 11 (.one 13 (.one 14 (.take 15 .done))))) 9 (.one 8 (.one 11 (.one 13 (.one 14 (.take 15 .done)))))) 9 (.one 6 (.one 8 (.one 11 (.one 13 (.one 14 (.take 15 .done)))))))))))))))) else .done⟩

theorem l_sealLengths (hT : Tabs4) (hE : Globs.gl 0 = some EXP) (which : Int) (text : List Int) (cut : Int) (ht : wfd text) :
    Imm Tryd.prog 15 [i64 which, .d (byt text), i64 cut] (fun r => r = bool true) := by
  (refine Imm.of_awp toldSL [] Tryd.func15 rfl (by decide) (Nat.le_of_ble_eq_true rfl) ?_; intro _w0 _S0 _E0 _B0; ((conv=>whnf);repeat'((first|(show(_=true→_)∧(_=false→_);first|refine nTt ?_|refine nFf ?_|refine gS ?_ ?_<;>(intro _h;try contradiction))|(show(_=false→_)∧(_=true→_);first|refine nU ?_|refine nV ?_|refine gZ ?_ ?_<;>(intro _h;try contradiction))|(intro _h;try contradiction)|(show _∧_;refine gA ?_)|fail);all_goals conv=>whnf)))
  refine acallI (b_anchor hT) rfl fun r hr => ?_
  subst hr
  ((conv=>whnf);repeat'((first|(show(_=true→_)∧(_=false→_);first|refine gT ?_|refine gF ?_|refine gS ?_ ?_<;>(intro _h;try contradiction))|(show(_=false→_)∧(_=true→_);first|refine gU ?_|refine gV ?_|refine gZ ?_ ?_<;>(intro _h;try contradiction))|(intro _h;try contradiction)|(show _∧_;refine gA ?_)|fail);all_goals conv=>whnf))
  all_goals first
    | exact Ends.imm rfl rfl
    | skip
  obtain ⟨hkw, hk⟩ := idx_in (w := which) (by omega) (by omega)
  refine acallI (k_modulus which) rfl fun r hr => ?_
  subst hr
  ((conv=>whnf);repeat'((first|(show(_=true→_)∧(_=false→_);first|refine gT ?_|refine gF ?_|refine gS ?_ ?_<;>(intro _h;try contradiction))|(show(_=false→_)∧(_=true→_);first|refine gU ?_|refine gV ?_|refine gZ ?_ ?_<;>(intro _h;try contradiction))|(intro _h;try contradiction)|(show _∧_;refine gA ?_)|fail);all_goals conv=>whnf))
  refine acallI (k_secret which) rfl fun r hr => ?_
  subst hr
  obtain ⟨k, hkd⟩ : ∃ k, k = idx which := ⟨_, rfl⟩
  rw [← hkd] at hk hkw ⊢
  have hml := modB_len k
  have hmw := modB_wfd k
  have hkl := keyL_le k
  have hkl2 := keyL_small k hk
  have h32 : sizeS 1 = 32 := rfl
  have hsz : 30 + sizeS 1 ≤ keyL k := by omega
  have h0 : (1 : Int) = 1 ∨ (1 : Int) = 2 := .inl rfl
  have hsg := b_sign hT (modB k) (secB k) 1 text hmw (by rw [hml]; unfold LIM; omega) (secB_wfd k) ht (by omega)
  have hmk := k_make (modB k) hmw (by rw [hml]; unfold LIM; omega)
  have hmr := modB_right k (by omega)
  have hv1 := ver_good k hk 1 text h0 hsz
  have hbad := fun x hx => ver_bad k hk 1 text x h0 hsz hx
  rw [sgn_eq k hk 1 text h0 hsz] at hsg
  have hSw := sigB_wfd k (tB k 1 text)
  have hSl := sigB_len k (tB k 1 text)
  have hBw := tB_wfd k 1 text
  have hdl := digS_len 1 text h0
  have hd := b_digestN hT 1 [text] (fun x hx => by simp at hx; subst hx; exact ht) (by simp; omega) (by simp)
  rw [show [text].flatten = text by simp, digV_nil (by decide)] at hd
  have hbl := b_block 1 (digS 1 text) (modB k).length (digS_wfd _ _) (by unfold LIM; omega)
  have hbv : blockV 1 (digS 1 text) (modB k).length = .tup [.d (byt (tB k 1 text)), i64 0] := by
    unfold blockV tB
    rw [if_neg (by decide), if_neg (by omega), if_neg (by omega), Int.toNat_natCast, hml]
  rw [hbv] at hbl
  obtain ⟨S, hS⟩ : ∃ S, S = sigB k (tB k 1 text) := ⟨_, rfl⟩
  rw [← hS] at hsg hv1 hSw hSl hbad
  obtain ⟨B, hB⟩ : ∃ B, B = tB k 1 text := ⟨_, rfl⟩
  rw [← hB] at hbl hBw
  obtain ⟨dg, hdg⟩ : ∃ dg, dg = digS 1 text := ⟨_, rfl⟩
  rw [← hdg] at hd hbl hdl
  obtain ⟨m, hm⟩ : ∃ m, m = modB k := ⟨_, rfl⟩
  rw [← hm] at hsg hmk hv1 hmr hml hbad hbl ⊢
  ((conv=>whnf);repeat'((first|(show(_=true→_)∧(_=false→_);first|refine gT ?_|refine gF ?_|refine gS ?_ ?_<;>(intro _h;try contradiction))|(show(_=false→_)∧(_=true→_);first|refine gU ?_|refine gV ?_|refine gZ ?_ ?_<;>(intro _h;try contradiction))|(intro _h;try contradiction)|(show _∧_;refine gA ?_)|fail);all_goals conv=>whnf))
  refine acallI hsg rfl fun r hr => ?_
  subst hr
  ((conv=>whnf);repeat'((first|(show(_=true→_)∧(_=false→_);first|refine gT ?_|refine gF ?_|refine gS ?_ ?_<;>(intro _h;try contradiction))|(show(_=false→_)∧(_=true→_);first|refine gU ?_|refine gV ?_|refine gZ ?_ ?_<;>(intro _h;try contradiction))|(intro _h;try contradiction)|(show _∧_;refine gA ?_)|fail);all_goals conv=>whnf))
  refine acallI hmk rfl fun r hr => ?_
  rw [if_neg (by simp [hmr])] at hr
  obtain ⟨n, n0, rr, rfl, hkey⟩ := hr
  ((conv=>whnf);repeat'((first|(show(_=true→_)∧(_=false→_);first|refine gT ?_|refine gF ?_|refine gS ?_ ?_<;>(intro _h;try contradiction))|(show(_=false→_)∧(_=true→_);first|refine gU ?_|refine gV ?_|refine gZ ?_ ?_<;>(intro _h;try contradiction))|(intro _h;try contradiction)|(show _∧_;refine gA ?_)|fail);all_goals conv=>whnf))
  refine acallI hd rfl fun r hr => ?_
  subst hr
  ((conv=>whnf);repeat'((first|(show(_=true→_)∧(_=false→_);first|refine gT ?_|refine gF ?_|refine gS ?_ ?_<;>(intro _h;try contradiction))|(show(_=false→_)∧(_=true→_);first|refine gU ?_|refine gV ?_|refine gZ ?_ ?_<;>(intro _h;try contradiction))|(intro _h;try contradiction)|(show _∧_;refine gA ?_)|fail);all_goals conv=>whnf))
  refine acallI hbl rfl fun r hr => ?_
  subst hr
  have hmod : cut.tmod (S.length : Int) = cut % S.length := Int.tmod_eq_emod_of_nonneg (by omega)
  have hm0 : 0 ≤ cut % (S.length : Int) := Int.emod_nonneg _ (by omega)
  have hm1 : cut % (S.length : Int) < S.length := Int.emod_lt_of_pos _ (by omega)
  obtain ⟨X, hXd⟩ : ∃ X : List (List Int), X = [((S.take (cut.tmod (S.length : Int)).toNat).drop (Int.toNat 0)), [0] ++ S, [] ++ S ++ [0], []] := ⟨_, rfl⟩
  have hXl : X.length = 4 := by rw [hXd]; rfl
  have hXm : ((X.map byt).length : Int) = 4 := by rw [List.length_map, hXl]; rfl
  have hw0 : wfd [0] := fun x hx => by simp at hx; omega
  have hX : ∀ i, i < 4 → wfd (X.getD i []) ∧ X.getD i [] ≠ S := fun i hi => by
    have hne : ∀ y : List Int, y.length ≠ S.length → y ≠ S := fun y h e => h (by rw [e])
    rw [hXd]
    match i, hi with
    | 0, _ => exact ⟨(hSw.take _).drop _, hne _ (by simp; omega)⟩
    | 1, _ => exact ⟨hw0.append hSw, hne _ (by simp)⟩
    | 2, _ => exact ⟨(hSw.append hw0 : wfd (S ++ [0])), hne _ (by simp)⟩
    | 3, _ => exact ⟨fun x hx => by simp at hx, hne _ (by simp; omega)⟩
  ((conv=>whnf);repeat'((first|(show(_=true→_)∧(_=false→_);first|refine gT ?_|refine gF ?_|refine gS ?_ ?_<;>(intro _h;try contradiction))|(show(_=false→_)∧(_=true→_);first|refine gU ?_|refine gV ?_|refine gZ ?_ ?_<;>(intro _h;try contradiction))|(intro _h;try contradiction)|(show _∧_;refine gA ?_)|fail);all_goals conv=>whnf))
  repeat' (first
    | (refine And.intro (by first | (show (1 + S.length) * 1 ≤ 140737488355328; omega) | (show (0 + S.length) * 1 ≤ 140737488355328; omega) | (show (([] ++ S : List Int).length + 1) * 1 ≤ 140737488355328; simp; omega)) ?_; ((conv=>whnf);repeat'((first|(show(_=true→_)∧(_=false→_);first|refine gT ?_|refine gF ?_|refine gS ?_ ?_<;>(intro _h;try contradiction))|(show(_=false→_)∧(_=true→_);first|refine gU ?_|refine gV ?_|refine gZ ?_ ?_<;>(intro _h;try contradiction))|(intro _h;try contradiction)|(show _∧_;refine gA ?_)|fail);all_goals conv=>whnf)))
    | (refine And.intro ?_ ?_ <;> ((conv=>whnf);repeat'((first|(show(_=true→_)∧(_=false→_);first|refine gT ?_|refine gF ?_|refine gS ?_ ?_<;>(intro _h;try contradiction))|(show(_=false→_)∧(_=true→_);first|refine gU ?_|refine gV ?_|refine gZ ?_ ?_<;>(intro _h;try contradiction))|(intro _h;try contradiction)|(show _∧_;refine gA ?_)|fail);all_goals conv=>whnf))))
  all_goals
    refine aloop (T := toldSL) (ι := Nat) (fun i => [(1, .d (byt text)), (8, .d (byt S)), (10, .d (keyD m n n0 rr)), (14, .d (byt B)), (83, .d (.sl 1 (X.map byt))), (84, i64 4), (85, i64 i)]) (fun _ => []) 114 0
      (fun i => 4 - i) (fun i => i ≤ 4) ⟨0, [], rfl, by omega, by
        (refine ⟨rfl, rfl, ?_, ?_⟩ <;> repeat' (first | exact True.intro | rfl | decide | (refine And.intro ?_ ?_)))
        rw [hXd]
        rfl⟩ ?_
    intro i hi
    rcases Nat.lt_or_ge i 4 with h4 | h4
    · have hxx := hX i h4
      obtain ⟨x, hx⟩ : ∃ x, x = X.getD i [] := ⟨_, rfl⟩
      rw [← hx] at hxx
      ((conv=>whnf);repeat'((first|(show(_=true→_)∧(_=false→_);first|refine gT ?_|refine gF ?_|refine gS ?_ ?_<;>(intro _h;try contradiction))|(show(_=false→_)∧(_=true→_);first|refine gU ?_|refine gV ?_|refine gZ ?_ ?_<;>(intro _h;try contradiction))|(intro _h;try contradiction)|(show _∧_;refine gA ?_)|fail);all_goals conv=>whnf))
      rw [Int.toNat_natCast, getD_map byt X i [] default (by omega), ← hx]
      ((conv=>whnf);repeat'((first|(show(_=true→_)∧(_=false→_);first|refine gT ?_|refine gF ?_|refine gS ?_ ?_<;>(intro _h;try contradiction))|(show(_=false→_)∧(_=true→_);first|refine gU ?_|refine gV ?_|refine gZ ?_ ?_<;>(intro _h;try contradiction))|(intro _h;try contradiction)|(show _∧_;refine gA ?_)|fail);all_goals conv=>whnf))
      refine acallI (b_verify hT hE m n n0 rr hkey 1 text x ht (by omega) hxx.1) rfl fun r hr => ?_
      subst hr
      rw [hbad x hxx.1 hxx.2]
      ((conv=>whnf);repeat'((first|(show(_=true→_)∧(_=false→_);first|refine gT ?_|refine gF ?_|refine gS ?_ ?_<;>(intro _h;try contradiction))|(show(_=false→_)∧(_=true→_);first|refine gU ?_|refine gV ?_|refine gZ ?_ ?_<;>(intro _h;try contradiction))|(intro _h;try contradiction)|(show _∧_;refine gA ?_)|fail);all_goals conv=>whnf))
      refine ⟨i + 1, [], by omega, by omega, rfl, ?_⟩
      (refine ⟨rfl, rfl, ?_, ?_⟩ <;> repeat' (first | exact True.intro | rfl | decide | (refine And.intro ?_ ?_)))
      exact di (by rw [wrap_i64 (by omega) (by omega)]; rfl)
    · have hi4 : i = 4 := by omega
      subst hi4
      ((conv=>whnf);repeat'((first|(show(_=true→_)∧(_=false→_);first|refine gT ?_|refine gF ?_|refine gS ?_ ?_<;>(intro _h;try contradiction))|(show(_=false→_)∧(_=true→_);first|refine gU ?_|refine gV ?_|refine gZ ?_ ?_<;>(intro _h;try contradiction))|(intro _h;try contradiction)|(show _∧_;refine gA ?_)|fail);all_goals conv=>whnf))
      refine acallI (b_verify hT hE m n n0 rr hkey 1 text S ht (by omega) hSw) rfl fun r hr => ?_
      subst hr
      rw [hv1]
      by_cases hBS : B = S
      · ((conv=>whnf);repeat'((first|(show(_=true→_)∧(_=false→_);first|refine gT ?_|refine gF ?_|refine gS ?_ ?_<;>(intro _h;try contradiction))|(show(_=false→_)∧(_=true→_);first|refine gU ?_|refine gV ?_|refine gZ ?_ ?_<;>(intro _h;try contradiction))|(intro _h;try contradiction)|(show _∧_;refine gA ?_)|fail);all_goals conv=>whnf))
        exact Ends.imm rfl (by simp [hBS])
      · ((conv=>whnf);repeat'((first|(show(_=true→_)∧(_=false→_);first|refine gT ?_|refine gF ?_|refine gS ?_ ?_<;>(intro _h;try contradiction))|(show(_=false→_)∧(_=true→_);first|refine gU ?_|refine gV ?_|refine gZ ?_ ?_<;>(intro _h;try contradiction))|(intro _h;try contradiction)|(show _∧_;refine gA ?_)|fail);all_goals conv=>whnf))
        refine acallI (b_verify hT hE m n n0 rr hkey 1 text B ht (by omega) hBw) rfl fun r hr => ?_
        subst hr
        rw [hbad B hBw hBS]
        ((conv=>whnf);repeat'((first|(show(_=true→_)∧(_=false→_);first|refine gT ?_|refine gF ?_|refine gS ?_ ?_<;>(intro _h;try contradiction))|(show(_=false→_)∧(_=true→_);first|refine gU ?_|refine gV ?_|refine gZ ?_ ?_<;>(intro _h;try contradiction))|(intro _h;try contradiction)|(show _∧_;refine gA ?_)|fail);all_goals conv=>whnf))
        exact Ends.imm rfl (by simp)
end Go.Proofs.YtniaeiikdgbnfaaDoor.R
