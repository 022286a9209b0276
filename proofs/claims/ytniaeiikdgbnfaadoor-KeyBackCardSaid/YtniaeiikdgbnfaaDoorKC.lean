/- The key's code, part 16: the law KeyProducts. -/
import Derived.Test.YtniaeiikdgbnfaaDoorKB
namespace Go.Proofs.YtniaeiikdgbnfaaDoor.R
open Go Go.RowKit Go.Proofs Go.Proofs.YtniaeiikdgbnfaaDoor.AW
set_option linter.unusedSectionVars false
variable [Globs]
set_option maxRecDepth 100000
set_option linter.unusedSimpArgs false
set_option linter.unusedVariables false
set_option maxHeartbeats 4000000

theorem be_mod_lt {m n : List Int} {n0 : Int} {rr : List Int} (h : Key m n n0 rr) : bn m < ((256 ^ m.length : Nat) : Int) := by
  have a2 := dval_lt h.wf.reverse
  rw [List.length_reverse] at a2
  have e : dpw m.length = ((256 ^ m.length : Nat) : Int) := by unfold dpw; push_cast; rfl
  rw [← e]
  exact a2

theorem bn_nonneg {m : List Int} (h : wfd m) : 0 ≤ bn m := dval_nonneg h.reverse

theorem bn_beI {n : Nat} {v : Int} (h0 : 0 ≤ v) (h : v < ((256 ^ n : Nat) : Int)) : bn (be n v.toNat) = v := by
  rw [bn_be (by omega)]
  omega

theorem int_pow_mod (x m : Int) : ∀ e : Nat, (x % m) ^ e % m = x ^ e % m
  | 0 => by simp
  | e + 1 => by rw [Int.pow_succ, Int.pow_succ, Int.mul_emod, int_pow_mod x m e, Int.emod_emod_of_dvd _ (Int.dvd_refl _), ← Int.mul_emod]

/-- The closure's product. -/
theorem k_times (m p q : List Int) (hm : wfd m) (hp : wfd p) (hq : wfd q) (hr : notMod m = 0) (hpl : p.length = m.length) (hql : q.length = m.length) (hpm : bn p < bn m) (hqm : bn q < bn m) :
    Imm Tryd.prog 23 [.d (byt p), .d (byt q), .d (.ptr (byt m)), .d (.ptr (.int .i64 (m.length / 4 : Nat)))] (fun r => r = .d (byt (be m.length (bn p * bn q % bn m).toNat))) := by
  have hs : sized m.length = true := by
    unfold notMod at hr
    cases hs : sized m.length with
    | true => rfl
    | false => rw [hs] at hr; simp at hr
  have ⟨h1, h2, h3⟩ := sized_spec.1 hs
  (refine Imm.of_awp told0 [] Tryd.func23 rfl (by decide) (Nat.le_of_ble_eq_true rfl) ?_; intro _w0 _S0 _E0 _B0; ((conv=>whnf);repeat' (first|((first|refine pickT ?_ ?_|refine pickT2 ?_ ?_);(focus (first|assumption|exact dT (by assumption)|exact nT (by assumption)|exact nbT (by assumption)|rfl));(conv=>whnf))|((first|refine pickF ?_ ?_|refine pickF2 ?_ ?_);(focus (first|assumption|exact dF (by assumption)|exact nF (by assumption)|exact nbF (by assumption)|rfl));(conv=>whnf))|((first|(first|refine splitB ?_ ?_|refine splitB2 ?_ ?_)<;>intro _h|intro _h);all_goals ((first|replace _h:=of_decide_eq_true _h|replace _h:=of_decide_eq_false _h|skip);(try simp only [Bool.not_eq_true',Bool.not_eq_false',Bool.not_true,Bool.not_false,decide_eq_true_eq,decide_eq_false_iff_not] at _h);(try (guard_hyp _h : True;clear _h));first|done|contradiction|(conv=>whnf)))|(refine And.intro ?_ ?_;(focus (first|rfl|decide|assumption|omega|decide +kernel|exact ⟨rfl, rfl⟩|exact ⟨rfl, rfl, rfl, rfl⟩|exact fun h => Bool.noConfusion h|exact fun _ => rfl|exact Nat.le_of_ble_eq_true rfl|(simp only [List.length_map, List.length_append, List.length_replicate, List.length_take, List.length_drop, List.length_set, List.length_cons, List.length_nil]; omega)));(conv=>whnf)))))
  refine acallI (k_from m (m.length / 4) hm (by omega) (by omega)) rfl fun r hr => ?_
  obtain ⟨n, rfl, hnl, hnw, hnv⟩ := hr
  ((conv=>whnf);repeat' (first|((first|refine pickT ?_ ?_|refine pickT2 ?_ ?_);(focus (first|assumption|exact dT (by first|assumption|omega)|exact nT (by first|assumption|omega)|exact nbT (by assumption)|rfl));(conv=>whnf))|((first|refine pickF ?_ ?_|refine pickF2 ?_ ?_);(focus (first|assumption|exact dF (by first|assumption|omega)|exact nF (by first|assumption|omega)|exact nbF (by assumption)|rfl));(conv=>whnf))|((first|(first|refine splitB ?_ ?_|refine splitB2 ?_ ?_)<;>intro _h|intro _h);all_goals ((first|replace _h:=of_decide_eq_true _h|replace _h:=of_decide_eq_false _h|skip);(try simp only [Bool.not_eq_true',Bool.not_eq_false',Bool.not_true,Bool.not_false,decide_eq_true_eq,decide_eq_false_iff_not] at _h);(try (guard_hyp _h : True;clear _h));first|done|contradiction|(conv=>whnf)))|(refine And.intro ?_ ?_;(focus (first|rfl|decide|assumption|omega|decide +kernel|exact ⟨rfl, rfl⟩|exact ⟨rfl, rfl, rfl, rfl⟩|exact fun h => Bool.noConfusion h|exact fun _ => rfl|exact Nat.le_of_ble_eq_true rfl|(simp only [List.length_map, List.length_append, List.length_replicate, List.length_take, List.length_drop, List.length_set, List.length_cons, List.length_nil]; omega)));(conv=>whnf))))
  have hodd : ¬ n.getD 0 0 % 2 = 0 := by
    rw [← val_odd, hnv]
    show ¬ bn m % 2 = 0
    rw [bn_odd m (by omega)]
    unfold notMod at hr
    rw [hs, if_neg (by simp)] at hr
    intro h
    rw [if_pos (.inr h)] at hr
    simp at hr
  have hbig : 1 < val n := by
    rw [hnv]
    show 1 < bn m
    have := bn_high m hm (by omega)
    have h128 : ¬ m.getD 0 0 < 128 := fun h => by
      unfold notMod at hr
      rw [hs, if_neg (by simp), if_pos (.inl h)] at hr
      simp at hr
    omega
  refine acallI (f11 n hnw) rfl fun r hr => ?_
  rw [if_neg (by omega), if_neg (by omega)] at hr
  obtain ⟨n0, rr, rfl, hR⟩ := hr
  ((conv=>whnf);repeat' (first|((first|refine pickT ?_ ?_|refine pickT2 ?_ ?_);(focus (first|assumption|exact dT (by first|assumption|omega)|exact nT (by first|assumption|omega)|exact nbT (by assumption)|rfl));(conv=>whnf))|((first|refine pickF ?_ ?_|refine pickF2 ?_ ?_);(focus (first|assumption|exact dF (by first|assumption|omega)|exact nF (by first|assumption|omega)|exact nbF (by assumption)|rfl));(conv=>whnf))|((first|(first|refine splitB ?_ ?_|refine splitB2 ?_ ?_)<;>intro _h|intro _h);all_goals ((first|replace _h:=of_decide_eq_true _h|replace _h:=of_decide_eq_false _h|skip);(try simp only [Bool.not_eq_true',Bool.not_eq_false',Bool.not_true,Bool.not_false,decide_eq_true_eq,decide_eq_false_iff_not] at _h);(try (guard_hyp _h : True;clear _h));first|done|contradiction|(conv=>whnf)))|(refine And.intro ?_ ?_;(focus (first|rfl|decide|assumption|omega|decide +kernel|exact ⟨rfl, rfl⟩|exact ⟨rfl, rfl, rfl, rfl⟩|exact fun h => Bool.noConfusion h|exact fun _ => rfl|exact Nat.le_of_ble_eq_true rfl|(simp only [List.length_map, List.length_append, List.length_replicate, List.length_take, List.length_drop, List.length_set, List.length_cons, List.length_nil]; omega)));(conv=>whnf))))
  refine acallI (k_from p (m.length / 4) hp (by omega) (by omega)) rfl fun r hr => ?_
  obtain ⟨s, rfl, hsl, hsw, hsv⟩ := hr
  ((conv=>whnf);repeat' (first|((first|refine pickT ?_ ?_|refine pickT2 ?_ ?_);(focus (first|assumption|exact dT (by first|assumption|omega)|exact nT (by first|assumption|omega)|exact nbT (by assumption)|rfl));(conv=>whnf))|((first|refine pickF ?_ ?_|refine pickF2 ?_ ?_);(focus (first|assumption|exact dF (by first|assumption|omega)|exact nF (by first|assumption|omega)|exact nbF (by assumption)|rfl));(conv=>whnf))|((first|(first|refine splitB ?_ ?_|refine splitB2 ?_ ?_)<;>intro _h|intro _h);all_goals ((first|replace _h:=of_decide_eq_true _h|replace _h:=of_decide_eq_false _h|skip);(try simp only [Bool.not_eq_true',Bool.not_eq_false',Bool.not_true,Bool.not_false,decide_eq_true_eq,decide_eq_false_iff_not] at _h);(try (guard_hyp _h : True;clear _h));first|done|contradiction|(conv=>whnf)))|(refine And.intro ?_ ?_;(focus (first|rfl|decide|assumption|omega|decide +kernel|exact ⟨rfl, rfl⟩|exact ⟨rfl, rfl, rfl, rfl⟩|exact fun h => Bool.noConfusion h|exact fun _ => rfl|exact Nat.le_of_ble_eq_true rfl|(simp only [List.length_map, List.length_append, List.length_replicate, List.length_take, List.length_drop, List.length_set, List.length_cons, List.length_nil]; omega)));(conv=>whnf))))
  refine acallI (k_from q (m.length / 4) hq (by omega) (by omega)) rfl fun r hr => ?_
  obtain ⟨t, rfl, htl, htw, htv⟩ := hr
  ((conv=>whnf);repeat' (first|((first|refine pickT ?_ ?_|refine pickT2 ?_ ?_);(focus (first|assumption|exact dT (by first|assumption|omega)|exact nT (by first|assumption|omega)|exact nbT (by assumption)|rfl));(conv=>whnf))|((first|refine pickF ?_ ?_|refine pickF2 ?_ ?_);(focus (first|assumption|exact dF (by first|assumption|omega)|exact nF (by first|assumption|omega)|exact nbF (by assumption)|rfl));(conv=>whnf))|((first|(first|refine splitB ?_ ?_|refine splitB2 ?_ ?_)<;>intro _h|intro _h);all_goals ((first|replace _h:=of_decide_eq_true _h|replace _h:=of_decide_eq_false _h|skip);(try simp only [Bool.not_eq_true',Bool.not_eq_false',Bool.not_true,Bool.not_false,decide_eq_true_eq,decide_eq_false_iff_not] at _h);(try (guard_hyp _h : True;clear _h));first|done|contradiction|(conv=>whnf)))|(refine And.intro ?_ ?_;(focus (first|rfl|decide|assumption|omega|decide +kernel|exact ⟨rfl, rfl⟩|exact ⟨rfl, rfl, rfl, rfl⟩|exact fun h => Bool.noConfusion h|exact fun _ => rfl|exact Nat.le_of_ble_eq_true rfl|(simp only [List.length_map, List.length_append, List.length_replicate, List.length_take, List.length_drop, List.length_set, List.length_cons, List.length_nil]; omega)));(conv=>whnf))))
  have hmv : val n = bn m := hnv
  have hps : val s = bn p := hsv
  have hqt : val t = bn q := htv
  refine acallI (f22 n n0 rr s t hR hsw htw) rfl fun r hr => ?_
  have e1 : notEl n s = false := by
    unfold notEl
    rw [decide_eq_false (by omega), decide_eq_false (by omega)]; rfl
  have e2 : notEl n t = false := by
    unfold notEl
    rw [decide_eq_false (by omega), decide_eq_false (by omega)]; rfl
  rw [e1, e2, if_neg (by simp)] at hr
  obtain ⟨z, rfl, hzl, hzw, hzv⟩ := hr
  ((conv=>whnf);repeat' (first|((first|refine pickT ?_ ?_|refine pickT2 ?_ ?_);(focus (first|assumption|exact dT (by first|assumption|omega)|exact nT (by first|assumption|omega)|exact nbT (by assumption)|rfl));(conv=>whnf))|((first|refine pickF ?_ ?_|refine pickF2 ?_ ?_);(focus (first|assumption|exact dF (by first|assumption|omega)|exact nF (by first|assumption|omega)|exact nbF (by assumption)|rfl));(conv=>whnf))|((first|(first|refine splitB ?_ ?_|refine splitB2 ?_ ?_)<;>intro _h|intro _h);all_goals ((first|replace _h:=of_decide_eq_true _h|replace _h:=of_decide_eq_false _h|skip);(try simp only [Bool.not_eq_true',Bool.not_eq_false',Bool.not_true,Bool.not_false,decide_eq_true_eq,decide_eq_false_iff_not] at _h);(try (guard_hyp _h : True;clear _h));first|done|contradiction|(conv=>whnf)))|(refine And.intro ?_ ?_;(focus (first|rfl|decide|assumption|omega|decide +kernel|exact ⟨rfl, rfl⟩|exact ⟨rfl, rfl, rfl, rfl⟩|exact fun h => Bool.noConfusion h|exact fun _ => rfl|exact Nat.le_of_ble_eq_true rfl|(simp only [List.length_map, List.length_append, List.length_replicate, List.length_take, List.length_drop, List.length_set, List.length_cons, List.length_nil]; omega)));(conv=>whnf))))
  rw [hmv, hps, hqt] at hzv
  refine acallI (k_bytes z m.length hzw ?_ (by omega) ?_) rfl fun r hr => ?_
  · unfold bad
    rw [hzl, decide_eq_false (by omega), decide_eq_false (by omega)]
    rfl
  · rw [hzv]
    have a1 := Int.emod_lt_of_pos (bn p * bn q) (show 0 < bn m by omega)
    have a2 := dval_lt hm.reverse
    rw [List.length_reverse] at a2
    have a3 : bn m < dpw m.length := a2
    omega
  · subst hr
    ((conv=>whnf);repeat' (first|((first|refine pickT ?_ ?_|refine pickT2 ?_ ?_);(focus (first|assumption|exact dT (by first|assumption|omega)|exact nT (by first|assumption|omega)|exact nbT (by assumption)|rfl));(conv=>whnf))|((first|refine pickF ?_ ?_|refine pickF2 ?_ ?_);(focus (first|assumption|exact dF (by first|assumption|omega)|exact nF (by first|assumption|omega)|exact nbF (by assumption)|rfl));(conv=>whnf))|((first|(first|refine splitB ?_ ?_|refine splitB2 ?_ ?_)<;>intro _h|intro _h);all_goals ((first|replace _h:=of_decide_eq_true _h|replace _h:=of_decide_eq_false _h|skip);(try simp only [Bool.not_eq_true',Bool.not_eq_false',Bool.not_true,Bool.not_false,decide_eq_true_eq,decide_eq_false_iff_not] at _h);(try (guard_hyp _h : True;clear _h));first|done|contradiction|(conv=>whnf)))|(refine And.intro ?_ ?_;(focus (first|rfl|decide|assumption|omega|decide +kernel|exact ⟨rfl, rfl⟩|exact ⟨rfl, rfl, rfl, rfl⟩|exact fun h => Bool.noConfusion h|exact fun _ => rfl|exact Nat.le_of_ble_eq_true rfl|(simp only [List.length_map, List.length_append, List.length_replicate, List.length_take, List.length_drop, List.length_set, List.length_cons, List.length_nil]; omega)));(conv=>whnf))))
    exact Ends.imm rfl (by rw [hzv])

theorem powV_cases (m block exp : List Int) : (∃ e : Int, e ≠ 0 ∧ powV m block exp = .tup [.nls (byt []), i64 e]) ∨ block.length = m.length ∧ bn block < bn m ∧ exp.length ≤ 1024 ∧ powV m block exp = .tup [.d (byt (be m.length (bn block ^ ev exp % bn m).toNat)), i64 0] := by
  unfold powV
  by_cases h1 : block.length ≠ m.length
  · rw [if_pos h1]; exact .inl ⟨24, by decide, rfl⟩
  · rw [if_neg h1]
    by_cases h2 : bn m ≤ bn block
    · rw [if_pos h2]; exact .inl ⟨13, by decide, rfl⟩
    · rw [if_neg h2]
      by_cases h3 : 1024 < exp.length
      · rw [if_pos h3]; exact .inl ⟨11, by decide, rfl⟩
      · rw [if_neg h3]; exact .inr ⟨by omega, by omega, by omega, rfl⟩

theorem be_len {n v : Nat} : (be n v).length = n := be_length n v

def toldKP : AW.Told := ⟨fun _ => false, fun r i => if r == 14 && i == 0 then [7, 14] else [], fun r => if r == 16 then .take 0 (.take 1 (.take 2 (.take 3 (.take 5 (.take 6 (.take 7 (.two 4 (.one 8 (.take 9 (.take 10 (.take 11 (.take 12 .done))))) 8 (.take 4 (.take 9 (.take 10 (.take 11 (.take 12 .done)))))))))))) else .done⟩

theorem idx_small {which : Int} (h : 0 ≤ which ∧ which ≤ 2) : (idx which = 0 ∧ which = 0) ∨ (idx which = 1 ∧ which = 1) ∨ (idx which = 2 ∧ which = 2) := by
  have : which = 0 ∨ which = 1 ∨ which = 2 := by omega
  rcases this with rfl | rfl | rfl
  · exact .inl ⟨rfl, rfl⟩
  · exact .inr (.inl ⟨rfl, rfl⟩)
  · exact .inr (.inr ⟨rfl, rfl⟩)
theorem modB_right (k : Nat) (hk : k ≤ 3) : notMod (modB k) = 0 := by
  have : k = 0 ∨ k = 1 ∨ k = 2 ∨ k = 3 := by omega
  rcases this with rfl | rfl | rfl | rfl <;> decide +kernel
theorem idx_le (k : Int) : idx k ≤ 3 := by
  unfold idx
  repeat' split
  all_goals omega
theorem keyL_le (k : Nat) : 64 ≤ keyL k ∧ keyL k ≤ 256 := by
  unfold keyL
  split <;> omega

theorem l_keyProducts (hG : Globs.gl 0 = some EXP) (which : Int) (a b : List Int) (ha : wfd a) (hb : wfd b) :
    Imm Tryd.prog 5 [i64 which, .d (byt a), .d (byt b)] (fun r => r = bool true) := by
  (refine Imm.of_awp toldKP [] Tryd.func5 rfl (by decide) (Nat.le_of_ble_eq_true rfl) ?_; intro _w0 _S0 _E0 _B0; ((conv=>whnf);repeat' (first|((first|refine pickT ?_ ?_|refine pickT2 ?_ ?_);(focus (first|assumption|exact dT (by assumption)|exact nT (by assumption)|exact nbT (by assumption)|rfl));(conv=>whnf))|((first|refine pickF ?_ ?_|refine pickF2 ?_ ?_);(focus (first|assumption|exact dF (by assumption)|exact nF (by assumption)|exact nbF (by assumption)|rfl));(conv=>whnf))|((first|(first|refine splitB ?_ ?_|refine splitB2 ?_ ?_)<;>intro _h|intro _h);all_goals ((first|replace _h:=of_decide_eq_true _h|replace _h:=of_decide_eq_false _h|skip);(try simp only [Bool.not_eq_true',Bool.not_eq_false',Bool.not_true,Bool.not_false,decide_eq_true_eq,decide_eq_false_iff_not] at _h);(try (guard_hyp _h : True;clear _h));first|done|contradiction|(conv=>whnf)))|(refine And.intro ?_ ?_;(focus (first|rfl|decide|assumption|omega|decide +kernel|exact ⟨rfl, rfl⟩|exact ⟨rfl, rfl, rfl, rfl⟩|exact fun h => Bool.noConfusion h|exact fun _ => rfl|exact Nat.le_of_ble_eq_true rfl|(simp only [List.length_map, List.length_append, List.length_replicate, List.length_take, List.length_drop, List.length_set, List.length_cons, List.length_nil]; omega)));(conv=>whnf)))))
  refine acallI (k_anchor hG) rfl fun r hr => ?_
  subst hr
  ((conv=>whnf);repeat' (first|((first|refine pickT ?_ ?_|refine pickT2 ?_ ?_);(focus (first|assumption|exact dT (by first|assumption|omega)|exact nT (by first|assumption|omega)|exact nbT (by assumption)|rfl));(conv=>whnf))|((first|refine pickF ?_ ?_|refine pickF2 ?_ ?_);(focus (first|assumption|exact dF (by first|assumption|omega)|exact nF (by first|assumption|omega)|exact nbF (by assumption)|rfl));(conv=>whnf))|((first|(first|refine splitB ?_ ?_|refine splitB2 ?_ ?_)<;>intro _h|intro _h);all_goals ((first|replace _h:=of_decide_eq_true _h|replace _h:=of_decide_eq_false _h|skip);(try simp only [Bool.not_eq_true',Bool.not_eq_false',Bool.not_true,Bool.not_false,decide_eq_true_eq,decide_eq_false_iff_not] at _h);(try (guard_hyp _h : True;clear _h));first|done|contradiction|(conv=>whnf)))|(refine And.intro ?_ ?_;(focus (first|rfl|decide|assumption|omega|decide +kernel|exact ⟨rfl, rfl⟩|exact ⟨rfl, rfl, rfl, rfl⟩|exact fun h => Bool.noConfusion h|exact fun _ => rfl|exact Nat.le_of_ble_eq_true rfl|(simp only [List.length_map, List.length_append, List.length_replicate, List.length_take, List.length_drop, List.length_set, List.length_cons, List.length_nil]; omega)));(conv=>whnf))))
  all_goals first | exact Ends.imm rfl rfl | skip
  have hm := modB_wfd (idx which)
  have hlm : (modB (idx which)).length = keyL (idx which) := modB_len _
  have hkl := keyL_le (idx which)
  have hri := modB_right (idx which) (idx_le which)
  refine acallI (k_modulus which) rfl fun r hr => ?_
  subst hr
  generalize modB (idx which) = m at *
  ((conv=>whnf);repeat' (first|((first|refine pickT ?_ ?_|refine pickT2 ?_ ?_);(focus (first|assumption|exact dT (by first|assumption|omega)|exact nT (by first|assumption|omega)|exact nbT (by assumption)|rfl));(conv=>whnf))|((first|refine pickF ?_ ?_|refine pickF2 ?_ ?_);(focus (first|assumption|exact dF (by first|assumption|omega)|exact nF (by first|assumption|omega)|exact nbF (by assumption)|rfl));(conv=>whnf))|((first|(first|refine splitB ?_ ?_|refine splitB2 ?_ ?_)<;>intro _h|intro _h);all_goals ((first|replace _h:=of_decide_eq_true _h|replace _h:=of_decide_eq_false _h|skip);(try simp only [Bool.not_eq_true',Bool.not_eq_false',Bool.not_true,Bool.not_false,decide_eq_true_eq,decide_eq_false_iff_not] at _h);(try (guard_hyp _h : True;clear _h));first|done|contradiction|(conv=>whnf)))|(refine And.intro ?_ ?_;(focus (first|rfl|decide|assumption|omega|decide +kernel|exact ⟨rfl, rfl⟩|exact ⟨rfl, rfl, rfl, rfl⟩|exact fun h => Bool.noConfusion h|exact fun _ => rfl|exact Nat.le_of_ble_eq_true rfl|(simp only [List.length_map, List.length_append, List.length_replicate, List.length_take, List.length_drop, List.length_set, List.length_cons, List.length_nil]; omega)));(conv=>whnf))))
  refine acallI (k_make m hm (by unfold LIM; omega)) rfl fun r hr => ?_
  rw [if_neg (by simp [hri])] at hr
  obtain ⟨n, n0, rr, rfl, hk⟩ := hr
  ((conv=>whnf);repeat' (first|((first|refine pickT ?_ ?_|refine pickT2 ?_ ?_);(focus (first|assumption|exact dT (by first|assumption|omega)|exact nT (by first|assumption|omega)|exact nbT (by assumption)|rfl));(conv=>whnf))|((first|refine pickF ?_ ?_|refine pickF2 ?_ ?_);(focus (first|assumption|exact dF (by first|assumption|omega)|exact nF (by first|assumption|omega)|exact nbF (by assumption)|rfl));(conv=>whnf))|((first|(first|refine splitB ?_ ?_|refine splitB2 ?_ ?_)<;>intro _h|intro _h);all_goals ((first|replace _h:=of_decide_eq_true _h|replace _h:=of_decide_eq_false _h|skip);(try simp only [Bool.not_eq_true',Bool.not_eq_false',Bool.not_true,Bool.not_false,decide_eq_true_eq,decide_eq_false_iff_not] at _h);(try (guard_hyp _h : True;clear _h));first|done|contradiction|(conv=>whnf)))|(refine And.intro ?_ ?_;(focus (first|rfl|decide|assumption|omega|decide +kernel|exact ⟨rfl, rfl⟩|exact ⟨rfl, rfl, rfl, rfl⟩|exact fun h => Bool.noConfusion h|exact fun _ => rfl|exact Nat.le_of_ble_eq_true rfl|(simp only [List.length_map, List.length_append, List.length_replicate, List.length_take, List.length_drop, List.length_set, List.length_cons, List.length_nil]; omega)));(conv=>whnf))))
  refine acallI (k_open hG m n n0 rr hk a ha) rfl fun r hr => ?_
  obtain ⟨hp1, hp2, hp3, hsz⟩ := hk.pos
  have hlt := be_mod_lt hk
  have ml : ∀ v : Int, 0 ≤ v % bn m ∧ v % bn m < bn m := fun v => ⟨Int.emod_nonneg _ (by omega), Int.emod_lt_of_pos _ (by omega)⟩
  rcases powV_cases m a [1, 0, 1] with ⟨e, he, h⟩ | ⟨hal, ham, _, h⟩
  · rw [h] at hr
    subst hr
    ((conv=>whnf);repeat' (first|((first|refine pickT ?_ ?_|refine pickT2 ?_ ?_);(focus (first|assumption|exact dT (by first|assumption|omega)|exact nT (by first|assumption|omega)|exact nbT (by assumption)|rfl));(conv=>whnf))|((first|refine pickF ?_ ?_|refine pickF2 ?_ ?_);(focus (first|assumption|exact dF (by first|assumption|omega)|exact nF (by first|assumption|omega)|exact nbF (by assumption)|rfl));(conv=>whnf))|((first|(first|refine splitB ?_ ?_|refine splitB2 ?_ ?_)<;>intro _h|intro _h);all_goals ((first|replace _h:=of_decide_eq_true _h|replace _h:=of_decide_eq_false _h|skip);(try simp only [Bool.not_eq_true',Bool.not_eq_false',Bool.not_true,Bool.not_false,decide_eq_true_eq,decide_eq_false_iff_not] at _h);(try (guard_hyp _h : True;clear _h));first|done|contradiction|(conv=>whnf)))|(refine And.intro ?_ ?_;(focus (first|rfl|decide|assumption|omega|decide +kernel|exact ⟨rfl, rfl⟩|exact ⟨rfl, rfl, rfl, rfl⟩|exact fun h => Bool.noConfusion h|exact fun _ => rfl|exact Nat.le_of_ble_eq_true rfl|(simp only [List.length_map, List.length_append, List.length_replicate, List.length_take, List.length_drop, List.length_set, List.length_cons, List.length_nil]; omega)));(conv=>whnf))))
    refine acallI (k_open hG m n n0 rr hk b hb) rfl fun r hr => ?_
    rcases powV_form m b [1, 0, 1] with ⟨e', h'⟩ | ⟨zs, h'⟩ <;> rw [h'] at hr <;> subst hr
    · ((conv=>whnf);repeat' (first|((first|refine pickT ?_ ?_|refine pickT2 ?_ ?_);(focus (first|assumption|exact dT (by first|assumption|omega)|exact nT (by first|assumption|omega)|exact nbT (by assumption)|rfl));(conv=>whnf))|((first|refine pickF ?_ ?_|refine pickF2 ?_ ?_);(focus (first|assumption|exact dF (by first|assumption|omega)|exact nF (by first|assumption|omega)|exact nbF (by assumption)|rfl));(conv=>whnf))|((first|(first|refine splitB ?_ ?_|refine splitB2 ?_ ?_)<;>intro _h|intro _h);all_goals ((first|replace _h:=of_decide_eq_true _h|replace _h:=of_decide_eq_false _h|skip);(try simp only [Bool.not_eq_true',Bool.not_eq_false',Bool.not_true,Bool.not_false,decide_eq_true_eq,decide_eq_false_iff_not] at _h);(try (guard_hyp _h : True;clear _h));first|done|contradiction|(conv=>whnf)))|(refine And.intro ?_ ?_;(focus (first|rfl|decide|assumption|omega|decide +kernel|exact ⟨rfl, rfl⟩|exact ⟨rfl, rfl, rfl, rfl⟩|exact fun h => Bool.noConfusion h|exact fun _ => rfl|exact Nat.le_of_ble_eq_true rfl|(simp only [List.length_map, List.length_append, List.length_replicate, List.length_take, List.length_drop, List.length_set, List.length_cons, List.length_nil]; omega)));(conv=>whnf))))
      exact Ends.imm rfl rfl
    · ((conv=>whnf);repeat' (first|((first|refine pickT ?_ ?_|refine pickT2 ?_ ?_);(focus (first|assumption|exact dT (by first|assumption|omega)|exact nT (by first|assumption|omega)|exact nbT (by assumption)|rfl));(conv=>whnf))|((first|refine pickF ?_ ?_|refine pickF2 ?_ ?_);(focus (first|assumption|exact dF (by first|assumption|omega)|exact nF (by first|assumption|omega)|exact nbF (by assumption)|rfl));(conv=>whnf))|((first|(first|refine splitB ?_ ?_|refine splitB2 ?_ ?_)<;>intro _h|intro _h);all_goals ((first|replace _h:=of_decide_eq_true _h|replace _h:=of_decide_eq_false _h|skip);(try simp only [Bool.not_eq_true',Bool.not_eq_false',Bool.not_true,Bool.not_false,decide_eq_true_eq,decide_eq_false_iff_not] at _h);(try (guard_hyp _h : True;clear _h));first|done|contradiction|(conv=>whnf)))|(refine And.intro ?_ ?_;(focus (first|rfl|decide|assumption|omega|decide +kernel|exact ⟨rfl, rfl⟩|exact ⟨rfl, rfl, rfl, rfl⟩|exact fun h => Bool.noConfusion h|exact fun _ => rfl|exact Nat.le_of_ble_eq_true rfl|(simp only [List.length_map, List.length_append, List.length_replicate, List.length_take, List.length_drop, List.length_set, List.length_cons, List.length_nil]; omega)));(conv=>whnf))))
      exact Ends.imm rfl rfl
  · rw [h] at hr
    subst hr
    ((conv=>whnf);repeat' (first|((first|refine pickT ?_ ?_|refine pickT2 ?_ ?_);(focus (first|assumption|exact dT (by first|assumption|omega)|exact nT (by first|assumption|omega)|exact nbT (by assumption)|rfl));(conv=>whnf))|((first|refine pickF ?_ ?_|refine pickF2 ?_ ?_);(focus (first|assumption|exact dF (by first|assumption|omega)|exact nF (by first|assumption|omega)|exact nbF (by assumption)|rfl));(conv=>whnf))|((first|(first|refine splitB ?_ ?_|refine splitB2 ?_ ?_)<;>intro _h|intro _h);all_goals ((first|replace _h:=of_decide_eq_true _h|replace _h:=of_decide_eq_false _h|skip);(try simp only [Bool.not_eq_true',Bool.not_eq_false',Bool.not_true,Bool.not_false,decide_eq_true_eq,decide_eq_false_iff_not] at _h);(try (guard_hyp _h : True;clear _h));first|done|contradiction|(conv=>whnf)))|(refine And.intro ?_ ?_;(focus (first|rfl|decide|assumption|omega|decide +kernel|exact ⟨rfl, rfl⟩|exact ⟨rfl, rfl, rfl, rfl⟩|exact fun h => Bool.noConfusion h|exact fun _ => rfl|exact Nat.le_of_ble_eq_true rfl|(simp only [List.length_map, List.length_append, List.length_replicate, List.length_take, List.length_drop, List.length_set, List.length_cons, List.length_nil]; omega)));(conv=>whnf))))
    refine acallI (k_open hG m n n0 rr hk b hb) rfl fun r hr => ?_
    rcases powV_cases m b [1, 0, 1] with ⟨e', he', h'⟩ | ⟨hbl, hbm, _, h'⟩
    · rw [h'] at hr
      subst hr
      ((conv=>whnf);repeat' (first|((first|refine pickT ?_ ?_|refine pickT2 ?_ ?_);(focus (first|assumption|exact dT (by first|assumption|omega)|exact nT (by first|assumption|omega)|exact nbT (by assumption)|rfl));(conv=>whnf))|((first|refine pickF ?_ ?_|refine pickF2 ?_ ?_);(focus (first|assumption|exact dF (by first|assumption|omega)|exact nF (by first|assumption|omega)|exact nbF (by assumption)|rfl));(conv=>whnf))|((first|(first|refine splitB ?_ ?_|refine splitB2 ?_ ?_)<;>intro _h|intro _h);all_goals ((first|replace _h:=of_decide_eq_true _h|replace _h:=of_decide_eq_false _h|skip);(try simp only [Bool.not_eq_true',Bool.not_eq_false',Bool.not_true,Bool.not_false,decide_eq_true_eq,decide_eq_false_iff_not] at _h);(try (guard_hyp _h : True;clear _h));first|done|contradiction|(conv=>whnf)))|(refine And.intro ?_ ?_;(focus (first|rfl|decide|assumption|omega|decide +kernel|exact ⟨rfl, rfl⟩|exact ⟨rfl, rfl, rfl, rfl⟩|exact fun h => Bool.noConfusion h|exact fun _ => rfl|exact Nat.le_of_ble_eq_true rfl|(simp only [List.length_map, List.length_append, List.length_replicate, List.length_take, List.length_drop, List.length_set, List.length_cons, List.length_nil]; omega)));(conv=>whnf))))
      exact Ends.imm rfl rfl
    · rw [h'] at hr
      subst hr
      have e4 : IntKind.i64.wrap ((m.length : Int).tdiv 4) = (m.length / 4 : Nat) := by rw [Int.tdiv_eq_ediv_of_nonneg (by omega), wrap_i64 (by omega) (by omega)]; omega
      ((conv=>whnf);repeat' (first|((first|refine pickT ?_ ?_|refine pickT2 ?_ ?_);(focus (first|assumption|exact dT (by first|assumption|omega)|exact nT (by first|assumption|omega)|exact nbT (by assumption)|rfl));(conv=>whnf))|((first|refine pickF ?_ ?_|refine pickF2 ?_ ?_);(focus (first|assumption|exact dF (by first|assumption|omega)|exact nF (by first|assumption|omega)|exact nbF (by assumption)|rfl));(conv=>whnf))|((first|(first|refine splitB ?_ ?_|refine splitB2 ?_ ?_)<;>intro _h|intro _h);all_goals ((first|replace _h:=of_decide_eq_true _h|replace _h:=of_decide_eq_false _h|skip);(try simp only [Bool.not_eq_true',Bool.not_eq_false',Bool.not_true,Bool.not_false,decide_eq_true_eq,decide_eq_false_iff_not] at _h);(try (guard_hyp _h : True;clear _h));first|done|contradiction|(conv=>whnf)))|(refine And.intro ?_ ?_;(focus (first|rfl|decide|assumption|omega|decide +kernel|exact ⟨rfl, rfl⟩|exact ⟨rfl, rfl, rfl, rfl⟩|exact fun h => Bool.noConfusion h|exact fun _ => rfl|exact Nat.le_of_ble_eq_true rfl|(simp only [List.length_map, List.length_append, List.length_replicate, List.length_take, List.length_drop, List.length_set, List.length_cons, List.length_nil]; omega)));(conv=>whnf))))
      rw [e4]
      refine acallI (k_times m a b hm ha hb hri hal hbl ham hbm) rfl fun r hr => ?_
      subst hr
      ((conv=>whnf);repeat' (first|((first|refine pickT ?_ ?_|refine pickT2 ?_ ?_);(focus (first|assumption|exact dT (by first|assumption|omega)|exact nT (by first|assumption|omega)|exact nbT (by assumption)|rfl));(conv=>whnf))|((first|refine pickF ?_ ?_|refine pickF2 ?_ ?_);(focus (first|assumption|exact dF (by first|assumption|omega)|exact nF (by first|assumption|omega)|exact nbF (by assumption)|rfl));(conv=>whnf))|((first|(first|refine splitB ?_ ?_|refine splitB2 ?_ ?_)<;>intro _h|intro _h);all_goals ((first|replace _h:=of_decide_eq_true _h|replace _h:=of_decide_eq_false _h|skip);(try simp only [Bool.not_eq_true',Bool.not_eq_false',Bool.not_true,Bool.not_false,decide_eq_true_eq,decide_eq_false_iff_not] at _h);(try (guard_hyp _h : True;clear _h));first|done|contradiction|(conv=>whnf)))|(refine And.intro ?_ ?_;(focus (first|rfl|decide|assumption|omega|decide +kernel|exact ⟨rfl, rfl⟩|exact ⟨rfl, rfl, rfl, rfl⟩|exact fun h => Bool.noConfusion h|exact fun _ => rfl|exact Nat.le_of_ble_eq_true rfl|(simp only [List.length_map, List.length_append, List.length_replicate, List.length_take, List.length_drop, List.length_set, List.length_cons, List.length_nil]; omega)));(conv=>whnf))))
      refine acallI (k_open hG m n n0 rr hk (be m.length (bn a * bn b % bn m).toNat) (be_wfd _ _)) rfl fun r hr => ?_
      have e5 : bn (be m.length (bn a * bn b % bn m).toNat) = bn a * bn b % bn m := bn_beI (ml _).1 (by have := (ml (bn a * bn b)).2; omega)
      rcases powV_cases m (be m.length (bn a * bn b % bn m).toNat) [1, 0, 1] with ⟨e, he, h3⟩ | ⟨_, _, _, h3⟩
      · exfalso
        unfold powV at h3
        rw [if_neg (by rw [be_length]; simp), e5, if_neg (by have := (ml (bn a * bn b)).2; omega), if_neg (by decide)] at h3
        injection h3 with h3
        injection h3 with h3 h4
        exact absurd h3 (by simp)
      · rw [h3, e5] at hr
        subst hr
        ((conv=>whnf);repeat' (first|((first|refine pickT ?_ ?_|refine pickT2 ?_ ?_);(focus (first|assumption|exact dT (by first|assumption|omega)|exact nT (by first|assumption|omega)|exact nbT (by assumption)|rfl));(conv=>whnf))|((first|refine pickF ?_ ?_|refine pickF2 ?_ ?_);(focus (first|assumption|exact dF (by first|assumption|omega)|exact nF (by first|assumption|omega)|exact nbF (by assumption)|rfl));(conv=>whnf))|((first|(first|refine splitB ?_ ?_|refine splitB2 ?_ ?_)<;>intro _h|intro _h);all_goals ((first|replace _h:=of_decide_eq_true _h|replace _h:=of_decide_eq_false _h|skip);(try simp only [Bool.not_eq_true',Bool.not_eq_false',Bool.not_true,Bool.not_false,decide_eq_true_eq,decide_eq_false_iff_not] at _h);(try (guard_hyp _h : True;clear _h));first|done|contradiction|(conv=>whnf)))|(refine And.intro ?_ ?_;(focus (first|rfl|decide|assumption|omega|decide +kernel|exact ⟨rfl, rfl⟩|exact ⟨rfl, rfl, rfl, rfl⟩|exact fun h => Bool.noConfusion h|exact fun _ => rfl|exact Nat.le_of_ble_eq_true rfl|(simp only [List.length_map, List.length_append, List.length_replicate, List.length_take, List.length_drop, List.length_set, List.length_cons, List.length_nil]; omega)));(conv=>whnf))))
        have e6 : ∀ c : List Int, bn (be m.length (bn c ^ ev [1, 0, 1] % bn m).toNat) = bn c ^ ev [1, 0, 1] % bn m := fun c => bn_beI (ml _).1 (by have := (ml (bn c ^ ev [1, 0, 1])).2; omega)
        refine And.intro ?_ ?_
        all_goals ((conv=>whnf);repeat' (first|((first|refine pickT ?_ ?_|refine pickT2 ?_ ?_);(focus (first|assumption|exact dT (by first|assumption|omega)|exact nT (by first|assumption|omega)|exact nbT (by assumption)|rfl));(conv=>whnf))|((first|refine pickF ?_ ?_|refine pickF2 ?_ ?_);(focus (first|assumption|exact dF (by first|assumption|omega)|exact nF (by first|assumption|omega)|exact nbF (by assumption)|rfl));(conv=>whnf))|((first|(first|refine splitB ?_ ?_|refine splitB2 ?_ ?_)<;>intro _h|intro _h);all_goals ((first|replace _h:=of_decide_eq_true _h|replace _h:=of_decide_eq_false _h|skip);(try simp only [Bool.not_eq_true',Bool.not_eq_false',Bool.not_true,Bool.not_false,decide_eq_true_eq,decide_eq_false_iff_not] at _h);(try (guard_hyp _h : True;clear _h));first|done|contradiction|(conv=>whnf)))|(refine And.intro ?_ ?_;(focus (first|rfl|decide|assumption|omega|decide +kernel|exact ⟨rfl, rfl⟩|exact ⟨rfl, rfl, rfl, rfl⟩|exact fun h => Bool.noConfusion h|exact fun _ => rfl|exact Nat.le_of_ble_eq_true rfl|(simp only [List.length_map, List.length_append, List.length_replicate, List.length_take, List.length_drop, List.length_set, List.length_cons, List.length_nil]; omega)));(conv=>whnf))))
        all_goals
          refine acallI (k_times m _ _ hm (be_wfd m.length (bn a ^ ev [1, 0, 1] % bn m).toNat) (be_wfd m.length (bn b ^ ev [1, 0, 1] % bn m).toNat) hri (be_length _ _) (be_length _ _) (by rw [e6]; exact (ml _).2) (by rw [e6]; exact (ml _).2)) rfl fun r hr => ?_
          rw [e6, e6] at hr
          subst hr
          ((conv=>whnf);repeat' (first|((first|refine pickT ?_ ?_|refine pickT2 ?_ ?_);(focus (first|assumption|exact dT (by first|assumption|omega)|exact nT (by first|assumption|omega)|exact nbT (by assumption)|rfl));(conv=>whnf))|((first|refine pickF ?_ ?_|refine pickF2 ?_ ?_);(focus (first|assumption|exact dF (by first|assumption|omega)|exact nF (by first|assumption|omega)|exact nbF (by assumption)|rfl));(conv=>whnf))|((first|(first|refine splitB ?_ ?_|refine splitB2 ?_ ?_)<;>intro _h|intro _h);all_goals ((first|replace _h:=of_decide_eq_true _h|replace _h:=of_decide_eq_false _h|skip);(try simp only [Bool.not_eq_true',Bool.not_eq_false',Bool.not_true,Bool.not_false,decide_eq_true_eq,decide_eq_false_iff_not] at _h);(try (guard_hyp _h : True;clear _h));first|done|contradiction|(conv=>whnf)))|(refine And.intro ?_ ?_;(focus (first|rfl|decide|assumption|omega|decide +kernel|exact ⟨rfl, rfl⟩|exact ⟨rfl, rfl, rfl, rfl⟩|exact fun h => Bool.noConfusion h|exact fun _ => rfl|exact Nat.le_of_ble_eq_true rfl|(simp only [List.length_map, List.length_append, List.length_replicate, List.length_take, List.length_drop, List.length_set, List.length_cons, List.length_nil]; omega)));(conv=>whnf))))
          refine Ends.imm rfl ?_
          have e7 : (bn a * bn b % bn m) ^ ev [1, 0, 1] % bn m = (bn a ^ ev [1, 0, 1] % bn m) * (bn b ^ ev [1, 0, 1] % bn m) % bn m := by
            rw [← Int.mul_emod, ← Int.mul_pow, int_pow_mod]
          simp [e7]
end Go.Proofs.YtniaeiikdgbnfaaDoor.R

/- The key's code, part 17: stretches and numbers in bytes. -/
namespace Go.Proofs.YtniaeiikdgbnfaaDoor.R
open Go Go.RowKit Go.Proofs Go.Proofs.YtniaeiikdgbnfaaDoor.AW
set_option linter.unusedSectionVars false
variable [Globs]
set_option maxRecDepth 100000
set_option linter.unusedSimpArgs false
set_option linter.unusedVariables false
set_option maxHeartbeats 4000000

theorem db {p q : Prop} [Decidable p] [Decidable q] (h : p ↔ q) : AVal.d (.bool (decide p)) = bool (decide q) := by
  rw [decide_eq_decide.2 h]

/-- Does a stretch lie within so many bytes? -/
def inside (o l t : Int) : Bool := decide (0 ≤ o ∧ 0 ≤ l ∧ 0 ≤ t ∧ o ≤ t ∧ l ≤ t - o)

theorem k_within (o l t : Int) (ht : t ≤ LIM) : Imm Tryd.prog 96 [i64 o, i64 l, i64 t] (fun r => r = bool (inside o l t)) := by
  unfold LIM at ht
  (refine Imm.of_awp told0 [] Tryd.func96 rfl (by decide) (Nat.le_of_ble_eq_true rfl) ?_; intro _w0 _S0 _E0 _B0; ((conv=>whnf);repeat' (first|((first|refine pickT ?_ ?_|refine pickT2 ?_ ?_);(focus (first|assumption|exact dT (by assumption)|exact nT (by assumption)|exact nbT (by assumption)|rfl));(conv=>whnf))|((first|refine pickF ?_ ?_|refine pickF2 ?_ ?_);(focus (first|assumption|exact dF (by assumption)|exact nF (by assumption)|exact nbF (by assumption)|rfl));(conv=>whnf))|((first|(first|refine splitB ?_ ?_|refine splitB2 ?_ ?_)<;>intro _h|intro _h);all_goals ((first|replace _h:=of_decide_eq_true _h|replace _h:=of_decide_eq_false _h|skip);(try simp only [Bool.not_eq_true',Bool.not_eq_false',Bool.not_true,Bool.not_false,decide_eq_true_eq,decide_eq_false_iff_not] at _h);(try (guard_hyp _h : True;clear _h));first|done|contradiction|(conv=>whnf)))|(refine And.intro ?_ ?_;(focus (first|rfl|decide|assumption|omega|decide +kernel|exact ⟨rfl, rfl⟩|exact ⟨rfl, rfl, rfl, rfl⟩|exact fun h => Bool.noConfusion h|exact fun _ => rfl|exact Nat.le_of_ble_eq_true rfl|(simp only [List.length_map, List.length_append, List.length_replicate, List.length_take, List.length_drop, List.length_set, List.length_cons, List.length_nil]; omega)));(conv=>whnf)))))
  all_goals refine Ends.imm rfl ?_
  all_goals unfold inside
  all_goals first
    | (rw [decide_eq_false (by omega)]; done)
    | (rw [decide_eq_true (by omega)]; done)
    | exact db (by rw [wrap_i64 (by omega) (by omega)]; omega)

theorem k_equal (a b : List Int) : Imm Tryd.prog 63 [.d (byt a), .d (byt b)] (fun r => r = bool (decide (a = b))) := by
  (refine Imm.of_awp told0 [] Tryd.func63 rfl (by decide) (Nat.le_of_ble_eq_true rfl) ?_; intro _w0 _S0 _E0 _B0; ((conv=>whnf);repeat' (first|((first|refine pickT ?_ ?_|refine pickT2 ?_ ?_);(focus (first|assumption|exact dT (by assumption)|exact nT (by assumption)|exact nbT (by assumption)|rfl));(conv=>whnf))|((first|refine pickF ?_ ?_|refine pickF2 ?_ ?_);(focus (first|assumption|exact dF (by assumption)|exact nF (by assumption)|exact nbF (by assumption)|rfl));(conv=>whnf))|((first|(first|refine splitB ?_ ?_|refine splitB2 ?_ ?_)<;>intro _h|intro _h);all_goals ((first|replace _h:=of_decide_eq_true _h|replace _h:=of_decide_eq_false _h|skip);(try simp only [Bool.not_eq_true',Bool.not_eq_false',Bool.not_true,Bool.not_false,decide_eq_true_eq,decide_eq_false_iff_not] at _h);(try (guard_hyp _h : True;clear _h));first|done|contradiction|(conv=>whnf)))|(refine And.intro ?_ ?_;(focus (first|rfl|decide|assumption|omega|decide +kernel|exact ⟨rfl, rfl⟩|exact ⟨rfl, rfl, rfl, rfl⟩|exact fun h => Bool.noConfusion h|exact fun _ => rfl|exact Nat.le_of_ble_eq_true rfl|(simp only [List.length_map, List.length_append, List.length_replicate, List.length_take, List.length_drop, List.length_set, List.length_cons, List.length_nil]; omega)));(conv=>whnf)))))
  refine Ends.imm rfl ?_
  exact db Iff.rfl

theorem bn_snoc (xs : List Int) (x : Int) : bn (xs ++ [x]) = bn xs * 256 + x := by
  unfold bn
  rw [List.reverse_append, List.reverse_singleton, List.singleton_append]
  simp only [dval]
  omega
theorem bn_nil : bn [] = 0 := rfl
theorem bn_lt {xs : List Int} (h : wfd xs) : bn xs < ((256 ^ xs.length : Nat) : Int) := by
  have a2 := dval_lt h.reverse
  rw [List.length_reverse] at a2
  have e : dpw xs.length = ((256 ^ xs.length : Nat) : Int) := by unfold dpw; push_cast; rfl
  rw [← e]
  exact a2

theorem wrap_u64 {n : Int} (h0 : 0 ≤ n) (h1 : n < 18446744073709551616) : IntKind.u64.wrap n = n := wrap_in.2 ⟨by simp only [loK]; omega, by simp only [hiK]; omega⟩

theorem or_u64 (x c : Int) (hx : 0 ≤ x) (hx2 : x < 72057594037927936) (hc : 0 ≤ c) (hc2 : c < 256) :
    bitsK .or .u64 (IntKind.u64.wrap (x * 2 ^ (min (8 : Int).toNat (IntKind.bits .u64)))) (IntKind.u64.wrap c) = x * 256 + c := by
  obtain ⟨a, rfl⟩ : ∃ a : Nat, x = a := ⟨x.toNat, by omega⟩
  obtain ⟨d, rfl⟩ : ∃ a : Nat, c = a := ⟨c.toNat, by omega⟩
  have e0 : (a : Int) * 2 ^ (min (8 : Int).toNat (IntKind.bits .u64)) = ((a * 256 : Nat) : Int) := by
    rw [show min (8 : Int).toNat (IntKind.bits .u64) = 8 from rfl]; push_cast; rfl
  rw [e0, wrap_u64 (by omega) (by omega), wrap_u64 (by omega) (by omega)]
  have e4 : a * 256 ||| d = a * 256 + d := by
    have := Nat.shiftLeft_add_eq_or_of_lt (show d < 2 ^ 8 by omega) a
    rw [Nat.shiftLeft_eq] at this
    exact this.symm
  have e6 : (BitVec.ofInt 64 ((a * 256 : Nat) : Int) ||| BitVec.ofInt 64 (d : Int)).toNat = a * 256 ||| d := by
    simp only [BitVec.ofInt_natCast, BitVec.toNat_or, BitVec.toNat_ofNat]
    rw [Nat.mod_eq_of_lt (by omega), Nat.mod_eq_of_lt (by omega)]
  show IntKind.u64.wrap ((BitVec.ofInt 64 ((a * 256 : Nat) : Int) ||| BitVec.ofInt 64 (d : Int)).toNat : Int) = _
  rw [e6, e4, wrap_u64 (by omega) (by omega)]
  push_cast
  rfl

/-- So many bytes from a place on. -/
def cutB (b : List Int) (off len : Nat) : List Int := (b.take (off + len)).drop off
theorem cutB_len {b : List Int} {off len : Nat} (h : off + len ≤ b.length) : (cutB b off len).length = len := by simp [cutB]; omega
theorem wfd.cut {b : List Int} (h : wfd b) (off len : Nat) : wfd (cutB b off len) := (h.take _).drop _

/-- What Get answers. -/
def getV (b : List Int) (off size : Nat) : Int × Int :=
  if inside off size b.length = false then (0, 10)
  else if 9223372036854775808 ≤ bn (cutB b off size) then (0, 11) else (bn (cutB b off size), 0)

theorem k_get (b : List Int) (off size : Nat) (hb : wfd b) (hl : b.length ≤ LIM) (ho : off ≤ LIM) (hs : 1 ≤ size ∧ size ≤ 8) :
    Imm Tryd.prog 62 [.d (byt b), i64 off, i64 size] (fun r => r = .tup [i64 (getV b off size).1, i64 (getV b off size).2]) := by
  unfold LIM at hl ho
  (refine Imm.of_awp told0 [] Tryd.func62 rfl (by decide) (Nat.le_of_ble_eq_true rfl) ?_; intro _w0 _S0 _E0 _B0; ((conv=>whnf);repeat' (first|((first|refine pickT ?_ ?_|refine pickT2 ?_ ?_);(focus (first|assumption|exact dT (by first|assumption|omega)|exact nT (by first|assumption|omega)|exact nbT (by assumption)|rfl));(conv=>whnf))|((first|refine pickF ?_ ?_|refine pickF2 ?_ ?_);(focus (first|assumption|exact dF (by first|assumption|omega)|exact nF (by first|assumption|omega)|exact nbF (by assumption)|rfl));(conv=>whnf))|((first|(first|refine splitB ?_ ?_|refine splitB2 ?_ ?_)<;>intro _h|intro _h);all_goals ((first|replace _h:=of_decide_eq_true _h|replace _h:=of_decide_eq_false _h|skip);(try simp only [Bool.not_eq_true',Bool.not_eq_false',Bool.not_true,Bool.not_false,decide_eq_true_eq,decide_eq_false_iff_not] at _h);(try (guard_hyp _h : True;clear _h));first|done|contradiction|(conv=>whnf)))|(refine And.intro ?_ ?_;(focus (first|rfl|decide|assumption|omega|decide +kernel|exact ⟨rfl, rfl⟩|exact ⟨rfl, rfl, rfl, rfl⟩|exact fun h => Bool.noConfusion h|exact fun _ => rfl|exact Nat.le_of_ble_eq_true rfl|(simp only [List.length_map, List.length_append, List.length_replicate, List.length_take, List.length_drop, List.length_set, List.length_cons, List.length_nil]; omega)));(conv=>whnf)))))
  refine acallI (k_within off size b.length (by unfold LIM; omega)) rfl fun r hr => ?_
  subst hr
  cases hin : inside off size b.length with
  | false =>
    ((conv=>whnf);repeat' (first|((first|refine pickT ?_ ?_|refine pickT2 ?_ ?_);(focus (first|assumption|exact dT (by first|assumption|omega)|exact nT (by first|assumption|omega)|exact nbT (by assumption)|rfl));(conv=>whnf))|((first|refine pickF ?_ ?_|refine pickF2 ?_ ?_);(focus (first|assumption|exact dF (by first|assumption|omega)|exact nF (by first|assumption|omega)|exact nbF (by assumption)|rfl));(conv=>whnf))|((first|(first|refine splitB ?_ ?_|refine splitB2 ?_ ?_)<;>intro _h|intro _h);all_goals ((first|replace _h:=of_decide_eq_true _h|replace _h:=of_decide_eq_false _h|skip);(try simp only [Bool.not_eq_true',Bool.not_eq_false',Bool.not_true,Bool.not_false,decide_eq_true_eq,decide_eq_false_iff_not] at _h);(try (guard_hyp _h : True;clear _h));first|done|contradiction|(conv=>whnf)))|(refine And.intro ?_ ?_;(focus (first|rfl|decide|assumption|omega|decide +kernel|exact ⟨rfl, rfl⟩|exact ⟨rfl, rfl, rfl, rfl⟩|exact fun h => Bool.noConfusion h|exact fun _ => rfl|exact Nat.le_of_ble_eq_true rfl|(simp only [List.length_map, List.length_append, List.length_replicate, List.length_take, List.length_drop, List.length_set, List.length_cons, List.length_nil]; omega)));(conv=>whnf))))
    exact Ends.imm rfl (by unfold getV; rw [if_pos hin])
  | true =>
    have hin2 : off + size ≤ b.length := by
      have := of_decide_eq_true hin
      omega
    have e1 : IntKind.i64.wrap ((off : Int) + size) = ((off + size : Nat) : Int) := by rw [wrap_i64 (by omega) (by omega)]; omega
    ((conv=>whnf);repeat' (first|((first|refine pickT ?_ ?_|refine pickT2 ?_ ?_);(focus (first|assumption|exact dT (by first|assumption|omega)|exact nT (by first|assumption|omega)|exact nbT (by assumption)|rfl));(conv=>whnf))|((first|refine pickF ?_ ?_|refine pickF2 ?_ ?_);(focus (first|assumption|exact dF (by first|assumption|omega)|exact nF (by first|assumption|omega)|exact nbF (by assumption)|rfl));(conv=>whnf))|((first|(first|refine splitB ?_ ?_|refine splitB2 ?_ ?_)<;>intro _h|intro _h);all_goals ((first|replace _h:=of_decide_eq_true _h|replace _h:=of_decide_eq_false _h|skip);(try simp only [Bool.not_eq_true',Bool.not_eq_false',Bool.not_true,Bool.not_false,decide_eq_true_eq,decide_eq_false_iff_not] at _h);(try (guard_hyp _h : True;clear _h));first|done|contradiction|(conv=>whnf)))|(refine And.intro ?_ ?_;(focus (first|rfl|decide|assumption|omega|decide +kernel|exact ⟨rfl, rfl⟩|exact ⟨rfl, rfl, rfl, rfl⟩|exact fun h => Bool.noConfusion h|exact fun _ => rfl|exact Nat.le_of_ble_eq_true rfl|(simp only [List.length_map, List.length_append, List.length_replicate, List.length_take, List.length_drop, List.length_set, List.length_cons, List.length_nil]; omega)));(conv=>whnf))))
    obtain ⟨ys, hys⟩ : ∃ ys, ys = cutB b off size := ⟨_, rfl⟩
    have hyl : ys.length = size := by rw [hys]; exact cutB_len hin2
    have hyw : wfd ys := by rw [hys]; exact hb.cut _ _
    refine aloop (T := told0) (ι := Nat) (fun k => [(8, .d (.int .u64 (bn (ys.take k)))), (30, .d (byt ys)), (31, i64 ys.length), (32, i64 k)]) (fun _ => []) 47 0
      (fun k => size - k) (fun k => k ≤ size)
      ⟨0, [], rfl, by omega, by
        (refine ⟨rfl, rfl, ?_, ?_⟩ <;> repeat' (first | exact True.intro | rfl | decide | (refine And.intro ?_ ?_)))
        · show AVal.d (.ints .u8 _) = AVal.d (.ints .u8 ys)
          rw [e1, hys]; rfl
        · show AVal.d (.int .i64 _) = AVal.d (.int .i64 ys.length)
          rw [e1, hys]; rfl⟩ ?_
    intro k hk
    have hlt : bn (ys.take k) < ((256 ^ k : Nat) : Int) := by
      have := bn_lt (hyw.take k)
      rwa [List.length_take, Nat.min_eq_left (by omega)] at this
    have hnn := bn_nonneg (hyw.take k)
    rcases Nat.lt_or_ge k size with hks | hks
    · have hp : 256 ^ k ≤ 256 ^ 7 := Nat.pow_le_pow_right (by omega) (by omega)
      have hg := hyw.get k
      have est : bn (ys.take (k + 1)) = bn (ys.take k) * 256 + ys.getD k 0 := by rw [take_snoc (by omega), bn_snoc]
      ((conv=>whnf);repeat' (first|((first|refine pickT ?_ ?_|refine pickT2 ?_ ?_);(focus (first|assumption|exact dT (by first|assumption|omega)|exact nT (by first|assumption|omega)|exact nbT (by assumption)|rfl));(conv=>whnf))|((first|refine pickF ?_ ?_|refine pickF2 ?_ ?_);(focus (first|assumption|exact dF (by first|assumption|omega)|exact nF (by first|assumption|omega)|exact nbF (by assumption)|rfl));(conv=>whnf))|((first|(first|refine splitB ?_ ?_|refine splitB2 ?_ ?_)<;>intro _h|intro _h);all_goals ((first|replace _h:=of_decide_eq_true _h|replace _h:=of_decide_eq_false _h|skip);(try simp only [Bool.not_eq_true',Bool.not_eq_false',Bool.not_true,Bool.not_false,decide_eq_true_eq,decide_eq_false_iff_not] at _h);(try (guard_hyp _h : True;clear _h));first|done|contradiction|(conv=>whnf)))|(refine And.intro ?_ ?_;(focus (first|rfl|decide|assumption|omega|decide +kernel|exact ⟨rfl, rfl⟩|exact ⟨rfl, rfl, rfl, rfl⟩|exact fun h => Bool.noConfusion h|exact fun _ => rfl|exact Nat.le_of_ble_eq_true rfl|(simp only [List.length_map, List.length_append, List.length_replicate, List.length_take, List.length_drop, List.length_set, List.length_cons, List.length_nil]; omega)));(conv=>whnf))))
      refine ⟨k + 1, [], by omega, by omega, rfl, ?_⟩
      (refine ⟨rfl, rfl, ?_, ?_⟩ <;> repeat' (first | exact True.intro | rfl | decide | (refine And.intro ?_ ?_)))
      · show AVal.d (.int .u64 _) = AVal.d (.int .u64 _)
        rw [est, or_u64 _ _ hnn (by omega) (by rw [Int.toNat_natCast]; exact hg.1) (by rw [Int.toNat_natCast]; omega), Int.toNat_natCast]
      · exact di (by rw [wrap_i64 (by omega) (by omega)]; rfl)
    · have hk' : k = size := by omega
      have hall : ys.take k = ys := List.take_of_length_le (by omega)
      rw [hall] at hlt hnn ⊢
      have hp : 256 ^ k ≤ 256 ^ 8 := Nat.pow_le_pow_right (by omega) (by omega)
      have e63 : min (Int.toNat 63) IntKind.u64.bits = 63 := rfl
      ((conv=>whnf);repeat' (first|((first|refine pickT ?_ ?_|refine pickT2 ?_ ?_);(focus (first|assumption|exact dT (by first|assumption|omega)|exact nT (by first|assumption|omega)|exact nbT (by assumption)|rfl));(conv=>whnf))|((first|refine pickF ?_ ?_|refine pickF2 ?_ ?_);(focus (first|assumption|exact dF (by first|assumption|omega)|exact nF (by first|assumption|omega)|exact nbF (by assumption)|rfl));(conv=>whnf))|((first|(first|refine splitB ?_ ?_|refine splitB2 ?_ ?_)<;>intro _h|intro _h);all_goals ((first|replace _h:=of_decide_eq_true _h|replace _h:=of_decide_eq_false _h|skip);(try simp only [Bool.not_eq_true',Bool.not_eq_false',Bool.not_true,Bool.not_false,decide_eq_true_eq,decide_eq_false_iff_not] at _h);(try (guard_hyp _h : True;clear _h));first|done|contradiction|(conv=>whnf)))|(refine And.intro ?_ ?_;(focus (first|rfl|decide|assumption|omega|decide +kernel|exact ⟨rfl, rfl⟩|exact ⟨rfl, rfl, rfl, rfl⟩|exact fun h => Bool.noConfusion h|exact fun _ => rfl|exact Nat.le_of_ble_eq_true rfl|(simp only [List.length_map, List.length_append, List.length_replicate, List.length_take, List.length_drop, List.length_set, List.length_cons, List.length_nil]; omega)));(conv=>whnf))))
      · refine Ends.imm rfl ?_
        rw [e63] at _h
        unfold getV
        rw [← hys, if_neg (by rw [hin]; simp), if_pos (by omega)]
      · refine Ends.imm rfl ?_
        rw [e63] at _h
        unfold getV
        rw [← hys, if_neg (by rw [hin]; simp), if_neg (by omega), wrap_i64 (by omega) (by omega)]
end Go.Proofs.YtniaeiikdgbnfaaDoor.R

/- The key's code, part 18: the reference's keys. -/
namespace Go.Proofs.YtniaeiikdgbnfaaDoor.R
open Go Go.RowKit Go.Proofs Go.Proofs.YtniaeiikdgbnfaaDoor.AW
set_option linter.unusedSectionVars false
variable [Globs]
set_option maxRecDepth 100000
set_option linter.unusedSimpArgs false
set_option linter.unusedVariables false
set_option maxHeartbeats 4000000

theorem u8w (n : Nat) : IntKind.u8.wrap (n : Int) = ((n % 256 : Nat) : Int) := by
  simp [IntKind.wrap, IntKind.bits, IntKind.signed]

theorem be4 (n : Nat) : be 4 n = [((n / 16777216 % 256 : Nat) : Int), ((n / 65536 % 256 : Nat) : Int), ((n / 256 % 256 : Nat) : Int), ((n % 256 : Nat) : Int)] := by
  simp [be, List.range_succ]

theorem k_four (n : Nat) : Imm Tryd.prog 68 [i64 n] (fun r => r = .d (byt (be 4 n))) := by
  (refine Imm.of_awp told0 [2] Tryd.func68 rfl (by decide) (Nat.le_of_ble_eq_true rfl) ?_; intro _w0 _S0 _E0 _B0; ((conv=>whnf);repeat' (first|((first|refine pickT ?_ ?_|refine pickT2 ?_ ?_);(focus (first|assumption|exact dT (by assumption)|exact nT (by assumption)|exact nbT (by assumption)|rfl));(conv=>whnf))|((first|refine pickF ?_ ?_|refine pickF2 ?_ ?_);(focus (first|assumption|exact dF (by assumption)|exact nF (by assumption)|exact nbF (by assumption)|rfl));(conv=>whnf))|((first|(first|refine splitB ?_ ?_|refine splitB2 ?_ ?_)<;>intro _h|intro _h);all_goals ((first|replace _h:=of_decide_eq_true _h|replace _h:=of_decide_eq_false _h|skip);(try simp only [Bool.not_eq_true',Bool.not_eq_false',Bool.not_true,Bool.not_false,decide_eq_true_eq,decide_eq_false_iff_not] at _h);(try (guard_hyp _h : True;clear _h));first|done|contradiction|(conv=>whnf)))|(refine And.intro ?_ ?_;(focus (first|rfl|decide|assumption|omega|decide +kernel|exact ⟨rfl, rfl⟩|exact ⟨rfl, rfl, rfl, rfl⟩|exact fun h => Bool.noConfusion h|exact fun _ => rfl|exact Nat.le_of_ble_eq_true rfl|(simp only [List.length_map, List.length_append, List.length_replicate, List.length_take, List.length_drop, List.length_set, List.length_cons, List.length_nil]; omega)));(conv=>whnf)))))
  refine Ends.imm rfl ?_
  rw [be4]
  have e : ∀ k : Nat, k ≤ 64 → (n : Int) / 2 ^ min (Int.toNat (k : Int)) IntKind.i64.bits = ((n / 2 ^ k : Nat) : Int) := fun k hk => by
    rw [Int.toNat_natCast, Nat.min_eq_left (by simp [IntKind.bits]; omega)]
    push_cast
    rfl
  have e24 := e 24 (by omega)
  have e16 := e 16 (by omega)
  have e8 := e 8 (by omega)
  show AVal.d (.ints .u8 [IntKind.u8.wrap ((n : Int) / 2 ^ min (Int.toNat (24 : Int)) IntKind.i64.bits), IntKind.u8.wrap ((n : Int) / 2 ^ min (Int.toNat (16 : Int)) IntKind.i64.bits), IntKind.u8.wrap ((n : Int) / 2 ^ min (Int.toNat (8 : Int)) IntKind.i64.bits), IntKind.u8.wrap (n : Int)]) = _
  rw [show (24 : Int) = ((24 : Nat) : Int) from rfl, show (16 : Int) = ((16 : Nat) : Int) from rfl, show (8 : Int) = ((8 : Nat) : Int) from rfl, e24, e16, e8, u8w, u8w, u8w, u8w]

theorem notMod_21 {m : List Int} (h : ¬ (64 ≤ m.length ∧ m.length ≤ 512 ∧ m.length % 64 = 0)) : notMod m = 21 := by
  unfold notMod
  rw [if_pos]
  cases hs : sized m.length with
  | false => rfl
  | true => exact (h (sized_spec.1 hs)).elim
theorem notMod_22 {m : List Int} (h : 64 ≤ m.length ∧ m.length ≤ 512 ∧ m.length % 64 = 0) (h2 : m.getD 0 0 < 128 ∨ m.getD (m.length - 1) 0 % 2 = 0) : notMod m = 22 := by
  unfold notMod
  rw [sized_spec.2 h, if_neg (by simp), if_pos h2]
theorem notMod_0 {m : List Int} (h : 64 ≤ m.length ∧ m.length ≤ 512 ∧ m.length % 64 = 0) (h2 : ¬ (m.getD 0 0 < 128 ∨ m.getD (m.length - 1) 0 % 2 = 0)) : notMod m = 0 := by
  unfold notMod
  rw [sized_spec.2 h, if_neg (by simp), if_neg h2]
theorem of_notMod {m : List Int} (h : notMod m = 0) : (64 ≤ m.length ∧ m.length ≤ 512 ∧ m.length % 64 = 0) ∧ ¬ m.getD 0 0 < 128 ∧ ¬ m.getD (m.length - 1) 0 % 2 = 0 := by
  unfold notMod at h
  cases hs : sized m.length with
  | false => rw [hs] at h; simp at h
  | true =>
    refine ⟨sized_spec.1 hs, ?_⟩
    rw [hs, if_neg (by simp)] at h
    split at h
    · omega
    · rename_i h2
      exact ⟨fun h => h2 (.inl h), fun h => h2 (.inr h)⟩

theorem k_right (m : List Int) (hm : wfd m) (hl : m.length ≤ LIM) : Imm Tryd.prog 32 [.d (byt m)] (fun r => r = i64 (notMod m)) := by
  unfold LIM at hl
  have g1 := hm.get 0
  have g2 := hm.get (m.length - 1)
  have e3 : (m.getD (m.length - 1) 0).tmod 2 = m.getD (m.length - 1) 0 % 2 := Int.tmod_eq_emod_of_nonneg g2.1
  have e0 : (m.length : Int).tmod 64 = m.length % 64 := Int.tmod_eq_emod_of_nonneg (by omega)
  have e1 : 64 ≤ m.length → IntKind.i64.wrap ((m.length : Int) - 1) = (m.length - 1 : Nat) := fun h => by rw [wrap_i64 (by omega) (by omega)]; omega
  (refine Imm.of_awp told0 [] Tryd.func32 rfl (by decide) (Nat.le_of_ble_eq_true rfl) ?_; intro _w0 _S0 _E0 _B0; ((conv=>whnf);repeat' (first|((first|refine pickT ?_ ?_|refine pickT2 ?_ ?_);(focus (first|assumption|exact dT (by assumption)|exact nT (by assumption)|exact nbT (by assumption)|rfl));(conv=>whnf))|((first|refine pickF ?_ ?_|refine pickF2 ?_ ?_);(focus (first|assumption|exact dF (by assumption)|exact nF (by assumption)|exact nbF (by assumption)|rfl));(conv=>whnf))|((first|(first|refine splitB ?_ ?_|refine splitB2 ?_ ?_)<;>intro _h|intro _h);all_goals ((first|replace _h:=of_decide_eq_true _h|replace _h:=of_decide_eq_false _h|skip);(try simp only [Bool.not_eq_true',Bool.not_eq_false',Bool.not_true,Bool.not_false,decide_eq_true_eq,decide_eq_false_iff_not] at _h);(try (guard_hyp _h : True;clear _h));first|done|contradiction|(conv=>whnf)))|(refine And.intro ?_ ?_;(focus (first|rfl|decide|assumption|omega|decide +kernel|exact ⟨rfl, rfl⟩|exact ⟨rfl, rfl, rfl, rfl⟩|exact fun h => Bool.noConfusion h|exact fun _ => rfl|exact Nat.le_of_ble_eq_true rfl|(simp only [List.length_map, List.length_append, List.length_replicate, List.length_take, List.length_drop, List.length_set, List.length_cons, List.length_nil]; omega)));(conv=>whnf)))))
  all_goals refine Ends.imm rfl ?_
  all_goals try rw [e1 (by omega), Int.toNat_natCast, e3] at _h
  all_goals first
    | (rw [notMod_21 (by omega)]; done)
    | (rw [notMod_22 (by omega) (.inl (by assumption))]; done)
    | (rw [notMod_22 (by omega) (.inr (by assumption))]; done)
    | (rw [notMod_0 (by omega) (fun h => h.elim (by assumption) (by assumption))]; done)
end Go.Proofs.YtniaeiikdgbnfaaDoor.R

/- The key's code, part 19: the reference's N0 and bytes of keys. -/
namespace Go.Proofs.YtniaeiikdgbnfaaDoor.R
open Go Go.RowKit Go.Proofs Go.Proofs.YtniaeiikdgbnfaaDoor.AW
set_option linter.unusedSectionVars false
variable [Globs]
set_option maxRecDepth 100000
set_option linter.unusedSimpArgs false
set_option linter.unusedVariables false
set_option maxHeartbeats 4000000

/-- -1 through an odd number, bit by bit. -/
def n0rec (low : Nat) : Nat → Nat
  | 0 => 0
  | k + 1 => if (n0rec low k * low + 1) / 2 ^ k % 2 = 1 then n0rec low k + 2 ^ k else n0rec low k

theorem n0rec_lt (low : Nat) : ∀ k, n0rec low k < 2 ^ k
  | 0 => by simp [n0rec]
  | k + 1 => by
    have := n0rec_lt low k
    simp only [n0rec]
    rw [Nat.pow_succ]
    split <;> omega

theorem n0rec_inv (low : Nat) (hl : low % 2 = 1) : ∀ k, (n0rec low k * low + 1) % 2 ^ k = 0
  | 0 => by simp [Nat.mod_one]
  | k + 1 => by
    have ih := n0rec_inv low hl k
    simp only [n0rec]
    obtain ⟨q, hq⟩ := Nat.dvd_of_mod_eq_zero ih
    have hp : 0 < 2 ^ k := Nat.two_pow_pos k
    have hd : (n0rec low k * low + 1) / 2 ^ k = q := by rw [hq, Nat.mul_div_cancel_left _ hp]
    rw [hd, Nat.pow_succ]
    split
    · rename_i h
      have e : (n0rec low k + 2 ^ k) * low + 1 = 2 ^ k * (q + low) := by
        rw [Nat.add_mul, Nat.mul_add, ← hq]; omega
      rw [e, Nat.mul_mod_mul_left]
      have : (q + low) % 2 = 0 := by omega
      rw [this, Nat.mul_zero]
    · rename_i h
      rw [hq, Nat.mul_mod_mul_left]
      have : q % 2 = 0 := by omega
      rw [this, Nat.mul_zero]

/-- The lowest limb of bytes. -/
def lowL (m : List Int) : Nat := (bn (m.drop (m.length - 4))).toNat

theorem k_refN0 (m : List Int) (hm : wfd m) (hl : 4 ≤ m.length ∧ m.length ≤ 100000) : Imm Tryd.prog 69 [.d (byt m)] (fun r => r = i64 (n0rec (lowL m) 32)) := by
  have e0 : IntKind.i64.wrap ((m.length : Int) - 4) = (m.length - 4 : Nat) := by rw [wrap_i64 (by omega) (by omega)]; omega
  have hdw : wfd (m.drop (m.length - 4)) := hm.drop _
  have hdl : (m.drop (m.length - 4)).length = 4 := by simp; omega
  have hlow := bn_lt hdw
  have hlow0 := bn_nonneg hdw
  rw [hdl] at hlow
  (refine Imm.of_awp told0 [] Tryd.func69 rfl (by decide) (Nat.le_of_ble_eq_true rfl) ?_; intro _w0 _S0 _E0 _B0; ((conv=>whnf);repeat' (first|((first|refine pickT ?_ ?_|refine pickT2 ?_ ?_);(focus (first|assumption|exact dT (by assumption)|exact nT (by assumption)|exact nbT (by assumption)|rfl));(conv=>whnf))|((first|refine pickF ?_ ?_|refine pickF2 ?_ ?_);(focus (first|assumption|exact dF (by assumption)|exact nF (by assumption)|exact nbF (by assumption)|rfl));(conv=>whnf))|((first|(first|refine splitB ?_ ?_|refine splitB2 ?_ ?_)<;>intro _h|intro _h);all_goals ((first|replace _h:=of_decide_eq_true _h|replace _h:=of_decide_eq_false _h|skip);(try simp only [Bool.not_eq_true',Bool.not_eq_false',Bool.not_true,Bool.not_false,decide_eq_true_eq,decide_eq_false_iff_not] at _h);(try (guard_hyp _h : True;clear _h));first|done|contradiction|(conv=>whnf)))|(refine And.intro ?_ ?_;(focus (first|rfl|decide|assumption|omega|decide +kernel|exact ⟨rfl, rfl⟩|exact ⟨rfl, rfl, rfl, rfl⟩|exact fun h => Bool.noConfusion h|exact fun _ => rfl|exact Nat.le_of_ble_eq_true rfl|(simp only [List.length_map, List.length_append, List.length_replicate, List.length_take, List.length_drop, List.length_set, List.length_cons, List.length_nil]; omega)));(conv=>whnf)))))
  refine aloop (T := told0) (ι := Nat) (fun j => [(0, .d (byt m)), (3, i64 (bn ((m.drop (m.length - 4)).take j))), (4, i64 ((m.length - 4 + j : Nat) : Int))]) (fun _ => []) 41 0
    (fun j => 4 - j) (fun j => j ≤ 4)
    ⟨0, [], rfl, by omega, by (refine ⟨rfl, rfl, ?_, ?_⟩ <;> repeat' (first | exact True.intro | rfl | decide | (refine And.intro ?_ ?_))); exact di e0⟩ ?_
  intro j hj
  have hlt : bn ((m.drop (m.length - 4)).take j) < ((256 ^ j : Nat) : Int) := by
    have := bn_lt (hdw.take j)
    rwa [List.length_take, Nat.min_eq_left (by omega)] at this
  have hnn := bn_nonneg (hdw.take j)
  have hp : 256 ^ j ≤ 256 ^ 4 := Nat.pow_le_pow_right (by omega) (by omega)
  rcases Nat.lt_or_ge j 4 with h4 | h4
  · have est : bn ((m.drop (m.length - 4)).take (j + 1)) = bn ((m.drop (m.length - 4)).take j) * 256 + m.getD (m.length - 4 + j) 0 := by
      rw [take_snoc (by omega), bn_snoc]
      congr 1
      rw [List.getD_eq_getElem?_getD, List.getElem?_drop, ← List.getD_eq_getElem?_getD]
    have hg := hm.get (m.length - 4 + j)
    ((conv=>whnf);repeat' (first|((first|refine pickT ?_ ?_|refine pickT2 ?_ ?_);(focus (first|assumption|exact dT (by first|assumption|omega)|exact nT (by first|assumption|omega)|exact nbT (by assumption)|rfl));(conv=>whnf))|((first|refine pickF ?_ ?_|refine pickF2 ?_ ?_);(focus (first|assumption|exact dF (by first|assumption|omega)|exact nF (by first|assumption|omega)|exact nbF (by assumption)|rfl));(conv=>whnf))|((first|(first|refine splitB ?_ ?_|refine splitB2 ?_ ?_)<;>intro _h|intro _h);all_goals ((first|replace _h:=of_decide_eq_true _h|replace _h:=of_decide_eq_false _h|skip);(try simp only [Bool.not_eq_true',Bool.not_eq_false',Bool.not_true,Bool.not_false,decide_eq_true_eq,decide_eq_false_iff_not] at _h);(try (guard_hyp _h : True;clear _h));first|done|contradiction|(conv=>whnf)))|(refine And.intro ?_ ?_;(focus (first|rfl|decide|assumption|omega|decide +kernel|exact ⟨rfl, rfl⟩|exact ⟨rfl, rfl, rfl, rfl⟩|exact fun h => Bool.noConfusion h|exact fun _ => rfl|exact Nat.le_of_ble_eq_true rfl|(simp only [List.length_map, List.length_append, List.length_replicate, List.length_take, List.length_drop, List.length_set, List.length_cons, List.length_nil]; omega)));(conv=>whnf))))
    refine ⟨j + 1, [], by omega, by omega, rfl, ?_⟩
    (refine ⟨rfl, rfl, ?_, ?_⟩ <;> repeat' (first | exact True.intro | rfl | decide | (refine And.intro ?_ ?_)))
    · refine di ?_
      rw [est, Int.toNat_natCast, wrap_i64 (n := _ * 256) (by omega) (by omega), wrap_i64 (n := m.getD (m.length - 4 + j) 0) (by omega) (by omega), wrap_i64 (by omega) (by omega)]
    · exact di (by rw [wrap_i64 (by omega) (by omega)]; omega)
  · have hj4 : j = 4 := by omega
    have hall : (m.drop (m.length - 4)).take j = m.drop (m.length - 4) := List.take_of_length_le (by omega)
    rw [hall] at hlt hnn ⊢
    have hlowL : bn (m.drop (m.length - 4)) = (lowL m : Nat) := by unfold lowL; omega
    rw [hlowL] at hlt hnn hlow ⊢
    clear hlowL hall hp
    have hlt4 : lowL m < 4294967296 := by have h : ((lowL m : Nat) : Int) < 4294967296 := hlow; omega
    clear hlow hlt
    generalize lowL m = low at *
    have hex : ¬ ((m.length - 4 + j : Nat) : Int) < m.length := by omega
    ((conv=>whnf);repeat' (first|((first|refine pickT ?_ ?_|refine pickT2 ?_ ?_);(focus (first|assumption|exact dT (by assumption)|exact nT (by assumption)|exact nbT (by assumption)|rfl));(conv=>whnf))|((first|refine pickF ?_ ?_|refine pickF2 ?_ ?_);(focus (first|assumption|exact dF (by assumption)|exact nF (by assumption)|exact nbF (by assumption)|rfl));(conv=>whnf))|((first|(first|refine splitB ?_ ?_|refine splitB2 ?_ ?_)<;>intro _h|intro _h);all_goals ((first|replace _h:=of_decide_eq_true _h|replace _h:=of_decide_eq_false _h|skip);(try simp only [Bool.not_eq_true',Bool.not_eq_false',Bool.not_true,Bool.not_false,decide_eq_true_eq,decide_eq_false_iff_not] at _h);(try (guard_hyp _h : True;clear _h));first|done|contradiction|(conv=>whnf)))|(refine And.intro ?_ ?_;(focus (first|rfl|decide|assumption|omega|decide +kernel|exact ⟨rfl, rfl⟩|exact ⟨rfl, rfl, rfl, rfl⟩|exact fun h => Bool.noConfusion h|exact fun _ => rfl|exact Nat.le_of_ble_eq_true rfl|(simp only [List.length_map, List.length_append, List.length_replicate, List.length_take, List.length_drop, List.length_set, List.length_cons, List.length_nil]; omega)));(conv=>whnf))))
    refine aloop (T := told0) (ι := Nat) (fun k => [(3, i64 low), (5, i64 (n0rec low k : Nat)), (6, i64 k)]) (fun _ => []) 41 0
      (fun k => 32 - k) (fun k => k ≤ 32)
      ⟨0, [], rfl, by omega, by (refine ⟨rfl, rfl, ?_, ?_⟩ <;> repeat' (first | exact True.intro | rfl | decide | (refine And.intro ?_ ?_)))⟩ ?_
    intro k hk
    have hn := n0rec_lt low k
    rcases Nat.lt_or_ge k 32 with h32 | h32
    · have hp31 : 2 ^ k ≤ 2 ^ 31 := Nat.pow_le_pow_right (by omega) (by omega)
      have a1 : n0rec low k ≤ 2147483647 := by omega
      have a2 : low ≤ 4294967295 := by omega
      have hprod : n0rec low k * low ≤ 9223372030412324865 := Nat.mul_le_mul a1 a2
      have w1 : IntKind.i64.wrap ((n0rec low k : Int) * low) = ((n0rec low k * low : Nat) : Int) := by
        rw [← Int.natCast_mul]
        exact wrap_i64 (by omega) (by omega)
      have w2 : IntKind.i64.wrap (((n0rec low k * low : Nat) : Int) + 1) = ((n0rec low k * low + 1 : Nat) : Int) := by rw [wrap_i64 (by omega) (by omega)]; omega
      have w3 : ((n0rec low k * low + 1 : Nat) : Int) / 2 ^ min (Int.toNat (k : Int)) IntKind.i64.bits = (((n0rec low k * low + 1) / 2 ^ k : Nat) : Int) := by
        rw [Int.toNat_natCast, Nat.min_eq_left (by simp [IntKind.bits]; omega)]
        push_cast
        rfl
      have w4 : (((n0rec low k * low + 1) / 2 ^ k : Nat) : Int).tmod 2 = (((n0rec low k * low + 1) / 2 ^ k % 2 : Nat) : Int) := by
        generalize (n0rec low k * low + 1) / 2 ^ k = q
        rw [Int.tmod_eq_emod_of_nonneg (by omega)]; omega
      have w5 : IntKind.i64.wrap ((1 : Int) * 2 ^ min (Int.toNat (k : Int)) IntKind.i64.bits) = ((2 ^ k : Nat) : Int) := by
        rw [Int.toNat_natCast, Nat.min_eq_left (by simp [IntKind.bits]; omega), Int.one_mul]
        have : (2 : Int) ^ k = ((2 ^ k : Nat) : Int) := by push_cast; rfl
        rw [this, wrap_i64 (by omega) (by omega)]
      ((conv=>whnf);repeat' (first|((first|refine pickT ?_ ?_|refine pickT2 ?_ ?_);(focus (first|assumption|exact dT (by first|assumption|omega)|exact nT (by first|assumption|omega)|exact nbT (by assumption)|rfl));(conv=>whnf))|((first|refine pickF ?_ ?_|refine pickF2 ?_ ?_);(focus (first|assumption|exact dF (by first|assumption|omega)|exact nF (by first|assumption|omega)|exact nbF (by assumption)|rfl));(conv=>whnf))|((first|(first|refine splitB ?_ ?_|refine splitB2 ?_ ?_)<;>intro _h|intro _h);all_goals ((first|replace _h:=of_decide_eq_true _h|replace _h:=of_decide_eq_false _h|skip);(try simp only [Bool.not_eq_true',Bool.not_eq_false',Bool.not_true,Bool.not_false,decide_eq_true_eq,decide_eq_false_iff_not] at _h);(try (guard_hyp _h : True;clear _h));first|done|contradiction|(conv=>whnf)))|(refine And.intro ?_ ?_;(focus (first|rfl|decide|assumption|omega|decide +kernel|exact ⟨rfl, rfl⟩|exact ⟨rfl, rfl, rfl, rfl⟩|exact fun h => Bool.noConfusion h|exact fun _ => rfl|exact Nat.le_of_ble_eq_true rfl|(simp only [List.length_map, List.length_append, List.length_replicate, List.length_take, List.length_drop, List.length_set, List.length_cons, List.length_nil]; omega)));(conv=>whnf))))
      · rw [w1, w2, w3, w4] at _h
        refine ⟨k + 1, [], by omega, by omega, rfl, ?_⟩
        (refine ⟨rfl, rfl, ?_, ?_⟩ <;> repeat' (first | exact True.intro | rfl | decide | (refine And.intro ?_ ?_)))
        · refine di ?_
          rw [w5, wrap_i64 (by omega) (by omega)]
          simp only [n0rec]
          rw [if_pos (by omega)]
          omega
        · exact di (by rw [wrap_i64 (by omega) (by omega)]; rfl)
      · rw [w1, w2, w3, w4] at _h
        refine ⟨k + 1, [], by omega, by omega, rfl, ?_⟩
        (refine ⟨rfl, rfl, ?_, ?_⟩ <;> repeat' (first | exact True.intro | rfl | decide | (refine And.intro ?_ ?_)))
        · refine di ?_
          simp only [n0rec]
          rw [if_neg (by omega)]
        · exact di (by rw [wrap_i64 (by omega) (by omega)]; rfl)
    · have : k = 32 := by omega
      subst this
      ((conv=>whnf);repeat' (first|((first|refine pickT ?_ ?_|refine pickT2 ?_ ?_);(focus (first|assumption|exact dT (by first|assumption|omega)|exact nT (by first|assumption|omega)|exact nbT (by assumption)|rfl));(conv=>whnf))|((first|refine pickF ?_ ?_|refine pickF2 ?_ ?_);(focus (first|assumption|exact dF (by first|assumption|omega)|exact nF (by first|assumption|omega)|exact nbF (by assumption)|rfl));(conv=>whnf))|((first|(first|refine splitB ?_ ?_|refine splitB2 ?_ ?_)<;>intro _h|intro _h);all_goals ((first|replace _h:=of_decide_eq_true _h|replace _h:=of_decide_eq_false _h|skip);(try simp only [Bool.not_eq_true',Bool.not_eq_false',Bool.not_true,Bool.not_false,decide_eq_true_eq,decide_eq_false_iff_not] at _h);(try (guard_hyp _h : True;clear _h));first|done|contradiction|(conv=>whnf)))|(refine And.intro ?_ ?_;(focus (first|rfl|decide|assumption|omega|decide +kernel|exact ⟨rfl, rfl⟩|exact ⟨rfl, rfl, rfl, rfl⟩|exact fun h => Bool.noConfusion h|exact fun _ => rfl|exact Nat.le_of_ble_eq_true rfl|(simp only [List.length_map, List.length_append, List.length_replicate, List.length_take, List.length_drop, List.length_set, List.length_cons, List.length_nil]; omega)));(conv=>whnf))))
      exact Ends.imm rfl rfl
end Go.Proofs.YtniaeiikdgbnfaaDoor.R

/- The key's code, part 20: what a key's bytes are; the reference's Bytes and Parse, and the program's Parse. -/
namespace Go.Proofs.YtniaeiikdgbnfaaDoor.R
open Go Go.RowKit Go.Proofs Go.Proofs.YtniaeiikdgbnfaaDoor.AW
set_option linter.unusedSectionVars false
variable [Globs]
set_option maxRecDepth 100000
set_option linter.unusedSimpArgs false
set_option linter.unusedVariables false
set_option maxHeartbeats 4000000

/-- A right modulus' key's bytes. -/
def keyC (m : List Int) : List Int := be 4 (8 * m.length) ++ be 4 (n0rec (lowL m) 32) ++ m ++ be m.length (2 ^ (16 * m.length) % (bn m).toNat)

theorem keyC_len (m : List Int) : (keyC m).length = 8 + 2 * m.length := by
  simp [keyC, be_length]; omega
theorem keyC_wfd {m : List Int} (hm : wfd m) : wfd (keyC m) := (((be_wfd _ _).append (be_wfd _ _)).append hm).append (be_wfd _ _)

theorem bn_append (xs ys : List Int) : bn (xs ++ ys) = bn xs * ((256 ^ ys.length : Nat) : Int) + bn ys := by
  unfold bn
  rw [List.reverse_append, dval_append, List.length_reverse]
  have e : dpw ys.length = ((256 ^ ys.length : Nat) : Int) := by unfold dpw; push_cast; rfl
  rw [e]
  grind

theorem lowL_eq {m : List Int} (hm : wfd m) (hl : 4 ≤ m.length) : ((lowL m : Nat) : Int) = bn m % 4294967296 := by
  have h1 := bn_append (m.take (m.length - 4)) (m.drop (m.length - 4))
  rw [List.take_append_drop] at h1
  have hdl : (m.drop (m.length - 4)).length = 4 := by simp; omega
  have h2 := bn_lt (hm.drop (m.length - 4))
  have h3 := bn_nonneg (hm.drop (m.length - 4))
  rw [hdl] at h1 h2
  unfold lowL
  have e : ((256 ^ 4 : Nat) : Int) = 4294967296 := rfl
  rw [e] at h1 h2
  omega

theorem inv_uniq {P low u v : Nat} (hc : Nat.Coprime P low) (hu : u < P) (hv : v < P) (h1 : (u * low + 1) % P = 0) (h2 : (low * v + 1) % P = 0) : v = u := by
  obtain ⟨c, hc1⟩ := Nat.dvd_of_mod_eq_zero h1
  obtain ⟨d, hd1⟩ := Nat.dvd_of_mod_eq_zero h2
  have a : (P : Int) ∣ (low : Int) * ((v : Int) - u) := by
    have e1 : ((u * low + 1 : Nat) : Int) = ((P * c : Nat) : Int) := by rw [hc1]
    have e2 : ((low * v + 1 : Nat) : Int) = ((P * d : Nat) : Int) := by rw [hd1]
    simp only [Int.natCast_add, Int.natCast_mul] at e1 e2
    exact ⟨d - c, by grind⟩
  have b : P ∣ low * ((v : Int) - u).natAbs := by
    have := Int.ofNat_dvd_left.1 a
    rwa [Int.natAbs_mul, Int.natAbs_natCast] at this
  have e := hc.dvd_of_dvd_mul_left b
  rcases Nat.eq_zero_or_pos ((v : Int) - u).natAbs with h | h
  · omega
  · have := Nat.le_of_dvd h e
    omega
theorem cop_two {low : Nat} (h : low % 2 = 1) (k : Nat) : Nat.Coprime (2 ^ k) low := by
  refine Nat.Coprime.pow_left k ?_
  show Nat.gcd 2 low = 1
  rw [Nat.gcd_rec, h]; rfl

theorem key_eq {m n : List Int} {n0 : Int} {rr : List Int} (h : Key m n n0 rr) : keyBytes m n0 rr = keyC m := by
  have hl := h.len
  obtain ⟨h1, h2, h3, hs⟩ := h.pos
  have hr := h.ring
  have hmr := of_notMod h.right
  have elow : n.getD 0 0 = (lowL m : Nat) := by
    rw [lowL_eq h.wf (by omega), ← h.val]
    have := val_step n
    have hg := hr.hn.get 0
    omega
  have hodd : lowL m % 2 = 1 := by
    have := bn_odd m (by omega)
    have h4 := lowL_eq h.wf (by omega)
    omega
  have i1 := n0rec_inv (lowL m) hodd 32
  have i2 := n0rec_lt (lowL m) 32
  have i3 := hr.hinv
  have i4 := hr.hn0
  obtain ⟨v, hv⟩ : ∃ v : Nat, n0 = v := ⟨n0.toNat, by omega⟩
  have ev : v = n0rec (lowL m) 32 := by
    rw [elow, hv] at i3
    rw [hv] at i4
    have e32 : (2 : Nat) ^ 32 = 4294967296 := by decide
    have c := cop_two hodd 32
    rw [e32] at c i1 i2
    refine inv_uniq c i2 (by omega) i1 ?_
    have i5 : ((lowL m * v + 1 : Nat) : Int) % ((4294967296 : Nat) : Int) = 0 := by
      rw [Int.natCast_add, Int.natCast_mul]
      exact i3
    exact Int.ofNat.inj ((Int.natCast_emod _ _).trans i5)
  have er : (val rr).toNat = 2 ^ (16 * m.length) % (bn m).toNat := by
    obtain ⟨Q, hQ⟩ := hr.hrr
    have b1 := val_nonneg hr.hr
    have b2 := hr.hrv
    rw [h.val] at hQ b2
    have b3 : pw n.length * pw n.length = ((2 ^ (16 * m.length) : Nat) : Int) := by
      rw [← pw_add, pw_two, hl]
      push_cast
      congr 1
      omega
    rw [b3] at hQ
    obtain ⟨M, hM⟩ : ∃ M : Nat, bn m = M := ⟨(bn m).toNat, by omega⟩
    obtain ⟨V, hV⟩ : ∃ V : Nat, val rr = V := ⟨(val rr).toNat, by omega⟩
    rw [hM, hV] at hQ b2
    rw [hM, hV]
    have b4 : (((2 ^ (16 * m.length) : Nat) : Int)) % (M : Int) = V := by
      rw [hQ, Int.add_mul_emod_self_right, Int.emod_eq_of_lt (by omega) b2]
    have b5 : ((2 ^ (16 * m.length) % M : Nat) : Int) = (V : Int) := by rw [Int.natCast_emod]; exact b4
    show V = 2 ^ (16 * m.length) % M
    omega
  unfold keyBytes keyC
  rw [er, hv, Int.toNat_natCast, ev]
  simp

theorem k_fourO (n : Nat) : CSpec Tryd.prog 68 [i64 n] [] 0 (fun st nx r => st = [(0, .row .u8 5 (be 4 n))] ∧ nx = 1 ∧ r = .own 0) := by
  refine CSpec.ends (CSpec.of_awp told0 [] Tryd.func68 rfl (by decide) (Nat.le_of_ble_eq_true rfl) fun _w0 _S0 _E0 _B0 => ?_)
  ((conv=>whnf);repeat' (first|((first|refine pickT ?_ ?_|refine pickT2 ?_ ?_);(focus (first|assumption|exact dT (by assumption)|exact nT (by assumption)|exact nbT (by assumption)|rfl));(conv=>whnf))|((first|refine pickF ?_ ?_|refine pickF2 ?_ ?_);(focus (first|assumption|exact dF (by assumption)|exact nF (by assumption)|exact nbF (by assumption)|rfl));(conv=>whnf))|((first|(first|refine splitB ?_ ?_|refine splitB2 ?_ ?_)<;>intro _h|intro _h);all_goals ((first|replace _h:=of_decide_eq_true _h|replace _h:=of_decide_eq_false _h|skip);(try simp only [Bool.not_eq_true',Bool.not_eq_false',Bool.not_true,Bool.not_false,decide_eq_true_eq,decide_eq_false_iff_not] at _h);(try (guard_hyp _h : True;clear _h));first|done|contradiction|(conv=>whnf)))|(refine And.intro ?_ ?_;(focus (first|rfl|decide|assumption|omega|decide +kernel|exact ⟨rfl, rfl⟩|exact ⟨rfl, rfl, rfl, rfl⟩|exact fun h => Bool.noConfusion h|exact fun _ => rfl|exact Nat.le_of_ble_eq_true rfl|(simp only [List.length_map, List.length_append, List.length_replicate, List.length_take, List.length_drop, List.length_set, List.length_cons, List.length_nil]; omega)));(conv=>whnf))))
  rw [be4]
  have e : ∀ k : Nat, k ≤ 64 → (n : Int) / 2 ^ min (Int.toNat (k : Int)) IntKind.i64.bits = ((n / 2 ^ k : Nat) : Int) := fun k hk => by
    rw [Int.toNat_natCast, Nat.min_eq_left (by simp [IntKind.bits]; omega)]
    push_cast
    rfl
  have e24 := e 24 (by omega)
  have e16 := e 16 (by omega)
  have e8 := e 8 (by omega)
  refine ⟨[0], [(0, .row .u8 5 [((n / 16777216 % 256 : Nat) : Int), ((n / 65536 % 256 : Nat) : Int), ((n / 256 % 256 : Nat) : Int), ((n % 256 : Nat) : Int)])], .own 0, ⟨rfl, ⟨⟨by decide, ?_⟩, trivial⟩, rfl⟩, rfl, rfl, rfl⟩
  show some (Ob.row .u8 _ [IntKind.u8.wrap ((n : Int) / 2 ^ min (Int.toNat (24 : Int)) IntKind.i64.bits), IntKind.u8.wrap ((n : Int) / 2 ^ min (Int.toNat (16 : Int)) IntKind.i64.bits), IntKind.u8.wrap ((n : Int) / 2 ^ min (Int.toNat (8 : Int)) IntKind.i64.bits), IntKind.u8.wrap (n : Int)]) = _
  rw [show (24 : Int) = ((24 : Nat) : Int) from rfl, show (16 : Int) = ((16 : Nat) : Int) from rfl, show (8 : Int) = ((8 : Nat) : Int) from rfl, e24, e16, e8, u8w, u8w, u8w, u8w]
  rfl

theorem k_refBytes (m : List Int) (hm : wfd m) (hl : 4 ≤ m.length ∧ m.length ≤ 600) (h0 : 0 < bn m) : Imm Tryd.prog 33 [.d (byt m)] (fun r => r = .d (byt (keyC m))) := by
  have e8 : IntKind.i64.wrap (8 * (m.length : Int)) = ((8 * m.length : Nat) : Int) := by rw [wrap_i64 (by omega) (by omega)]; omega
  have e16 : IntKind.i64.wrap (16 * (m.length : Int)) = ((16 * m.length : Nat) : Int) := by rw [wrap_i64 (by omega) (by omega)]; omega
  (refine Imm.of_awp told0 [2] Tryd.func33 rfl (by decide) (Nat.le_of_ble_eq_true rfl) ?_; intro _w0 _S0 _E0 _B0; ((conv=>whnf);repeat' (first|((first|refine pickT ?_ ?_|refine pickT2 ?_ ?_);(focus (first|assumption|exact dT (by assumption)|exact nT (by assumption)|exact nbT (by assumption)|rfl));(conv=>whnf))|((first|refine pickF ?_ ?_|refine pickF2 ?_ ?_);(focus (first|assumption|exact dF (by assumption)|exact nF (by assumption)|exact nbF (by assumption)|rfl));(conv=>whnf))|((first|(first|refine splitB ?_ ?_|refine splitB2 ?_ ?_)<;>intro _h|intro _h);all_goals ((first|replace _h:=of_decide_eq_true _h|replace _h:=of_decide_eq_false _h|skip);(try simp only [Bool.not_eq_true',Bool.not_eq_false',Bool.not_true,Bool.not_false,decide_eq_true_eq,decide_eq_false_iff_not] at _h);(try (guard_hyp _h : True;clear _h));first|done|contradiction|(conv=>whnf)))|(refine And.intro ?_ ?_;(focus (first|rfl|decide|assumption|omega|decide +kernel|exact ⟨rfl, rfl⟩|exact ⟨rfl, rfl, rfl, rfl⟩|exact fun h => Bool.noConfusion h|exact fun _ => rfl|exact Nat.le_of_ble_eq_true rfl|(simp only [List.length_map, List.length_append, List.length_replicate, List.length_take, List.length_drop, List.length_set, List.length_cons, List.length_nil]; omega)));(conv=>whnf)))))
  rw [e8]
  refine acall [] (k_fourO (8 * m.length)) rfl (by simp [stIn]) rfl (fun _ => rfl) ?_
  rintro st nx r ⟨rfl, rfl, rfl⟩
  ((conv=>whnf);repeat' (first|((first|refine pickT ?_ ?_|refine pickT2 ?_ ?_);(focus (first|assumption|exact dT (by first|assumption|omega)|exact nT (by first|assumption|omega)|exact nbT (by assumption)|rfl));(conv=>whnf))|((first|refine pickF ?_ ?_|refine pickF2 ?_ ?_);(focus (first|assumption|exact dF (by first|assumption|omega)|exact nF (by first|assumption|omega)|exact nbF (by assumption)|rfl));(conv=>whnf))|((first|(first|refine splitB ?_ ?_|refine splitB2 ?_ ?_)<;>intro _h|intro _h);all_goals ((first|replace _h:=of_decide_eq_true _h|replace _h:=of_decide_eq_false _h|skip);(try simp only [Bool.not_eq_true',Bool.not_eq_false',Bool.not_true,Bool.not_false,decide_eq_true_eq,decide_eq_false_iff_not] at _h);(try (guard_hyp _h : True;clear _h));first|done|contradiction|(conv=>whnf)))|(refine And.intro ?_ ?_;(focus (first|rfl|decide|assumption|omega|decide +kernel|exact ⟨rfl, rfl⟩|exact ⟨rfl, rfl, rfl, rfl⟩|exact fun h => Bool.noConfusion h|exact fun _ => rfl|exact Nat.le_of_ble_eq_true rfl|(simp only [List.length_map, List.length_append, List.length_replicate, List.length_take, List.length_drop, List.length_set, List.length_cons, List.length_nil]; omega)));(conv=>whnf))))
  refine acallI (k_refN0 m hm (by omega)) rfl fun r hr => ?_
  subst hr
  ((conv=>whnf);repeat' (first|((first|refine pickT ?_ ?_|refine pickT2 ?_ ?_);(focus (first|assumption|exact dT (by first|assumption|omega)|exact nT (by first|assumption|omega)|exact nbT (by assumption)|rfl));(conv=>whnf))|((first|refine pickF ?_ ?_|refine pickF2 ?_ ?_);(focus (first|assumption|exact dF (by first|assumption|omega)|exact nF (by first|assumption|omega)|exact nbF (by assumption)|rfl));(conv=>whnf))|((first|(first|refine splitB ?_ ?_|refine splitB2 ?_ ?_)<;>intro _h|intro _h);all_goals ((first|replace _h:=of_decide_eq_true _h|replace _h:=of_decide_eq_false _h|skip);(try simp only [Bool.not_eq_true',Bool.not_eq_false',Bool.not_true,Bool.not_false,decide_eq_true_eq,decide_eq_false_iff_not] at _h);(try (guard_hyp _h : True;clear _h));first|done|contradiction|(conv=>whnf)))|(refine And.intro ?_ ?_;(focus (first|rfl|decide|assumption|omega|decide +kernel|exact ⟨rfl, rfl⟩|exact ⟨rfl, rfl, rfl, rfl⟩|exact fun h => Bool.noConfusion h|exact fun _ => rfl|exact Nat.le_of_ble_eq_true rfl|(simp only [List.length_map, List.length_append, List.length_replicate, List.length_take, List.length_drop, List.length_set, List.length_cons, List.length_nil]; omega)));(conv=>whnf))))
  refine acall [] (k_fourO (n0rec (lowL m) 32)) rfl (by simp [stIn]) rfl (fun _ => rfl) ?_
  rintro st nx r ⟨rfl, rfl, rfl⟩
  ((conv=>whnf);repeat' (first|((first|refine pickT ?_ ?_|refine pickT2 ?_ ?_);(focus (first|assumption|exact dT (by first|assumption|omega)|exact nT (by first|assumption|omega)|exact nbT (by assumption)|rfl));(conv=>whnf))|((first|refine pickF ?_ ?_|refine pickF2 ?_ ?_);(focus (first|assumption|exact dF (by first|assumption|omega)|exact nF (by first|assumption|omega)|exact nbF (by assumption)|rfl));(conv=>whnf))|((first|(first|refine splitB ?_ ?_|refine splitB2 ?_ ?_)<;>intro _h|intro _h);all_goals ((first|replace _h:=of_decide_eq_true _h|replace _h:=of_decide_eq_false _h|skip);(try simp only [Bool.not_eq_true',Bool.not_eq_false',Bool.not_true,Bool.not_false,decide_eq_true_eq,decide_eq_false_iff_not] at _h);(try (guard_hyp _h : True;clear _h));first|done|contradiction|(conv=>whnf)))|(refine And.intro ?_ ?_;(focus (first|rfl|decide|assumption|omega|decide +kernel|exact ⟨rfl, rfl⟩|exact ⟨rfl, rfl, rfl, rfl⟩|exact fun h => Bool.noConfusion h|exact fun _ => rfl|exact Nat.le_of_ble_eq_true rfl|(simp only [List.length_map, List.length_append, List.length_replicate, List.length_take, List.length_drop, List.length_set, List.length_cons, List.length_nil]; omega)));(conv=>whnf))))
  have hl8 : (be 4 (8 * m.length) ++ be 4 (n0rec (lowL m) 32)).length = 8 := by simp [be_length]
  refine ⟨by rw [hl8]; show (8 + m.length) * 1 ≤ 140737488355328; omega, ?_⟩
  ((conv=>whnf);repeat' (first|((first|refine pickT ?_ ?_|refine pickT2 ?_ ?_);(focus (first|assumption|exact dT (by first|assumption|omega)|exact nT (by first|assumption|omega)|exact nbT (by assumption)|rfl));(conv=>whnf))|((first|refine pickF ?_ ?_|refine pickF2 ?_ ?_);(focus (first|assumption|exact dF (by first|assumption|omega)|exact nF (by first|assumption|omega)|exact nbF (by assumption)|rfl));(conv=>whnf))|((first|(first|refine splitB ?_ ?_|refine splitB2 ?_ ?_)<;>intro _h|intro _h);all_goals ((first|replace _h:=of_decide_eq_true _h|replace _h:=of_decide_eq_false _h|skip);(try simp only [Bool.not_eq_true',Bool.not_eq_false',Bool.not_true,Bool.not_false,decide_eq_true_eq,decide_eq_false_iff_not] at _h);(try (guard_hyp _h : True;clear _h));first|done|contradiction|(conv=>whnf)))|(refine And.intro ?_ ?_;(focus (first|rfl|decide|assumption|omega|decide +kernel|exact ⟨rfl, rfl⟩|exact ⟨rfl, rfl, rfl, rfl⟩|exact fun h => Bool.noConfusion h|exact fun _ => rfl|exact Nat.le_of_ble_eq_true rfl|(simp only [List.length_map, List.length_append, List.length_replicate, List.length_take, List.length_drop, List.length_set, List.length_cons, List.length_nil]; omega)));(conv=>whnf))))
  rw [e16]
  refine acallI (f17 (16 * m.length) (by omega)) rfl fun r hr => ?_
  obtain ⟨ps, rfl, hpl, hpw, hpv⟩ := hr
  ((conv=>whnf);repeat' (first|((first|refine pickT ?_ ?_|refine pickT2 ?_ ?_);(focus (first|assumption|exact dT (by first|assumption|omega)|exact nT (by first|assumption|omega)|exact nbT (by assumption)|rfl));(conv=>whnf))|((first|refine pickF ?_ ?_|refine pickF2 ?_ ?_);(focus (first|assumption|exact dF (by first|assumption|omega)|exact nF (by first|assumption|omega)|exact nbF (by assumption)|rfl));(conv=>whnf))|((first|(first|refine splitB ?_ ?_|refine splitB2 ?_ ?_)<;>intro _h|intro _h);all_goals ((first|replace _h:=of_decide_eq_true _h|replace _h:=of_decide_eq_false _h|skip);(try simp only [Bool.not_eq_true',Bool.not_eq_false',Bool.not_true,Bool.not_false,decide_eq_true_eq,decide_eq_false_iff_not] at _h);(try (guard_hyp _h : True;clear _h));first|done|contradiction|(conv=>whnf)))|(refine And.intro ?_ ?_;(focus (first|rfl|decide|assumption|omega|decide +kernel|exact ⟨rfl, rfl⟩|exact ⟨rfl, rfl, rfl, rfl⟩|exact fun h => Bool.noConfusion h|exact fun _ => rfl|exact Nat.le_of_ble_eq_true rfl|(simp only [List.length_map, List.length_append, List.length_replicate, List.length_take, List.length_drop, List.length_set, List.length_cons, List.length_nil]; omega)));(conv=>whnf))))
  refine acallI (k_low m hm (by omega)) rfl fun r hr => ?_
  obtain ⟨ms, rfl, hml, hmw, hmt, hmv⟩ := hr
  ((conv=>whnf);repeat' (first|((first|refine pickT ?_ ?_|refine pickT2 ?_ ?_);(focus (first|assumption|exact dT (by first|assumption|omega)|exact nT (by first|assumption|omega)|exact nbT (by assumption)|rfl));(conv=>whnf))|((first|refine pickF ?_ ?_|refine pickF2 ?_ ?_);(focus (first|assumption|exact dF (by first|assumption|omega)|exact nF (by first|assumption|omega)|exact nbF (by assumption)|rfl));(conv=>whnf))|((first|(first|refine splitB ?_ ?_|refine splitB2 ?_ ?_)<;>intro _h|intro _h);all_goals ((first|replace _h:=of_decide_eq_true _h|replace _h:=of_decide_eq_false _h|skip);(try simp only [Bool.not_eq_true',Bool.not_eq_false',Bool.not_true,Bool.not_false,decide_eq_true_eq,decide_eq_false_iff_not] at _h);(try (guard_hyp _h : True;clear _h));first|done|contradiction|(conv=>whnf)))|(refine And.intro ?_ ?_;(focus (first|rfl|decide|assumption|omega|decide +kernel|exact ⟨rfl, rfl⟩|exact ⟨rfl, rfl, rfl, rfl⟩|exact fun h => Bool.noConfusion h|exact fun _ => rfl|exact Nat.le_of_ble_eq_true rfl|(simp only [List.length_map, List.length_append, List.length_replicate, List.length_take, List.length_drop, List.length_set, List.length_cons, List.length_nil]; omega)));(conv=>whnf))))
  refine acallI (f16 ps ms hpw hmw (by rw [hmv]; exact h0) (by omega)) rfl fun r hr => ?_
  obtain ⟨us, rfl, hul, huw, hut, huv⟩ := hr
  ((conv=>whnf);repeat' (first|((first|refine pickT ?_ ?_|refine pickT2 ?_ ?_);(focus (first|assumption|exact dT (by first|assumption|omega)|exact nT (by first|assumption|omega)|exact nbT (by assumption)|rfl));(conv=>whnf))|((first|refine pickF ?_ ?_|refine pickF2 ?_ ?_);(focus (first|assumption|exact dF (by first|assumption|omega)|exact nF (by first|assumption|omega)|exact nbF (by assumption)|rfl));(conv=>whnf))|((first|(first|refine splitB ?_ ?_|refine splitB2 ?_ ?_)<;>intro _h|intro _h);all_goals ((first|replace _h:=of_decide_eq_true _h|replace _h:=of_decide_eq_false _h|skip);(try simp only [Bool.not_eq_true',Bool.not_eq_false',Bool.not_true,Bool.not_false,decide_eq_true_eq,decide_eq_false_iff_not] at _h);(try (guard_hyp _h : True;clear _h));first|done|contradiction|(conv=>whnf)))|(refine And.intro ?_ ?_;(focus (first|rfl|decide|assumption|omega|decide +kernel|exact ⟨rfl, rfl⟩|exact ⟨rfl, rfl, rfl, rfl⟩|exact fun h => Bool.noConfusion h|exact fun _ => rfl|exact Nat.le_of_ble_eq_true rfl|(simp only [List.length_map, List.length_append, List.length_replicate, List.length_take, List.length_drop, List.length_set, List.length_cons, List.length_nil]; omega)));(conv=>whnf))))
  have hmv' : dval ms = bn m := hmv
  have hub : dval us < dpw m.length := by
    rw [huv]
    have a1 := Int.emod_lt_of_pos (dval ps) (show 0 < dval ms by omega)
    have a2 := dval_lt hm.reverse
    rw [List.length_reverse] at a2
    have a3 : bn m < dpw m.length := a2
    omega
  refine acallI (k_high us m.length huw (by omega) (trim_len huw hut hub)) rfl fun r hr => ?_
  obtain ⟨vs, rfl, hvl, hvw, hvv⟩ := hr
  ((conv=>whnf);repeat' (first|((first|refine pickT ?_ ?_|refine pickT2 ?_ ?_);(focus (first|assumption|exact dT (by first|assumption|omega)|exact nT (by first|assumption|omega)|exact nbT (by assumption)|rfl));(conv=>whnf))|((first|refine pickF ?_ ?_|refine pickF2 ?_ ?_);(focus (first|assumption|exact dF (by first|assumption|omega)|exact nF (by first|assumption|omega)|exact nbF (by assumption)|rfl));(conv=>whnf))|((first|(first|refine splitB ?_ ?_|refine splitB2 ?_ ?_)<;>intro _h|intro _h);all_goals ((first|replace _h:=of_decide_eq_true _h|replace _h:=of_decide_eq_false _h|skip);(try simp only [Bool.not_eq_true',Bool.not_eq_false',Bool.not_true,Bool.not_false,decide_eq_true_eq,decide_eq_false_iff_not] at _h);(try (guard_hyp _h : True;clear _h));first|done|contradiction|(conv=>whnf)))|(refine And.intro ?_ ?_;(focus (first|rfl|decide|assumption|omega|decide +kernel|exact ⟨rfl, rfl⟩|exact ⟨rfl, rfl, rfl, rfl⟩|exact fun h => Bool.noConfusion h|exact fun _ => rfl|exact Nat.le_of_ble_eq_true rfl|(simp only [List.length_map, List.length_append, List.length_replicate, List.length_take, List.length_drop, List.length_set, List.length_cons, List.length_nil]; omega)));(conv=>whnf))))
  have hl9 : (be 4 (8 * m.length) ++ be 4 (n0rec (lowL m) 32) ++ m).length = 8 + m.length := by rw [List.length_append, hl8]
  refine ⟨by rw [hl9, hvl]; show (8 + m.length + m.length) * 1 ≤ 140737488355328; omega, ?_⟩
  ((conv=>whnf);repeat' (first|((first|refine pickT ?_ ?_|refine pickT2 ?_ ?_);(focus (first|assumption|exact dT (by first|assumption|omega)|exact nT (by first|assumption|omega)|exact nbT (by assumption)|rfl));(conv=>whnf))|((first|refine pickF ?_ ?_|refine pickF2 ?_ ?_);(focus (first|assumption|exact dF (by first|assumption|omega)|exact nF (by first|assumption|omega)|exact nbF (by assumption)|rfl));(conv=>whnf))|((first|(first|refine splitB ?_ ?_|refine splitB2 ?_ ?_)<;>intro _h|intro _h);all_goals ((first|replace _h:=of_decide_eq_true _h|replace _h:=of_decide_eq_false _h|skip);(try simp only [Bool.not_eq_true',Bool.not_eq_false',Bool.not_true,Bool.not_false,decide_eq_true_eq,decide_eq_false_iff_not] at _h);(try (guard_hyp _h : True;clear _h));first|done|contradiction|(conv=>whnf)))|(refine And.intro ?_ ?_;(focus (first|rfl|decide|assumption|omega|decide +kernel|exact ⟨rfl, rfl⟩|exact ⟨rfl, rfl, rfl, rfl⟩|exact fun h => Bool.noConfusion h|exact fun _ => rfl|exact Nat.le_of_ble_eq_true rfl|(simp only [List.length_map, List.length_append, List.length_replicate, List.length_take, List.length_drop, List.length_set, List.length_cons, List.length_nil]; omega)));(conv=>whnf))))
  refine Ends.imm rfl ?_
  have ev : vs = be m.length (2 ^ (16 * m.length) % (bn m).toNat) := by
    obtain ⟨M, hM⟩ : ∃ M : Nat, bn m = M := ⟨(bn m).toNat, by omega⟩
    have h1 : dval vs.reverse = dval (be m.length (2 ^ (16 * m.length) % (bn m).toNat)).reverse := by
      rw [dval_be, hvv, huv, hpv, hmv', hM, Int.toNat_natCast]
      have hlt : 2 ^ (16 * m.length) % M < 256 ^ m.length := by
        have b1 := Nat.mod_lt (2 ^ (16 * m.length)) (show 0 < M by omega)
        have b2 := bn_lt hm
        rw [hM] at b2
        omega
      rw [Nat.mod_eq_of_lt hlt]
      push_cast
      rfl
    have h2 := dval_inj hvw.reverse (be_wfd _ _).reverse (by simp [hvl, be_length]) h1
    simpa using h2
  rw [ev]
  rfl
end Go.Proofs.YtniaeiikdgbnfaaDoor.R

/- The key's code, part 21: keys read. -/
namespace Go.Proofs.YtniaeiikdgbnfaaDoor.R
open Go Go.RowKit Go.Proofs Go.Proofs.YtniaeiikdgbnfaaDoor.AW
set_option linter.unusedSectionVars false
variable [Globs]
set_option maxRecDepth 100000
set_option linter.unusedSimpArgs false
set_option linter.unusedVariables false
set_option maxHeartbeats 4000000

def bitsOf (b : List Int) : Int := bn (cutB b 0 4)
def keySize (b : List Int) : Nat := (bitsOf b / 8).toNat
/-- The modulus that stands in a key's bytes. -/
def keyMod (b : List Int) : List Int := cutB b 8 (keySize b)
/-- What isn't right of a key's bytes. -/
def keyErr (b : List Int) : Int :=
  if b.length < 8 then 10
  else if bitsOf b % 8 ≠ 0 ∨ sized (keySize b) = false then 21
  else if b.length < 8 + 2 * keySize b then 10
  else if 8 + 2 * keySize b < b.length then 12
  else if notMod (keyMod b) ≠ 0 ∨ keyC (keyMod b) ≠ b then 22 else 0

theorem bits_range {b : List Int} (hb : wfd b) : 0 ≤ bitsOf b ∧ bitsOf b < 4294967296 := by
  refine ⟨bn_nonneg (hb.cut _ _), ?_⟩
  have h := bn_lt (hb.cut 0 4)
  have h2 : (cutB b 0 4).length ≤ 4 := by simp [cutB]; omega
  have h3 : 256 ^ (cutB b 0 4).length ≤ 256 ^ 4 := Nat.pow_le_pow_right (by omega) h2
  show bn (cutB b 0 4) < 4294967296
  omega
theorem get_bits {b : List Int} (hb : wfd b) (hl : 8 ≤ b.length) : getV b 0 4 = (bitsOf b, 0) := by
  have h := bits_range hb
  unfold getV
  rw [if_neg, if_neg]
  · rfl
  · show ¬ 9223372036854775808 ≤ bitsOf b
    omega
  · unfold inside
    rw [decide_eq_true (by omega)]; simp

theorem k_parse (b : List Int) (hb : wfd b) (hl : b.length ≤ 100000) : Imm Tryd.prog 28 [.d (byt b)] (fun r =>
    if keyErr b ≠ 0 then r = .tup [.d .nilp, i64 (keyErr b)] else ∃ n n0 rr, r = .tup [.d (keyD (keyMod b) n n0 rr), i64 0] ∧ Key (keyMod b) n n0 rr) := by
  have hbr := bits_range hb
  have hks : ((keySize b : Nat) : Int) = bitsOf b / 8 := by unfold keySize; omega
  (refine Imm.of_awp told0 [] Tryd.func28 rfl (by decide) (Nat.le_of_ble_eq_true rfl) ?_; intro _w0 _S0 _E0 _B0; ((conv=>whnf);repeat' (first|((first|refine pickT ?_ ?_|refine pickT2 ?_ ?_);(focus (first|assumption|exact dT (by assumption)|exact nT (by assumption)|exact nbT (by assumption)|rfl));(conv=>whnf))|((first|refine pickF ?_ ?_|refine pickF2 ?_ ?_);(focus (first|assumption|exact dF (by assumption)|exact nF (by assumption)|exact nbF (by assumption)|rfl));(conv=>whnf))|((first|(first|refine splitB ?_ ?_|refine splitB2 ?_ ?_)<;>intro _h|intro _h);all_goals ((first|replace _h:=of_decide_eq_true _h|replace _h:=of_decide_eq_false _h|skip);(try simp only [Bool.not_eq_true',Bool.not_eq_false',Bool.not_true,Bool.not_false,decide_eq_true_eq,decide_eq_false_iff_not] at _h);(try (guard_hyp _h : True;clear _h));first|done|contradiction|(conv=>whnf)))|(refine And.intro ?_ ?_;(focus (first|rfl|decide|assumption|omega|decide +kernel|exact ⟨rfl, rfl⟩|exact ⟨rfl, rfl, rfl, rfl⟩|exact fun h => Bool.noConfusion h|exact fun _ => rfl|exact Nat.le_of_ble_eq_true rfl|(simp only [List.length_map, List.length_append, List.length_replicate, List.length_take, List.length_drop, List.length_set, List.length_cons, List.length_nil]; omega)));(conv=>whnf)))))
  · refine Ends.imm rfl ?_
    have e : keyErr b = 10 := by unfold keyErr; rw [if_pos (by omega)]
    rw [e, if_pos (by decide)]
  have h8 : 8 ≤ b.length := by omega
  refine acallI (k_get b 0 4 hb (by unfold LIM; omega) (by unfold LIM; omega) (by omega)) rfl fun r hr => ?_
  rw [get_bits hb h8] at hr
  subst hr
  have e1 : IntKind.i64.wrap ((bitsOf b).tdiv 8) = (keySize b : Nat) := by rw [Int.tdiv_eq_ediv_of_nonneg (by omega), wrap_i64 (by omega) (by omega), hks]
  have e2 : (bitsOf b).tmod 8 = bitsOf b % 8 := Int.tmod_eq_emod_of_nonneg hbr.1
  have err21 : bitsOf b % 8 ≠ 0 ∨ sized (keySize b) = false → keyErr b = 21 := fun h => by unfold keyErr; rw [if_neg (by omega), if_pos h]
  by_cases t0 : (bitsOf b).tmod 8 = 0
  rotate_left
  · ((conv=>whnf);repeat' (first|((first|refine pickT ?_ ?_|refine pickT2 ?_ ?_);(focus (first|assumption|exact dT (by first|assumption|omega)|exact nT (by first|assumption|omega)|exact nbT (by assumption)|rfl));(conv=>whnf))|((first|refine pickF ?_ ?_|refine pickF2 ?_ ?_);(focus (first|assumption|exact dF (by first|assumption|omega)|exact nF (by first|assumption|omega)|exact nbF (by assumption)|rfl));(conv=>whnf))|((first|(first|refine splitB ?_ ?_|refine splitB2 ?_ ?_)<;>intro _h|intro _h);all_goals ((first|replace _h:=of_decide_eq_true _h|replace _h:=of_decide_eq_false _h|skip);(try simp only [Bool.not_eq_true',Bool.not_eq_false',Bool.not_true,Bool.not_false,decide_eq_true_eq,decide_eq_false_iff_not] at _h);(try (guard_hyp _h : True;clear _h));first|done|contradiction|(conv=>whnf)))|(refine And.intro ?_ ?_;(focus (first|rfl|decide|assumption|omega|decide +kernel|exact ⟨rfl, rfl⟩|exact ⟨rfl, rfl, rfl, rfl⟩|exact fun h => Bool.noConfusion h|exact fun _ => rfl|exact Nat.le_of_ble_eq_true rfl|(simp only [List.length_map, List.length_append, List.length_replicate, List.length_take, List.length_drop, List.length_set, List.length_cons, List.length_nil]; omega)));(conv=>whnf))))
    refine Ends.imm rfl ?_
    rw [e2] at t0
    rw [err21 (.inl t0), if_pos (by decide)]
  ((conv=>whnf);repeat' (first|((first|refine pickT ?_ ?_|refine pickT2 ?_ ?_);(focus (first|assumption|exact dT (by first|assumption|omega)|exact nT (by first|assumption|omega)|exact nbT (by assumption)|rfl));(conv=>whnf))|((first|refine pickF ?_ ?_|refine pickF2 ?_ ?_);(focus (first|assumption|exact dF (by first|assumption|omega)|exact nF (by first|assumption|omega)|exact nbF (by assumption)|rfl));(conv=>whnf))|((first|(first|refine splitB ?_ ?_|refine splitB2 ?_ ?_)<;>intro _h|intro _h);all_goals ((first|replace _h:=of_decide_eq_true _h|replace _h:=of_decide_eq_false _h|skip);(try simp only [Bool.not_eq_true',Bool.not_eq_false',Bool.not_true,Bool.not_false,decide_eq_true_eq,decide_eq_false_iff_not] at _h);(try (guard_hyp _h : True;clear _h));first|done|contradiction|(conv=>whnf)))|(refine And.intro ?_ ?_;(focus (first|rfl|decide|assumption|omega|decide +kernel|exact ⟨rfl, rfl⟩|exact ⟨rfl, rfl, rfl, rfl⟩|exact fun h => Bool.noConfusion h|exact fun _ => rfl|exact Nat.le_of_ble_eq_true rfl|(simp only [List.length_map, List.length_append, List.length_replicate, List.length_take, List.length_drop, List.length_set, List.length_cons, List.length_nil]; omega)));(conv=>whnf))))
  rw [e1]
  refine acallI (k_sized (keySize b) (by unfold LIM; omega)) rfl fun r hr => ?_
  subst hr
  cases hsz : sized (keySize b) with
  | false =>
    ((conv=>whnf);repeat' (first|((first|refine pickT ?_ ?_|refine pickT2 ?_ ?_);(focus (first|assumption|exact dT (by first|assumption|omega)|exact nT (by first|assumption|omega)|exact nbT (by assumption)|rfl));(conv=>whnf))|((first|refine pickF ?_ ?_|refine pickF2 ?_ ?_);(focus (first|assumption|exact dF (by first|assumption|omega)|exact nF (by first|assumption|omega)|exact nbF (by assumption)|rfl));(conv=>whnf))|((first|(first|refine splitB ?_ ?_|refine splitB2 ?_ ?_)<;>intro _h|intro _h);all_goals ((first|replace _h:=of_decide_eq_true _h|replace _h:=of_decide_eq_false _h|skip);(try simp only [Bool.not_eq_true',Bool.not_eq_false',Bool.not_true,Bool.not_false,decide_eq_true_eq,decide_eq_false_iff_not] at _h);(try (guard_hyp _h : True;clear _h));first|done|contradiction|(conv=>whnf)))|(refine And.intro ?_ ?_;(focus (first|rfl|decide|assumption|omega|decide +kernel|exact ⟨rfl, rfl⟩|exact ⟨rfl, rfl, rfl, rfl⟩|exact fun h => Bool.noConfusion h|exact fun _ => rfl|exact Nat.le_of_ble_eq_true rfl|(simp only [List.length_map, List.length_append, List.length_replicate, List.length_take, List.length_drop, List.length_set, List.length_cons, List.length_nil]; omega)));(conv=>whnf))))
    refine Ends.imm rfl ?_
    rw [err21 (.inr hsz), if_pos (by decide)]
  | true =>
    have ⟨s1, s2, s3⟩ := sized_spec.1 hsz
    have m1 : ¬ (bitsOf b % 8 ≠ 0 ∨ sized (keySize b) = false) := fun h => by
      rcases h with h | h
      · omega
      · rw [hsz] at h; cases h
    have e3 : IntKind.i64.wrap (2 * ((keySize b : Nat) : Int)) = ((2 * keySize b : Nat) : Int) := by rw [wrap_i64 (by omega) (by omega)]; omega
    have e4 : IntKind.i64.wrap (8 + ((2 * keySize b : Nat) : Int)) = ((8 + 2 * keySize b : Nat) : Int) := by rw [wrap_i64 (by omega) (by omega)]; omega
    have e5 : IntKind.i64.wrap (8 + ((keySize b : Nat) : Int)) = ((8 + keySize b : Nat) : Int) := by rw [wrap_i64 (by omega) (by omega)]; omega
    by_cases l1 : b.length < 8 + 2 * keySize b
    · have l1' : (b.length : Int) < IntKind.i64.wrap (8 + IntKind.i64.wrap (2 * ((keySize b : Nat) : Int))) := by rw [e3, e4]; omega
      ((conv=>whnf);repeat' (first|((first|refine pickT ?_ ?_|refine pickT2 ?_ ?_);(focus (first|assumption|exact dT (by first|assumption|omega)|exact nT (by first|assumption|omega)|exact nbT (by assumption)|rfl));(conv=>whnf))|((first|refine pickF ?_ ?_|refine pickF2 ?_ ?_);(focus (first|assumption|exact dF (by first|assumption|omega)|exact nF (by first|assumption|omega)|exact nbF (by assumption)|rfl));(conv=>whnf))|((first|(first|refine splitB ?_ ?_|refine splitB2 ?_ ?_)<;>intro _h|intro _h);all_goals ((first|replace _h:=of_decide_eq_true _h|replace _h:=of_decide_eq_false _h|skip);(try simp only [Bool.not_eq_true',Bool.not_eq_false',Bool.not_true,Bool.not_false,decide_eq_true_eq,decide_eq_false_iff_not] at _h);(try (guard_hyp _h : True;clear _h));first|done|contradiction|(conv=>whnf)))|(refine And.intro ?_ ?_;(focus (first|rfl|decide|assumption|omega|decide +kernel|exact ⟨rfl, rfl⟩|exact ⟨rfl, rfl, rfl, rfl⟩|exact fun h => Bool.noConfusion h|exact fun _ => rfl|exact Nat.le_of_ble_eq_true rfl|(simp only [List.length_map, List.length_append, List.length_replicate, List.length_take, List.length_drop, List.length_set, List.length_cons, List.length_nil]; omega)));(conv=>whnf))))
      refine Ends.imm rfl ?_
      have e : keyErr b = 10 := by unfold keyErr; rw [if_neg (by omega), if_neg m1, if_pos l1]
      rw [e, if_pos (by decide)]
    · have l1' : ¬ (b.length : Int) < IntKind.i64.wrap (8 + IntKind.i64.wrap (2 * ((keySize b : Nat) : Int))) := by rw [e3, e4]; omega
      by_cases l2 : 8 + 2 * keySize b < b.length
      · have l2' : IntKind.i64.wrap (8 + IntKind.i64.wrap (2 * ((keySize b : Nat) : Int))) < (b.length : Int) := by rw [e3, e4]; omega
        ((conv=>whnf);repeat' (first|((first|refine pickT ?_ ?_|refine pickT2 ?_ ?_);(focus (first|assumption|exact dT (by first|assumption|omega)|exact nT (by first|assumption|omega)|exact nbT (by assumption)|rfl));(conv=>whnf))|((first|refine pickF ?_ ?_|refine pickF2 ?_ ?_);(focus (first|assumption|exact dF (by first|assumption|omega)|exact nF (by first|assumption|omega)|exact nbF (by assumption)|rfl));(conv=>whnf))|((first|(first|refine splitB ?_ ?_|refine splitB2 ?_ ?_)<;>intro _h|intro _h);all_goals ((first|replace _h:=of_decide_eq_true _h|replace _h:=of_decide_eq_false _h|skip);(try simp only [Bool.not_eq_true',Bool.not_eq_false',Bool.not_true,Bool.not_false,decide_eq_true_eq,decide_eq_false_iff_not] at _h);(try (guard_hyp _h : True;clear _h));first|done|contradiction|(conv=>whnf)))|(refine And.intro ?_ ?_;(focus (first|rfl|decide|assumption|omega|decide +kernel|exact ⟨rfl, rfl⟩|exact ⟨rfl, rfl, rfl, rfl⟩|exact fun h => Bool.noConfusion h|exact fun _ => rfl|exact Nat.le_of_ble_eq_true rfl|(simp only [List.length_map, List.length_append, List.length_replicate, List.length_take, List.length_drop, List.length_set, List.length_cons, List.length_nil]; omega)));(conv=>whnf))))
        refine Ends.imm rfl ?_
        have e : keyErr b = 12 := by unfold keyErr; rw [if_neg (by omega), if_neg m1, if_neg l1, if_pos l2]
        rw [e, if_pos (by decide)]
      · have l2' : ¬ IntKind.i64.wrap (8 + IntKind.i64.wrap (2 * ((keySize b : Nat) : Int))) < (b.length : Int) := by rw [e3, e4]; omega
        ((conv=>whnf);repeat' (first|((first|refine pickT ?_ ?_|refine pickT2 ?_ ?_);(focus (first|assumption|exact dT (by first|assumption|omega)|exact nT (by first|assumption|omega)|exact nbT (by assumption)|rfl));(conv=>whnf))|((first|refine pickF ?_ ?_|refine pickF2 ?_ ?_);(focus (first|assumption|exact dF (by first|assumption|omega)|exact nF (by first|assumption|omega)|exact nbF (by assumption)|rfl));(conv=>whnf))|((first|(first|refine splitB ?_ ?_|refine splitB2 ?_ ?_)<;>intro _h|intro _h);all_goals ((first|replace _h:=of_decide_eq_true _h|replace _h:=of_decide_eq_false _h|skip);(try simp only [Bool.not_eq_true',Bool.not_eq_false',Bool.not_true,Bool.not_false,decide_eq_true_eq,decide_eq_false_iff_not] at _h);(try (guard_hyp _h : True;clear _h));first|done|contradiction|(conv=>whnf)))|(refine And.intro ?_ ?_;(focus (first|rfl|decide|assumption|omega|decide +kernel|exact ⟨rfl, rfl⟩|exact ⟨rfl, rfl, rfl, rfl⟩|exact fun h => Bool.noConfusion h|exact fun _ => rfl|exact Nat.le_of_ble_eq_true rfl|(simp only [List.length_map, List.length_append, List.length_replicate, List.length_take, List.length_drop, List.length_set, List.length_cons, List.length_nil]; omega)));(conv=>whnf))))
        have hcut : AVal.d (.ints .u8 ((b.take (IntKind.i64.wrap (8 + ((keySize b : Nat) : Int))).toNat).drop (Int.toNat 8))) = .d (byt (keyMod b)) := by rw [e5]; rfl
        have hml : (keyMod b).length = keySize b := cutB_len (by omega)
        refine acallI (k_make (keyMod b) (hb.cut _ _) (by unfold LIM; omega)) (by rw [← hcut]; rfl) fun r hr => ?_
        have err22 : notMod (keyMod b) ≠ 0 ∨ keyC (keyMod b) ≠ b → keyErr b = 22 := fun h => by unfold keyErr; rw [if_neg (by omega), if_neg m1, if_neg l1, if_neg l2, if_pos h]
        by_cases hn : notMod (keyMod b) ≠ 0
        · rw [if_pos hn] at hr
          subst hr
          ((conv=>whnf);repeat' (first|((first|refine pickT ?_ ?_|refine pickT2 ?_ ?_);(focus (first|assumption|exact dT (by first|assumption|omega)|exact nT (by first|assumption|omega)|exact nbT (by assumption)|rfl));(conv=>whnf))|((first|refine pickF ?_ ?_|refine pickF2 ?_ ?_);(focus (first|assumption|exact dF (by first|assumption|omega)|exact nF (by first|assumption|omega)|exact nbF (by assumption)|rfl));(conv=>whnf))|((first|(first|refine splitB ?_ ?_|refine splitB2 ?_ ?_)<;>intro _h|intro _h);all_goals ((first|replace _h:=of_decide_eq_true _h|replace _h:=of_decide_eq_false _h|skip);(try simp only [Bool.not_eq_true',Bool.not_eq_false',Bool.not_true,Bool.not_false,decide_eq_true_eq,decide_eq_false_iff_not] at _h);(try (guard_hyp _h : True;clear _h));first|done|contradiction|(conv=>whnf)))|(refine And.intro ?_ ?_;(focus (first|rfl|decide|assumption|omega|decide +kernel|exact ⟨rfl, rfl⟩|exact ⟨rfl, rfl, rfl, rfl⟩|exact fun h => Bool.noConfusion h|exact fun _ => rfl|exact Nat.le_of_ble_eq_true rfl|(simp only [List.length_map, List.length_append, List.length_replicate, List.length_take, List.length_drop, List.length_set, List.length_cons, List.length_nil]; omega)));(conv=>whnf))))
          refine Ends.imm rfl ?_
          rw [err22 (.inl hn), if_pos (by decide)]
        · rw [if_neg hn] at hr
          obtain ⟨n, n0, rr, rfl, hk⟩ := hr
          ((conv=>whnf);repeat' (first|((first|refine pickT ?_ ?_|refine pickT2 ?_ ?_);(focus (first|assumption|exact dT (by first|assumption|omega)|exact nT (by first|assumption|omega)|exact nbT (by assumption)|rfl));(conv=>whnf))|((first|refine pickF ?_ ?_|refine pickF2 ?_ ?_);(focus (first|assumption|exact dF (by first|assumption|omega)|exact nF (by first|assumption|omega)|exact nbF (by assumption)|rfl));(conv=>whnf))|((first|(first|refine splitB ?_ ?_|refine splitB2 ?_ ?_)<;>intro _h|intro _h);all_goals ((first|replace _h:=of_decide_eq_true _h|replace _h:=of_decide_eq_false _h|skip);(try simp only [Bool.not_eq_true',Bool.not_eq_false',Bool.not_true,Bool.not_false,decide_eq_true_eq,decide_eq_false_iff_not] at _h);(try (guard_hyp _h : True;clear _h));first|done|contradiction|(conv=>whnf)))|(refine And.intro ?_ ?_;(focus (first|rfl|decide|assumption|omega|decide +kernel|exact ⟨rfl, rfl⟩|exact ⟨rfl, rfl, rfl, rfl⟩|exact fun h => Bool.noConfusion h|exact fun _ => rfl|exact Nat.le_of_ble_eq_true rfl|(simp only [List.length_map, List.length_append, List.length_replicate, List.length_take, List.length_drop, List.length_set, List.length_cons, List.length_nil]; omega)));(conv=>whnf))))
          refine acallI (k_keyBytes (keyMod b) n n0 rr hk) rfl fun r hr => ?_
          rw [key_eq hk] at hr
          subst hr
          ((conv=>whnf);repeat' (first|((first|refine pickT ?_ ?_|refine pickT2 ?_ ?_);(focus (first|assumption|exact dT (by first|assumption|omega)|exact nT (by first|assumption|omega)|exact nbT (by assumption)|rfl));(conv=>whnf))|((first|refine pickF ?_ ?_|refine pickF2 ?_ ?_);(focus (first|assumption|exact dF (by first|assumption|omega)|exact nF (by first|assumption|omega)|exact nbF (by assumption)|rfl));(conv=>whnf))|((first|(first|refine splitB ?_ ?_|refine splitB2 ?_ ?_)<;>intro _h|intro _h);all_goals ((first|replace _h:=of_decide_eq_true _h|replace _h:=of_decide_eq_false _h|skip);(try simp only [Bool.not_eq_true',Bool.not_eq_false',Bool.not_true,Bool.not_false,decide_eq_true_eq,decide_eq_false_iff_not] at _h);(try (guard_hyp _h : True;clear _h));first|done|contradiction|(conv=>whnf)))|(refine And.intro ?_ ?_;(focus (first|rfl|decide|assumption|omega|decide +kernel|exact ⟨rfl, rfl⟩|exact ⟨rfl, rfl, rfl, rfl⟩|exact fun h => Bool.noConfusion h|exact fun _ => rfl|exact Nat.le_of_ble_eq_true rfl|(simp only [List.length_map, List.length_append, List.length_replicate, List.length_take, List.length_drop, List.length_set, List.length_cons, List.length_nil]; omega)));(conv=>whnf))))
          refine acallI (k_equal (keyC (keyMod b)) b) rfl fun r hr => ?_
          subst hr
          by_cases hc : keyC (keyMod b) = b
          · have e0 : keyErr b = 0 := by unfold keyErr; rw [if_neg (by omega), if_neg m1, if_neg l1, if_neg l2, if_neg (fun h => h.elim hn (fun h => h hc))]
            ((conv=>whnf);repeat' (first|((first|refine pickT ?_ ?_|refine pickT2 ?_ ?_);(focus (first|assumption|exact dT (by first|assumption|omega)|exact nT (by first|assumption|omega)|exact nbT (by assumption)|rfl));(conv=>whnf))|((first|refine pickF ?_ ?_|refine pickF2 ?_ ?_);(focus (first|assumption|exact dF (by first|assumption|omega)|exact nF (by first|assumption|omega)|exact nbF (by assumption)|rfl));(conv=>whnf))|((first|(first|refine splitB ?_ ?_|refine splitB2 ?_ ?_)<;>intro _h|intro _h);all_goals ((first|replace _h:=of_decide_eq_true _h|replace _h:=of_decide_eq_false _h|skip);(try simp only [Bool.not_eq_true',Bool.not_eq_false',Bool.not_true,Bool.not_false,decide_eq_true_eq,decide_eq_false_iff_not] at _h);(try (guard_hyp _h : True;clear _h));first|done|contradiction|(conv=>whnf)))|(refine And.intro ?_ ?_;(focus (first|rfl|decide|assumption|omega|decide +kernel|exact ⟨rfl, rfl⟩|exact ⟨rfl, rfl, rfl, rfl⟩|exact fun h => Bool.noConfusion h|exact fun _ => rfl|exact Nat.le_of_ble_eq_true rfl|(simp only [List.length_map, List.length_append, List.length_replicate, List.length_take, List.length_drop, List.length_set, List.length_cons, List.length_nil]; omega)));(conv=>whnf))))
            refine Ends.imm rfl ?_
            rw [e0, if_neg (by simp)]
            exact ⟨n, n0, rr, rfl, hk⟩
          · ((conv=>whnf);repeat' (first|((first|refine pickT ?_ ?_|refine pickT2 ?_ ?_);(focus (first|assumption|exact dT (by first|assumption|omega)|exact nT (by first|assumption|omega)|exact nbT (by assumption)|rfl));(conv=>whnf))|((first|refine pickF ?_ ?_|refine pickF2 ?_ ?_);(focus (first|assumption|exact dF (by first|assumption|omega)|exact nF (by first|assumption|omega)|exact nbF (by assumption)|rfl));(conv=>whnf))|((first|(first|refine splitB ?_ ?_|refine splitB2 ?_ ?_)<;>intro _h|intro _h);all_goals ((first|replace _h:=of_decide_eq_true _h|replace _h:=of_decide_eq_false _h|skip);(try simp only [Bool.not_eq_true',Bool.not_eq_false',Bool.not_true,Bool.not_false,decide_eq_true_eq,decide_eq_false_iff_not] at _h);(try (guard_hyp _h : True;clear _h));first|done|contradiction|(conv=>whnf)))|(refine And.intro ?_ ?_;(focus (first|rfl|decide|assumption|omega|decide +kernel|exact ⟨rfl, rfl⟩|exact ⟨rfl, rfl, rfl, rfl⟩|exact fun h => Bool.noConfusion h|exact fun _ => rfl|exact Nat.le_of_ble_eq_true rfl|(simp only [List.length_map, List.length_append, List.length_replicate, List.length_take, List.length_drop, List.length_set, List.length_cons, List.length_nil]; omega)));(conv=>whnf))))
            refine Ends.imm rfl ?_
            rw [err22 (.inr hc), if_pos (by decide)]
end Go.Proofs.YtniaeiikdgbnfaaDoor.R

/- The key's code, part 22: keys read by the reference; the laws KeyParses and KeyNames. -/
namespace Go.Proofs.YtniaeiikdgbnfaaDoor.R
open Go Go.RowKit Go.Proofs Go.Proofs.YtniaeiikdgbnfaaDoor.AW
set_option linter.unusedSectionVars false
variable [Globs]
set_option maxRecDepth 100000
set_option linter.unusedSimpArgs false
set_option linter.unusedVariables false
set_option maxHeartbeats 4000000

def toldRP : AW.Told := ⟨fun _ => false, fun _ _ => [], fun r => if r == 16 then .take 0 (.one 1 (.take 2 (.take 3 (.take 4 (.take 7 (.take 8 (.one 5 (.take 6 (.take 9 (.take 10 .done)))))))))) else .done⟩

theorem k_refParse (b : List Int) (hb : wfd b) (hl : b.length ≤ 100000) : Imm Tryd.prog 29 [.d (byt b)] (fun r =>
    if keyErr b ≠ 0 then r = .tup [.nls (byt []), i64 (keyErr b)] else r = .tup [.d (byt (keyMod b)), i64 0]) := by
  have hbr := bits_range hb
  have hks : ((keySize b : Nat) : Int) = bitsOf b / 8 := by unfold keySize; omega
  (refine Imm.of_awp toldRP [] Tryd.func29 rfl (by decide) (Nat.le_of_ble_eq_true rfl) ?_; intro _w0 _S0 _E0 _B0; ((conv=>whnf);repeat' (first|((first|refine pickT ?_ ?_|refine pickT2 ?_ ?_);(focus (first|assumption|exact dT (by assumption)|exact nT (by assumption)|exact nbT (by assumption)|rfl));(conv=>whnf))|((first|refine pickF ?_ ?_|refine pickF2 ?_ ?_);(focus (first|assumption|exact dF (by assumption)|exact nF (by assumption)|exact nbF (by assumption)|rfl));(conv=>whnf))|((first|(first|refine splitB ?_ ?_|refine splitB2 ?_ ?_)<;>intro _h|intro _h);all_goals ((first|replace _h:=of_decide_eq_true _h|replace _h:=of_decide_eq_false _h|skip);(try simp only [Bool.not_eq_true',Bool.not_eq_false',Bool.not_true,Bool.not_false,decide_eq_true_eq,decide_eq_false_iff_not] at _h);(try (guard_hyp _h : True;clear _h));first|done|contradiction|(conv=>whnf)))|(refine And.intro ?_ ?_;(focus (first|rfl|decide|assumption|omega|decide +kernel|exact ⟨rfl, rfl⟩|exact ⟨rfl, rfl, rfl, rfl⟩|exact fun h => Bool.noConfusion h|exact fun _ => rfl|exact Nat.le_of_ble_eq_true rfl|(simp only [List.length_map, List.length_append, List.length_replicate, List.length_take, List.length_drop, List.length_set, List.length_cons, List.length_nil]; omega)));(conv=>whnf)))))
  · refine Ends.imm rfl ?_
    have e : keyErr b = 10 := by unfold keyErr; rw [if_pos (by omega)]
    rw [e, if_pos (by decide)]
  have h8 : 8 ≤ b.length := by omega
  have hcl : (cutB b 0 4).length = 4 := cutB_len (by omega)
  have hcw : wfd (cutB b 0 4) := hb.cut _ _
  refine aloop (T := toldRP) (ι := Nat) (fun j => [(0, .d (byt b)), (4, i64 (bn ((cutB b 0 4).take j))), (5, i64 j)]) (fun _ => []) 64 0
    (fun j => 4 - j) (fun j => j ≤ 4)
    ⟨0, [], rfl, by omega, by (refine ⟨rfl, rfl, ?_, ?_⟩ <;> repeat' (first | exact True.intro | rfl | decide | (refine And.intro ?_ ?_)))⟩ ?_
  intro j hj
  have hlt : bn ((cutB b 0 4).take j) < ((256 ^ j : Nat) : Int) := by
    have := bn_lt (hcw.take j)
    rwa [List.length_take, Nat.min_eq_left (by omega)] at this
  have hnn := bn_nonneg (hcw.take j)
  have hp : 256 ^ j ≤ 256 ^ 4 := Nat.pow_le_pow_right (by omega) (by omega)
  rcases Nat.lt_or_ge j 4 with h4 | h4
  · have est : bn ((cutB b 0 4).take (j + 1)) = bn ((cutB b 0 4).take j) * 256 + b.getD j 0 := by
      rw [take_snoc (by omega), bn_snoc]
      congr 1
      unfold cutB
      rw [List.getD_eq_getElem?_getD, List.getElem?_drop, List.getElem?_take, if_pos (by omega), Nat.zero_add, ← List.getD_eq_getElem?_getD]
    have hg := hb.get j
    ((conv=>whnf);repeat' (first|((first|refine pickT ?_ ?_|refine pickT2 ?_ ?_);(focus (first|assumption|exact dT (by first|assumption|omega)|exact nT (by first|assumption|omega)|exact nbT (by assumption)|rfl));(conv=>whnf))|((first|refine pickF ?_ ?_|refine pickF2 ?_ ?_);(focus (first|assumption|exact dF (by first|assumption|omega)|exact nF (by first|assumption|omega)|exact nbF (by assumption)|rfl));(conv=>whnf))|((first|(first|refine splitB ?_ ?_|refine splitB2 ?_ ?_)<;>intro _h|intro _h);all_goals ((first|replace _h:=of_decide_eq_true _h|replace _h:=of_decide_eq_false _h|skip);(try simp only [Bool.not_eq_true',Bool.not_eq_false',Bool.not_true,Bool.not_false,decide_eq_true_eq,decide_eq_false_iff_not] at _h);(try (guard_hyp _h : True;clear _h));first|done|contradiction|(conv=>whnf)))|(refine And.intro ?_ ?_;(focus (first|rfl|decide|assumption|omega|decide +kernel|exact ⟨rfl, rfl⟩|exact ⟨rfl, rfl, rfl, rfl⟩|exact fun h => Bool.noConfusion h|exact fun _ => rfl|exact Nat.le_of_ble_eq_true rfl|(simp only [List.length_map, List.length_append, List.length_replicate, List.length_take, List.length_drop, List.length_set, List.length_cons, List.length_nil]; omega)));(conv=>whnf))))
    refine ⟨j + 1, [], by omega, by omega, rfl, ?_⟩
    (refine ⟨rfl, rfl, ?_, ?_⟩ <;> repeat' (first | exact True.intro | rfl | decide | (refine And.intro ?_ ?_)))
    · refine di ?_
      rw [est, Int.toNat_natCast, wrap_i64 (n := _ * 256) (by omega) (by omega), wrap_i64 (n := b.getD j 0) (by omega) (by omega), wrap_i64 (by omega) (by omega)]
    · exact di (by rw [wrap_i64 (by omega) (by omega)]; omega)
  · have hj4 : j = 4 := by omega
    have hall : (cutB b 0 4).take j = cutB b 0 4 := List.take_of_length_le (by omega)
    rw [hall]
    change awp _ _ _ _ ⟨64, frL [(0, .d (byt b)), (4, i64 (bitsOf b)), (5, i64 (j : Int))], [], 0⟩ _
    clear hlt hnn hp hall
    have t1 : (bitsOf b).tmod 512 = bitsOf b % 512 := Int.tmod_eq_emod_of_nonneg hbr.1
    have e1 : IntKind.i64.wrap ((bitsOf b).tdiv 8) = (keySize b : Nat) := by rw [Int.tdiv_eq_ediv_of_nonneg (by omega), wrap_i64 (by omega) (by omega), hks]
    have hz : (bitsOf b % 8 ≠ 0 ∨ sized (keySize b) = false) ↔ ¬ (512 ≤ bitsOf b ∧ bitsOf b ≤ 4096 ∧ (bitsOf b).tmod 512 = 0) := by
      cases hsz : sized (keySize b) with
      | true =>
        have := sized_spec.1 hsz
        simp
        omega
      | false =>
        have : ¬ (64 ≤ keySize b ∧ keySize b ≤ 512 ∧ keySize b % 64 = 0) := fun h => by rw [sized_spec.2 h] at hsz; cases hsz
        simp
        omega
    by_cases hg : 512 ≤ bitsOf b ∧ bitsOf b ≤ 4096 ∧ (bitsOf b).tmod 512 = 0
    rotate_left
    · have e : keyErr b = 21 := by unfold keyErr; rw [if_neg (by omega), if_pos (hz.2 hg)]
      ((conv=>whnf);repeat' (first|((first|refine pickT ?_ ?_|refine pickT2 ?_ ?_);(focus (first|assumption|exact dT (by first|assumption|omega)|exact nT (by first|assumption|omega)|exact nbT (by assumption)|rfl));(conv=>whnf))|((first|refine pickF ?_ ?_|refine pickF2 ?_ ?_);(focus (first|assumption|exact dF (by first|assumption|omega)|exact nF (by first|assumption|omega)|exact nbF (by assumption)|rfl));(conv=>whnf))|((first|(first|refine splitB ?_ ?_|refine splitB2 ?_ ?_)<;>intro _h|intro _h);all_goals ((first|replace _h:=of_decide_eq_true _h|replace _h:=of_decide_eq_false _h|skip);(try simp only [Bool.not_eq_true',Bool.not_eq_false',Bool.not_true,Bool.not_false,decide_eq_true_eq,decide_eq_false_iff_not] at _h);(try (guard_hyp _h : True;clear _h));first|done|contradiction|(conv=>whnf)))|(refine And.intro ?_ ?_;(focus (first|rfl|decide|assumption|omega|decide +kernel|exact ⟨rfl, rfl⟩|exact ⟨rfl, rfl, rfl, rfl⟩|exact fun h => Bool.noConfusion h|exact fun _ => rfl|exact Nat.le_of_ble_eq_true rfl|(simp only [List.length_map, List.length_append, List.length_replicate, List.length_take, List.length_drop, List.length_set, List.length_cons, List.length_nil]; omega)));(conv=>whnf))))
      all_goals first
        | (refine Ends.imm rfl ?_; rw [e, if_pos (by decide)]; done)
        | (exfalso; omega)
    · obtain ⟨g1, g2, g3⟩ := hg
      have m1 : ¬ (bitsOf b % 8 ≠ 0 ∨ sized (keySize b) = false) := fun h => hz.1 h ⟨g1, g2, g3⟩
      have s1 : 64 ≤ keySize b ∧ keySize b ≤ 512 := by omega
      have e3 : IntKind.i64.wrap (2 * ((keySize b : Nat) : Int)) = ((2 * keySize b : Nat) : Int) := by rw [wrap_i64 (by omega) (by omega)]; omega
      have e4 : IntKind.i64.wrap (8 + ((2 * keySize b : Nat) : Int)) = ((8 + 2 * keySize b : Nat) : Int) := by rw [wrap_i64 (by omega) (by omega)]; omega
      have e5 : IntKind.i64.wrap (8 + ((keySize b : Nat) : Int)) = ((8 + keySize b : Nat) : Int) := by rw [wrap_i64 (by omega) (by omega)]; omega
      have e45 : IntKind.i64.wrap (8 + IntKind.i64.wrap (2 * IntKind.i64.wrap ((bitsOf b).tdiv 8))) = ((8 + 2 * keySize b : Nat) : Int) := by rw [e1, e3, e4]
      have e15 : IntKind.i64.wrap (8 + IntKind.i64.wrap ((bitsOf b).tdiv 8)) = ((8 + keySize b : Nat) : Int) := by rw [e1, e5]
      by_cases l1 : b.length < 8 + 2 * keySize b
      · have l1' : (b.length : Int) < IntKind.i64.wrap (8 + IntKind.i64.wrap (2 * IntKind.i64.wrap ((bitsOf b).tdiv 8))) := by rw [e45]; omega
        ((conv=>whnf);repeat' (first|((first|refine pickT ?_ ?_|refine pickT2 ?_ ?_);(focus (first|assumption|exact dT (by first|assumption|omega)|exact nT (by first|assumption|omega)|exact nbT (by assumption)|rfl));(conv=>whnf))|((first|refine pickF ?_ ?_|refine pickF2 ?_ ?_);(focus (first|assumption|exact dF (by first|assumption|omega)|exact nF (by first|assumption|omega)|exact nbF (by assumption)|rfl));(conv=>whnf))|((first|(first|refine splitB ?_ ?_|refine splitB2 ?_ ?_)<;>intro _h|intro _h);all_goals ((first|replace _h:=of_decide_eq_true _h|replace _h:=of_decide_eq_false _h|skip);(try simp only [Bool.not_eq_true',Bool.not_eq_false',Bool.not_true,Bool.not_false,decide_eq_true_eq,decide_eq_false_iff_not] at _h);(try (guard_hyp _h : True;clear _h));first|done|contradiction|(conv=>whnf)))|(refine And.intro ?_ ?_;(focus (first|rfl|decide|assumption|omega|decide +kernel|exact ⟨rfl, rfl⟩|exact ⟨rfl, rfl, rfl, rfl⟩|exact fun h => Bool.noConfusion h|exact fun _ => rfl|exact Nat.le_of_ble_eq_true rfl|(simp only [List.length_map, List.length_append, List.length_replicate, List.length_take, List.length_drop, List.length_set, List.length_cons, List.length_nil]; omega)));(conv=>whnf))))
        refine Ends.imm rfl ?_
        have e : keyErr b = 10 := by unfold keyErr; rw [if_neg (by omega), if_neg m1, if_pos l1]
        rw [e, if_pos (by decide)]
      · have l1' : ¬ (b.length : Int) < IntKind.i64.wrap (8 + IntKind.i64.wrap (2 * IntKind.i64.wrap ((bitsOf b).tdiv 8))) := by rw [e45]; omega
        by_cases l2 : 8 + 2 * keySize b < b.length
        · have l2' : IntKind.i64.wrap (8 + IntKind.i64.wrap (2 * IntKind.i64.wrap ((bitsOf b).tdiv 8))) < (b.length : Int) := by rw [e45]; omega
          ((conv=>whnf);repeat' (first|((first|refine pickT ?_ ?_|refine pickT2 ?_ ?_);(focus (first|assumption|exact dT (by first|assumption|omega)|exact nT (by first|assumption|omega)|exact nbT (by assumption)|rfl));(conv=>whnf))|((first|refine pickF ?_ ?_|refine pickF2 ?_ ?_);(focus (first|assumption|exact dF (by first|assumption|omega)|exact nF (by first|assumption|omega)|exact nbF (by assumption)|rfl));(conv=>whnf))|((first|(first|refine splitB ?_ ?_|refine splitB2 ?_ ?_)<;>intro _h|intro _h);all_goals ((first|replace _h:=of_decide_eq_true _h|replace _h:=of_decide_eq_false _h|skip);(try simp only [Bool.not_eq_true',Bool.not_eq_false',Bool.not_true,Bool.not_false,decide_eq_true_eq,decide_eq_false_iff_not] at _h);(try (guard_hyp _h : True;clear _h));first|done|contradiction|(conv=>whnf)))|(refine And.intro ?_ ?_;(focus (first|rfl|decide|assumption|omega|decide +kernel|exact ⟨rfl, rfl⟩|exact ⟨rfl, rfl, rfl, rfl⟩|exact fun h => Bool.noConfusion h|exact fun _ => rfl|exact Nat.le_of_ble_eq_true rfl|(simp only [List.length_map, List.length_append, List.length_replicate, List.length_take, List.length_drop, List.length_set, List.length_cons, List.length_nil]; omega)));(conv=>whnf))))
          refine Ends.imm rfl ?_
          have e : keyErr b = 12 := by unfold keyErr; rw [if_neg (by omega), if_neg m1, if_neg l1, if_pos l2]
          rw [e, if_pos (by decide)]
        · have l2' : ¬ IntKind.i64.wrap (8 + IntKind.i64.wrap (2 * IntKind.i64.wrap ((bitsOf b).tdiv 8))) < (b.length : Int) := by rw [e45]; omega
          ((conv=>whnf);repeat' (first|((first|refine pickT ?_ ?_|refine pickT2 ?_ ?_);(focus (first|assumption|exact dT (by first|assumption|omega)|exact nT (by first|assumption|omega)|exact nbT (by assumption)|rfl));(conv=>whnf))|((first|refine pickF ?_ ?_|refine pickF2 ?_ ?_);(focus (first|assumption|exact dF (by first|assumption|omega)|exact nF (by first|assumption|omega)|exact nbF (by assumption)|rfl));(conv=>whnf))|((first|(first|refine splitB ?_ ?_|refine splitB2 ?_ ?_)<;>intro _h|intro _h);all_goals ((first|replace _h:=of_decide_eq_true _h|replace _h:=of_decide_eq_false _h|skip);(try simp only [Bool.not_eq_true',Bool.not_eq_false',Bool.not_true,Bool.not_false,decide_eq_true_eq,decide_eq_false_iff_not] at _h);(try (guard_hyp _h : True;clear _h));first|done|contradiction|(conv=>whnf)))|(refine And.intro ?_ ?_;(focus (first|rfl|decide|assumption|omega|decide +kernel|exact ⟨rfl, rfl⟩|exact ⟨rfl, rfl, rfl, rfl⟩|exact fun h => Bool.noConfusion h|exact fun _ => rfl|exact Nat.le_of_ble_eq_true rfl|(simp only [List.length_map, List.length_append, List.length_replicate, List.length_take, List.length_drop, List.length_set, List.length_cons, List.length_nil]; omega)));(conv=>whnf))))
          have hcut : AVal.d (.ints .u8 ((b.take (IntKind.i64.wrap (8 + IntKind.i64.wrap ((bitsOf b).tdiv 8))).toNat).drop (Int.toNat 8))) = .d (byt (keyMod b)) := by rw [e15]; rfl
          rw [e15]
          have hml : (keyMod b).length = keySize b := cutB_len (by omega)
          refine acallI (k_right (keyMod b) (hb.cut _ _) (by unfold LIM; omega)) rfl fun r hr => ?_
          subst hr
          have err22 : notMod (keyMod b) ≠ 0 ∨ keyC (keyMod b) ≠ b → keyErr b = 22 := fun h => by unfold keyErr; rw [if_neg (by omega), if_neg m1, if_neg l1, if_neg l2, if_pos h]
          by_cases hn : notMod (keyMod b) = 0
          · have hof := of_notMod hn
            ((conv=>whnf);repeat' (first|((first|refine pickT ?_ ?_|refine pickT2 ?_ ?_);(focus (first|assumption|exact dT (by first|assumption|omega)|exact nT (by first|assumption|omega)|exact nbT (by assumption)|rfl));(conv=>whnf))|((first|refine pickF ?_ ?_|refine pickF2 ?_ ?_);(focus (first|assumption|exact dF (by first|assumption|omega)|exact nF (by first|assumption|omega)|exact nbF (by assumption)|rfl));(conv=>whnf))|((first|(first|refine splitB ?_ ?_|refine splitB2 ?_ ?_)<;>intro _h|intro _h);all_goals ((first|replace _h:=of_decide_eq_true _h|replace _h:=of_decide_eq_false _h|skip);(try simp only [Bool.not_eq_true',Bool.not_eq_false',Bool.not_true,Bool.not_false,decide_eq_true_eq,decide_eq_false_iff_not] at _h);(try (guard_hyp _h : True;clear _h));first|done|contradiction|(conv=>whnf)))|(refine And.intro ?_ ?_;(focus (first|rfl|decide|assumption|omega|decide +kernel|exact ⟨rfl, rfl⟩|exact ⟨rfl, rfl, rfl, rfl⟩|exact fun h => Bool.noConfusion h|exact fun _ => rfl|exact Nat.le_of_ble_eq_true rfl|(simp only [List.length_map, List.length_append, List.length_replicate, List.length_take, List.length_drop, List.length_set, List.length_cons, List.length_nil]; omega)));(conv=>whnf))))
            refine acallI (k_refBytes (keyMod b) (hb.cut _ _) (by omega) ?_) rfl fun r hr => ?_
            · have := bn_high (keyMod b) (hb.cut _ _) (by omega)
              omega
            subst hr
            by_cases hc : keyC (keyMod b) = b
            · have e0 : keyErr b = 0 := by unfold keyErr; rw [if_neg (by omega), if_neg m1, if_neg l1, if_neg l2, if_neg (fun h => h.elim (fun h => h hn) (fun h => h hc))]
              ((conv=>whnf);repeat' (first|((first|refine pickT ?_ ?_|refine pickT2 ?_ ?_);(focus (first|assumption|exact dT (by first|assumption|omega)|exact nT (by first|assumption|omega)|exact nbT (by assumption)|rfl));(conv=>whnf))|((first|refine pickF ?_ ?_|refine pickF2 ?_ ?_);(focus (first|assumption|exact dF (by first|assumption|omega)|exact nF (by first|assumption|omega)|exact nbF (by assumption)|rfl));(conv=>whnf))|((first|(first|refine splitB ?_ ?_|refine splitB2 ?_ ?_)<;>intro _h|intro _h);all_goals ((first|replace _h:=of_decide_eq_true _h|replace _h:=of_decide_eq_false _h|skip);(try simp only [Bool.not_eq_true',Bool.not_eq_false',Bool.not_true,Bool.not_false,decide_eq_true_eq,decide_eq_false_iff_not] at _h);(try (guard_hyp _h : True;clear _h));first|done|contradiction|(conv=>whnf)))|(refine And.intro ?_ ?_;(focus (first|rfl|decide|assumption|omega|decide +kernel|exact ⟨rfl, rfl⟩|exact ⟨rfl, rfl, rfl, rfl⟩|exact fun h => Bool.noConfusion h|exact fun _ => rfl|exact Nat.le_of_ble_eq_true rfl|(simp only [List.length_map, List.length_append, List.length_replicate, List.length_take, List.length_drop, List.length_set, List.length_cons, List.length_nil]; omega)));(conv=>whnf))))
              refine Ends.imm rfl ?_
              rw [e0, if_neg (by simp)]
              rfl
            · ((conv=>whnf);repeat' (first|((first|refine pickT ?_ ?_|refine pickT2 ?_ ?_);(focus (first|assumption|exact dT (by first|assumption|omega)|exact nT (by first|assumption|omega)|exact nbT (by assumption)|rfl));(conv=>whnf))|((first|refine pickF ?_ ?_|refine pickF2 ?_ ?_);(focus (first|assumption|exact dF (by first|assumption|omega)|exact nF (by first|assumption|omega)|exact nbF (by assumption)|rfl));(conv=>whnf))|((first|(first|refine splitB ?_ ?_|refine splitB2 ?_ ?_)<;>intro _h|intro _h);all_goals ((first|replace _h:=of_decide_eq_true _h|replace _h:=of_decide_eq_false _h|skip);(try simp only [Bool.not_eq_true',Bool.not_eq_false',Bool.not_true,Bool.not_false,decide_eq_true_eq,decide_eq_false_iff_not] at _h);(try (guard_hyp _h : True;clear _h));first|done|contradiction|(conv=>whnf)))|(refine And.intro ?_ ?_;(focus (first|rfl|decide|assumption|omega|decide +kernel|exact ⟨rfl, rfl⟩|exact ⟨rfl, rfl, rfl, rfl⟩|exact fun h => Bool.noConfusion h|exact fun _ => rfl|exact Nat.le_of_ble_eq_true rfl|(simp only [List.length_map, List.length_append, List.length_replicate, List.length_take, List.length_drop, List.length_set, List.length_cons, List.length_nil]; omega)));(conv=>whnf))))
              refine Ends.imm rfl ?_
              rw [err22 (.inr hc), if_pos (by decide)]
          · ((conv=>whnf);repeat' (first|((first|refine pickT ?_ ?_|refine pickT2 ?_ ?_);(focus (first|assumption|exact dT (by first|assumption|omega)|exact nT (by first|assumption|omega)|exact nbT (by assumption)|rfl));(conv=>whnf))|((first|refine pickF ?_ ?_|refine pickF2 ?_ ?_);(focus (first|assumption|exact dF (by first|assumption|omega)|exact nF (by first|assumption|omega)|exact nbF (by assumption)|rfl));(conv=>whnf))|((first|(first|refine splitB ?_ ?_|refine splitB2 ?_ ?_)<;>intro _h|intro _h);all_goals ((first|replace _h:=of_decide_eq_true _h|replace _h:=of_decide_eq_false _h|skip);(try simp only [Bool.not_eq_true',Bool.not_eq_false',Bool.not_true,Bool.not_false,decide_eq_true_eq,decide_eq_false_iff_not] at _h);(try (guard_hyp _h : True;clear _h));first|done|contradiction|(conv=>whnf)))|(refine And.intro ?_ ?_;(focus (first|rfl|decide|assumption|omega|decide +kernel|exact ⟨rfl, rfl⟩|exact ⟨rfl, rfl, rfl, rfl⟩|exact fun h => Bool.noConfusion h|exact fun _ => rfl|exact Nat.le_of_ble_eq_true rfl|(simp only [List.length_map, List.length_append, List.length_replicate, List.length_take, List.length_drop, List.length_set, List.length_cons, List.length_nil]; omega)));(conv=>whnf))))
            refine Ends.imm rfl ?_
            rw [err22 (.inl hn), if_pos (by decide)]
end Go.Proofs.YtniaeiikdgbnfaaDoor.R

/- The key's code, part 23: the laws KeyParses and KeyNames. -/
namespace Go.Proofs.YtniaeiikdgbnfaaDoor.R
open Go Go.RowKit Go.Proofs Go.Proofs.YtniaeiikdgbnfaaDoor.AW
set_option linter.unusedSectionVars false
variable [Globs]
set_option maxRecDepth 100000
set_option linter.unusedSimpArgs false
set_option linter.unusedVariables false
set_option maxHeartbeats 4000000

theorem k_modOf (m n : List Int) (n0 : Int) (rr : List Int) (h : Key m n n0 rr) : Imm Tryd.prog 31 [.d (keyD m n n0 rr)] (fun r => r = .d (byt m)) := by
  obtain ⟨h1, h2, h3, hs⟩ := h.pos
  have hl := h.len
  (refine Imm.of_awp told0 [] Tryd.func31 rfl (by decide) (Nat.le_of_ble_eq_true rfl) ?_; intro _w0 _S0 _E0 _B0; ((conv=>whnf);repeat' (first|((first|refine pickT ?_ ?_|refine pickT2 ?_ ?_);(focus (first|assumption|exact dT (by assumption)|exact nT (by assumption)|exact nbT (by assumption)|rfl));(conv=>whnf))|((first|refine pickF ?_ ?_|refine pickF2 ?_ ?_);(focus (first|assumption|exact dF (by assumption)|exact nF (by assumption)|exact nbF (by assumption)|rfl));(conv=>whnf))|((first|(first|refine splitB ?_ ?_|refine splitB2 ?_ ?_)<;>intro _h|intro _h);all_goals ((first|replace _h:=of_decide_eq_true _h|replace _h:=of_decide_eq_false _h|skip);(try simp only [Bool.not_eq_true',Bool.not_eq_false',Bool.not_true,Bool.not_false,decide_eq_true_eq,decide_eq_false_iff_not] at _h);(try (guard_hyp _h : True;clear _h));first|done|contradiction|(conv=>whnf)))|(refine And.intro ?_ ?_;(focus (first|rfl|decide|assumption|omega|decide +kernel|exact ⟨rfl, rfl⟩|exact ⟨rfl, rfl, rfl, rfl⟩|exact fun h => Bool.noConfusion h|exact fun _ => rfl|exact Nat.le_of_ble_eq_true rfl|(simp only [List.length_map, List.length_append, List.length_replicate, List.length_take, List.length_drop, List.length_set, List.length_cons, List.length_nil]; omega)));(conv=>whnf)))))
  refine acallI (k_clone m (fun h' => by subst h'; simp at hl; omega) (by omega)) rfl fun r hr => ?_
  subst hr
  ((conv=>whnf);repeat' (first|((first|refine pickT ?_ ?_|refine pickT2 ?_ ?_);(focus (first|assumption|exact dT (by assumption)|exact nT (by assumption)|exact nbT (by assumption)|rfl));(conv=>whnf))|((first|refine pickF ?_ ?_|refine pickF2 ?_ ?_);(focus (first|assumption|exact dF (by assumption)|exact nF (by assumption)|exact nbF (by assumption)|rfl));(conv=>whnf))|((first|(first|refine splitB ?_ ?_|refine splitB2 ?_ ?_)<;>intro _h|intro _h);all_goals ((first|replace _h:=of_decide_eq_true _h|replace _h:=of_decide_eq_false _h|skip);(try simp only [Bool.not_eq_true',Bool.not_eq_false',Bool.not_true,Bool.not_false,decide_eq_true_eq,decide_eq_false_iff_not] at _h);(try (guard_hyp _h : True;clear _h));first|done|contradiction|(conv=>whnf)))|(refine And.intro ?_ ?_;(focus (first|rfl|decide|assumption|omega|decide +kernel|exact ⟨rfl, rfl⟩|exact ⟨rfl, rfl, rfl, rfl⟩|exact fun h => Bool.noConfusion h|exact fun _ => rfl|exact Nat.le_of_ble_eq_true rfl|(simp only [List.length_map, List.length_append, List.length_replicate, List.length_take, List.length_drop, List.length_set, List.length_cons, List.length_nil]; omega)));(conv=>whnf))))
  exact Ends.imm rfl rfl

def toldLKP : AW.Told := ⟨fun _ => false, fun _ _ => [], fun r => if r == 9 then .take 0 (.take 1 (.take 2 (.take 3 (.take 4 (.take 5 (.take 6 (.take 7 (.take 10 (.take 11 (.one 8 (.take 9 (.take 12 (.take 13 (.take 14 (.take 15 (.take 18 (.take 19 (.one 16 (.take 17 (.take 20 (.take 21 (.take 22 .done)))))))))))))))))))))) else .done⟩

theorem keyErr_ok {b : List Int} (h : keyErr b = 0) : keyC (keyMod b) = b := by
  unfold keyErr at h
  split at h
  · cases h
  · split at h
    · cases h
    · split at h
      · cases h
      · split at h
        · cases h
        · split at h
          · cases h
          · rename_i h2
            exact Classical.byContradiction fun h3 => h2 (.inr h3)

theorem l_keyParses (hG : Globs.gl 0 = some EXP) (b : List Int) (hb : wfd b) (hbl : b.length ≤ LIM) :
    Imm Tryd.prog 6 [.d (byt b)] (fun r => r = bool true) := by
  (refine Imm.of_awp toldLKP [] Tryd.func6 rfl (by decide) (Nat.le_of_ble_eq_true rfl) ?_; intro _w0 _S0 _E0 _B0; ((conv=>whnf);repeat' (first|((first|refine pickT ?_ ?_|refine pickT2 ?_ ?_);(focus (first|assumption|exact dT (by assumption)|exact nT (by assumption)|exact nbT (by assumption)|rfl));(conv=>whnf))|((first|refine pickF ?_ ?_|refine pickF2 ?_ ?_);(focus (first|assumption|exact dF (by assumption)|exact nF (by assumption)|exact nbF (by assumption)|rfl));(conv=>whnf))|((first|(first|refine splitB ?_ ?_|refine splitB2 ?_ ?_)<;>intro _h|intro _h);all_goals ((first|replace _h:=of_decide_eq_true _h|replace _h:=of_decide_eq_false _h|skip);(try simp only [Bool.not_eq_true',Bool.not_eq_false',Bool.not_true,Bool.not_false,decide_eq_true_eq,decide_eq_false_iff_not] at _h);(try (guard_hyp _h : True;clear _h));first|done|contradiction|(conv=>whnf)))|(refine And.intro ?_ ?_;(focus (first|rfl|decide|assumption|omega|decide +kernel|exact ⟨rfl, rfl⟩|exact ⟨rfl, rfl, rfl, rfl⟩|exact fun h => Bool.noConfusion h|exact fun _ => rfl|exact Nat.le_of_ble_eq_true rfl|(simp only [List.length_map, List.length_append, List.length_replicate, List.length_take, List.length_drop, List.length_set, List.length_cons, List.length_nil]; omega)));(conv=>whnf)))))
  refine acallI (k_anchor hG) rfl fun r hr => ?_
  subst hr
  ((conv=>whnf);repeat' (first|((first|refine pickT ?_ ?_|refine pickT2 ?_ ?_);(focus (first|assumption|exact dT (by first|assumption|omega)|exact nT (by first|assumption|omega)|exact nbT (by assumption)|rfl));(conv=>whnf))|((first|refine pickF ?_ ?_|refine pickF2 ?_ ?_);(focus (first|assumption|exact dF (by first|assumption|omega)|exact nF (by first|assumption|omega)|exact nbF (by assumption)|rfl));(conv=>whnf))|((first|(first|refine splitB ?_ ?_|refine splitB2 ?_ ?_)<;>intro _h|intro _h);all_goals ((first|replace _h:=of_decide_eq_true _h|replace _h:=of_decide_eq_false _h|skip);(try simp only [Bool.not_eq_true',Bool.not_eq_false',Bool.not_true,Bool.not_false,decide_eq_true_eq,decide_eq_false_iff_not] at _h);(try (guard_hyp _h : True;clear _h));first|done|contradiction|(conv=>whnf)))|(refine And.intro ?_ ?_;(focus (first|rfl|decide|assumption|omega|decide +kernel|exact ⟨rfl, rfl⟩|exact ⟨rfl, rfl, rfl, rfl⟩|exact fun h => Bool.noConfusion h|exact fun _ => rfl|exact Nat.le_of_ble_eq_true rfl|(simp only [List.length_map, List.length_append, List.length_replicate, List.length_take, List.length_drop, List.length_set, List.length_cons, List.length_nil]; omega)));(conv=>whnf))))
  · exact Ends.imm rfl rfl
  refine acallI (k_parse b hb (by omega)) rfl fun r hr => ?_
  by_cases h0 : keyErr b = 0
  · rw [if_neg (by simp [h0])] at hr
    obtain ⟨n, n0, rr, rfl, hk⟩ := hr
    ((conv=>whnf);repeat' (first|((first|refine pickT ?_ ?_|refine pickT2 ?_ ?_);(focus (first|assumption|exact dT (by first|assumption|omega)|exact nT (by first|assumption|omega)|exact nbT (by assumption)|rfl));(conv=>whnf))|((first|refine pickF ?_ ?_|refine pickF2 ?_ ?_);(focus (first|assumption|exact dF (by first|assumption|omega)|exact nF (by first|assumption|omega)|exact nbF (by assumption)|rfl));(conv=>whnf))|((first|(first|refine splitB ?_ ?_|refine splitB2 ?_ ?_)<;>intro _h|intro _h);all_goals ((first|replace _h:=of_decide_eq_true _h|replace _h:=of_decide_eq_false _h|skip);(try simp only [Bool.not_eq_true',Bool.not_eq_false',Bool.not_true,Bool.not_false,decide_eq_true_eq,decide_eq_false_iff_not] at _h);(try (guard_hyp _h : True;clear _h));first|done|contradiction|(conv=>whnf)))|(refine And.intro ?_ ?_;(focus (first|rfl|decide|assumption|omega|decide +kernel|exact ⟨rfl, rfl⟩|exact ⟨rfl, rfl, rfl, rfl⟩|exact fun h => Bool.noConfusion h|exact fun _ => rfl|exact Nat.le_of_ble_eq_true rfl|(simp only [List.length_map, List.length_append, List.length_replicate, List.length_take, List.length_drop, List.length_set, List.length_cons, List.length_nil]; omega)));(conv=>whnf))))
    refine acallI (k_refParse b hb (by omega)) rfl fun r hr => ?_
    rw [if_neg (by simp [h0])] at hr
    subst hr
    ((conv=>whnf);repeat' (first|((first|refine pickT ?_ ?_|refine pickT2 ?_ ?_);(focus (first|assumption|exact dT (by first|assumption|omega)|exact nT (by first|assumption|omega)|exact nbT (by assumption)|rfl));(conv=>whnf))|((first|refine pickF ?_ ?_|refine pickF2 ?_ ?_);(focus (first|assumption|exact dF (by first|assumption|omega)|exact nF (by first|assumption|omega)|exact nbF (by assumption)|rfl));(conv=>whnf))|((first|(first|refine splitB ?_ ?_|refine splitB2 ?_ ?_)<;>intro _h|intro _h);all_goals ((first|replace _h:=of_decide_eq_true _h|replace _h:=of_decide_eq_false _h|skip);(try simp only [Bool.not_eq_true',Bool.not_eq_false',Bool.not_true,Bool.not_false,decide_eq_true_eq,decide_eq_false_iff_not] at _h);(try (guard_hyp _h : True;clear _h));first|done|contradiction|(conv=>whnf)))|(refine And.intro ?_ ?_;(focus (first|rfl|decide|assumption|omega|decide +kernel|exact ⟨rfl, rfl⟩|exact ⟨rfl, rfl, rfl, rfl⟩|exact fun h => Bool.noConfusion h|exact fun _ => rfl|exact Nat.le_of_ble_eq_true rfl|(simp only [List.length_map, List.length_append, List.length_replicate, List.length_take, List.length_drop, List.length_set, List.length_cons, List.length_nil]; omega)));(conv=>whnf))))
    refine acallI (k_keyBytes (keyMod b) n n0 rr hk) rfl fun r hr => ?_
    rw [key_eq hk, keyErr_ok h0] at hr
    subst hr
    ((conv=>whnf);repeat' (first|((first|refine pickT ?_ ?_|refine pickT2 ?_ ?_);(focus (first|assumption|exact dT (by first|assumption|omega)|exact nT (by first|assumption|omega)|exact nbT (by assumption)|rfl));(conv=>whnf))|((first|refine pickF ?_ ?_|refine pickF2 ?_ ?_);(focus (first|assumption|exact dF (by first|assumption|omega)|exact nF (by first|assumption|omega)|exact nbF (by assumption)|rfl));(conv=>whnf))|((first|(first|refine splitB ?_ ?_|refine splitB2 ?_ ?_)<;>intro _h|intro _h);all_goals ((first|replace _h:=of_decide_eq_true _h|replace _h:=of_decide_eq_false _h|skip);(try simp only [Bool.not_eq_true',Bool.not_eq_false',Bool.not_true,Bool.not_false,decide_eq_true_eq,decide_eq_false_iff_not] at _h);(try (guard_hyp _h : True;clear _h));first|done|contradiction|(conv=>whnf)))|(refine And.intro ?_ ?_;(focus (first|rfl|decide|assumption|omega|decide +kernel|exact ⟨rfl, rfl⟩|exact ⟨rfl, rfl, rfl, rfl⟩|exact fun h => Bool.noConfusion h|exact fun _ => rfl|exact Nat.le_of_ble_eq_true rfl|(simp only [List.length_map, List.length_append, List.length_replicate, List.length_take, List.length_drop, List.length_set, List.length_cons, List.length_nil]; omega)));(conv=>whnf))))
    refine acallI (k_modOf (keyMod b) n n0 rr hk) rfl fun r hr => ?_
    subst hr
    ((conv=>whnf);repeat' (first|((first|refine pickT ?_ ?_|refine pickT2 ?_ ?_);(focus (first|assumption|exact dT (by first|assumption|omega)|exact nT (by first|assumption|omega)|exact nbT (by assumption)|rfl));(conv=>whnf))|((first|refine pickF ?_ ?_|refine pickF2 ?_ ?_);(focus (first|assumption|exact dF (by first|assumption|omega)|exact nF (by first|assumption|omega)|exact nbF (by assumption)|rfl));(conv=>whnf))|((first|(first|refine splitB ?_ ?_|refine splitB2 ?_ ?_)<;>intro _h|intro _h);all_goals ((first|replace _h:=of_decide_eq_true _h|replace _h:=of_decide_eq_false _h|skip);(try simp only [Bool.not_eq_true',Bool.not_eq_false',Bool.not_true,Bool.not_false,decide_eq_true_eq,decide_eq_false_iff_not] at _h);(try (guard_hyp _h : True;clear _h));first|done|contradiction|(conv=>whnf)))|(refine And.intro ?_ ?_;(focus (first|rfl|decide|assumption|omega|decide +kernel|exact ⟨rfl, rfl⟩|exact ⟨rfl, rfl, rfl, rfl⟩|exact fun h => Bool.noConfusion h|exact fun _ => rfl|exact Nat.le_of_ble_eq_true rfl|(simp only [List.length_map, List.length_append, List.length_replicate, List.length_take, List.length_drop, List.length_set, List.length_cons, List.length_nil]; omega)));(conv=>whnf))))
    exact Ends.imm rfl (by simp)
  · rw [if_pos (by simp [h0])] at hr
    subst hr
    ((conv=>whnf);repeat' (first|((first|refine pickT ?_ ?_|refine pickT2 ?_ ?_);(focus (first|assumption|exact dT (by first|assumption|omega)|exact nT (by first|assumption|omega)|exact nbT (by assumption)|rfl));(conv=>whnf))|((first|refine pickF ?_ ?_|refine pickF2 ?_ ?_);(focus (first|assumption|exact dF (by first|assumption|omega)|exact nF (by first|assumption|omega)|exact nbF (by assumption)|rfl));(conv=>whnf))|((first|(first|refine splitB ?_ ?_|refine splitB2 ?_ ?_)<;>intro _h|intro _h);all_goals ((first|replace _h:=of_decide_eq_true _h|replace _h:=of_decide_eq_false _h|skip);(try simp only [Bool.not_eq_true',Bool.not_eq_false',Bool.not_true,Bool.not_false,decide_eq_true_eq,decide_eq_false_iff_not] at _h);(try (guard_hyp _h : True;clear _h));first|done|contradiction|(conv=>whnf)))|(refine And.intro ?_ ?_;(focus (first|rfl|decide|assumption|omega|decide +kernel|exact ⟨rfl, rfl⟩|exact ⟨rfl, rfl, rfl, rfl⟩|exact fun h => Bool.noConfusion h|exact fun _ => rfl|exact Nat.le_of_ble_eq_true rfl|(simp only [List.length_map, List.length_append, List.length_replicate, List.length_take, List.length_drop, List.length_set, List.length_cons, List.length_nil]; omega)));(conv=>whnf))))
    refine acallI (k_refParse b hb (by omega)) rfl fun r hr => ?_
    rw [if_pos (by simp [h0])] at hr
    subst hr
    ((conv=>whnf);repeat' (first|((first|refine pickT ?_ ?_|refine pickT2 ?_ ?_);(focus (first|assumption|exact dT (by first|assumption|omega)|exact nT (by first|assumption|omega)|exact nbT (by assumption)|rfl));(conv=>whnf))|((first|refine pickF ?_ ?_|refine pickF2 ?_ ?_);(focus (first|assumption|exact dF (by first|assumption|omega)|exact nF (by first|assumption|omega)|exact nbF (by assumption)|rfl));(conv=>whnf))|((first|(first|refine splitB ?_ ?_|refine splitB2 ?_ ?_)<;>intro _h|intro _h);all_goals ((first|replace _h:=of_decide_eq_true _h|replace _h:=of_decide_eq_false _h|skip);(try simp only [Bool.not_eq_true',Bool.not_eq_false',Bool.not_true,Bool.not_false,decide_eq_true_eq,decide_eq_false_iff_not] at _h);(try (guard_hyp _h : True;clear _h));first|done|contradiction|(conv=>whnf)))|(refine And.intro ?_ ?_;(focus (first|rfl|decide|assumption|omega|decide +kernel|exact ⟨rfl, rfl⟩|exact ⟨rfl, rfl, rfl, rfl⟩|exact fun h => Bool.noConfusion h|exact fun _ => rfl|exact Nat.le_of_ble_eq_true rfl|(simp only [List.length_map, List.length_append, List.length_replicate, List.length_take, List.length_drop, List.length_set, List.length_cons, List.length_nil]; omega)));(conv=>whnf))))
    exact Ends.imm rfl (by simp)
end Go.Proofs.YtniaeiikdgbnfaaDoor.R

/- The key's code, part 24: bytes that are the caller's own; the law KeyNames. -/
namespace Go.Proofs.YtniaeiikdgbnfaaDoor.R
open Go Go.RowKit Go.Proofs Go.Proofs.YtniaeiikdgbnfaaDoor.AW
set_option linter.unusedSectionVars false
variable [Globs]
set_option maxRecDepth 100000
set_option linter.unusedSimpArgs false
set_option linter.unusedVariables false
set_option maxHeartbeats 4000000

theorem k_concatO (xss : List (List Int)) (h0 : 0 < xss.flatten.length) (hl : xss.flatten.length ≤ 1000000) (hx : xss.length ≤ 1000000) :
    CSpec Tryd.prog 67 [.d (.sl 1 (xss.map byt))] [] 0 (fun st nx r => st = [(0, .row .u8 5 xss.flatten)] ∧ nx = 1 ∧ r = .own 0) := by
  refine CSpec.ends (CSpec.of_awp told0 [] Tryd.func67 rfl (by decide) (Nat.le_of_ble_eq_true rfl) fun _w0 _S0 _E0 _B0 => ?_)
  ((conv=>whnf);repeat' (first|((first|refine pickT ?_ ?_|refine pickT2 ?_ ?_);(focus (first|assumption|exact dT (by assumption)|exact nT (by assumption)|exact nbT (by assumption)|rfl));(conv=>whnf))|((first|refine pickF ?_ ?_|refine pickF2 ?_ ?_);(focus (first|assumption|exact dF (by assumption)|exact nF (by assumption)|exact nbF (by assumption)|rfl));(conv=>whnf))|((first|(first|refine splitB ?_ ?_|refine splitB2 ?_ ?_)<;>intro _h|intro _h);all_goals ((first|replace _h:=of_decide_eq_true _h|replace _h:=of_decide_eq_false _h|skip);(try simp only [Bool.not_eq_true',Bool.not_eq_false',Bool.not_true,Bool.not_false,decide_eq_true_eq,decide_eq_false_iff_not] at _h);(try (guard_hyp _h : True;clear _h));first|done|contradiction|(conv=>whnf)))|(refine And.intro ?_ ?_;(focus (first|rfl|decide|assumption|omega|decide +kernel|exact ⟨rfl, rfl⟩|exact ⟨rfl, rfl, rfl, rfl⟩|exact fun h => Bool.noConfusion h|exact fun _ => rfl|exact Nat.le_of_ble_eq_true rfl|(simp only [List.length_map, List.length_append, List.length_replicate, List.length_take, List.length_drop, List.length_set, List.length_cons, List.length_nil]; omega)));(conv=>whnf))))
  refine aloop (T := told0) (fun k : Nat => [(0, .d (.sl 1 (xss.map byt))), (3, i64 (xss.take k).flatten.length), (9, .d (.sl 1 (xss.map byt))), (10, i64 xss.length), (11, i64 k)]) (fun _ => []) 36 0 (fun k => xss.length - k) (fun k => k ≤ xss.length)
    ⟨0, [], rfl, Nat.zero_le _, by (refine ⟨rfl, rfl, ?_, ?_⟩ <;> repeat' (first | exact True.intro | rfl | decide | (refine And.intro ?_ ?_))); simp [AW.upd, renV]⟩ ?_
  intro k hk
  have hf1 := flat_le xss (k + 1)
  rcases Nat.lt_or_ge k xss.length with hkl | hkl
  · have hfk := flat_take xss k hkl
    have hlen : (xss.take (k + 1)).flatten.length = (xss.take k).flatten.length + (xss.getD k []).length := by rw [hfk, List.length_append]
    have e1 : IntKind.i64.wrap (((xss.take k).flatten.length : Int) + (xss.getD k []).length) = ((xss.take (k + 1)).flatten.length : Nat) := by
      rw [wrap_i64 (by omega) (by omega)]; omega
    ((conv=>whnf);repeat' (first|((first|refine pickT ?_ ?_|refine pickT2 ?_ ?_);(focus (first|assumption|exact dT (by first|assumption|omega)|exact nT (by first|assumption|omega)|exact nbT (by assumption)|rfl));(conv=>whnf))|((first|refine pickF ?_ ?_|refine pickF2 ?_ ?_);(focus (first|assumption|exact dF (by first|assumption|omega)|exact nF (by first|assumption|omega)|exact nbF (by assumption)|rfl));(conv=>whnf))|((first|(first|refine splitB ?_ ?_|refine splitB2 ?_ ?_)<;>intro _h|intro _h);all_goals ((first|replace _h:=of_decide_eq_true _h|replace _h:=of_decide_eq_false _h|skip);(try simp only [Bool.not_eq_true',Bool.not_eq_false',Bool.not_true,Bool.not_false,decide_eq_true_eq,decide_eq_false_iff_not] at _h);(try (guard_hyp _h : True;clear _h));first|done|contradiction|(conv=>whnf)))|(refine And.intro ?_ ?_;(focus (first|rfl|decide|assumption|omega|decide +kernel|exact ⟨rfl, rfl⟩|exact ⟨rfl, rfl, rfl, rfl⟩|exact fun h => Bool.noConfusion h|exact fun _ => rfl|exact Nat.le_of_ble_eq_true rfl|(simp only [List.length_map, List.length_append, List.length_replicate, List.length_take, List.length_drop, List.length_set, List.length_cons, List.length_nil]; omega)));(conv=>whnf))))
    rw [Int.toNat_natCast, getD_map byt xss k [] default (by omega)]
    ((conv=>whnf);repeat' (first|((first|refine pickT ?_ ?_|refine pickT2 ?_ ?_);(focus (first|assumption|exact dT (by first|assumption|omega)|exact nT (by first|assumption|omega)|exact nbT (by assumption)|rfl));(conv=>whnf))|((first|refine pickF ?_ ?_|refine pickF2 ?_ ?_);(focus (first|assumption|exact dF (by first|assumption|omega)|exact nF (by first|assumption|omega)|exact nbF (by assumption)|rfl));(conv=>whnf))|((first|(first|refine splitB ?_ ?_|refine splitB2 ?_ ?_)<;>intro _h|intro _h);all_goals ((first|replace _h:=of_decide_eq_true _h|replace _h:=of_decide_eq_false _h|skip);(try simp only [Bool.not_eq_true',Bool.not_eq_false',Bool.not_true,Bool.not_false,decide_eq_true_eq,decide_eq_false_iff_not] at _h);(try (guard_hyp _h : True;clear _h));first|done|contradiction|(conv=>whnf)))|(refine And.intro ?_ ?_;(focus (first|rfl|decide|assumption|omega|decide +kernel|exact ⟨rfl, rfl⟩|exact ⟨rfl, rfl, rfl, rfl⟩|exact fun h => Bool.noConfusion h|exact fun _ => rfl|exact Nat.le_of_ble_eq_true rfl|(simp only [List.length_map, List.length_append, List.length_replicate, List.length_take, List.length_drop, List.length_set, List.length_cons, List.length_nil]; omega)));(conv=>whnf))))
    refine ⟨k + 1, [], by omega, by omega, rfl, ?_⟩
    (refine ⟨rfl, rfl, ?_, ?_⟩ <;> repeat' (first | exact True.intro | rfl | decide | (refine And.intro ?_ ?_)))
    · exact di e1
    · exact di (by rw [wrap_i64 (by omega) (by omega)]; rfl)
  · have hk' : k = xss.length := by omega
    subst hk'
    rw [List.take_length]
    ((conv=>whnf);repeat' (first|((first|refine pickT ?_ ?_|refine pickT2 ?_ ?_);(focus (first|assumption|exact dT (by first|assumption|omega)|exact nT (by first|assumption|omega)|exact nbT (by assumption)|rfl));(conv=>whnf))|((first|refine pickF ?_ ?_|refine pickF2 ?_ ?_);(focus (first|assumption|exact dF (by first|assumption|omega)|exact nF (by first|assumption|omega)|exact nbF (by assumption)|rfl));(conv=>whnf))|((first|(first|refine splitB ?_ ?_|refine splitB2 ?_ ?_)<;>intro _h|intro _h);all_goals ((first|replace _h:=of_decide_eq_true _h|replace _h:=of_decide_eq_false _h|skip);(try simp only [Bool.not_eq_true',Bool.not_eq_false',Bool.not_true,Bool.not_false,decide_eq_true_eq,decide_eq_false_iff_not] at _h);(try (guard_hyp _h : True;clear _h));first|done|contradiction|(conv=>whnf)))|(refine And.intro ?_ ?_;(focus (first|rfl|decide|assumption|omega|decide +kernel|exact ⟨rfl, rfl⟩|exact ⟨rfl, rfl, rfl, rfl⟩|exact fun h => Bool.noConfusion h|exact fun _ => rfl|exact Nat.le_of_ble_eq_true rfl|(simp only [List.length_map, List.length_append, List.length_replicate, List.length_take, List.length_drop, List.length_set, List.length_cons, List.length_nil]; omega)));(conv=>whnf))))
    refine acall [] (k_grow xss.flatten.length h0 hl) rfl (by simp [stIn]) rfl (fun _ => rfl) ?_
    rintro st nx r ⟨rfl, rfl, rfl⟩
    ((conv=>whnf);repeat' (first|((first|refine pickT ?_ ?_|refine pickT2 ?_ ?_);(focus (first|assumption|exact dT (by first|assumption|omega)|exact nT (by first|assumption|omega)|exact nbT (by assumption)|rfl));(conv=>whnf))|((first|refine pickF ?_ ?_|refine pickF2 ?_ ?_);(focus (first|assumption|exact dF (by first|assumption|omega)|exact nF (by first|assumption|omega)|exact nbF (by assumption)|rfl));(conv=>whnf))|((first|(first|refine splitB ?_ ?_|refine splitB2 ?_ ?_)<;>intro _h|intro _h);all_goals ((first|replace _h:=of_decide_eq_true _h|replace _h:=of_decide_eq_false _h|skip);(try simp only [Bool.not_eq_true',Bool.not_eq_false',Bool.not_true,Bool.not_false,decide_eq_true_eq,decide_eq_false_iff_not] at _h);(try (guard_hyp _h : True;clear _h));first|done|contradiction|(conv=>whnf)))|(refine And.intro ?_ ?_;(focus (first|rfl|decide|assumption|omega|decide +kernel|exact ⟨rfl, rfl⟩|exact ⟨rfl, rfl, rfl, rfl⟩|exact fun h => Bool.noConfusion h|exact fun _ => rfl|exact Nat.le_of_ble_eq_true rfl|(simp only [List.length_map, List.length_append, List.length_replicate, List.length_take, List.length_drop, List.length_set, List.length_cons, List.length_nil]; omega)));(conv=>whnf))))
    refine aloop (T := told0) (fun k : Nat => [(0, .d (.sl 1 (xss.map byt))), (6, .own 0), (25, .d (.sl 1 (xss.map byt))), (26, i64 xss.length), (27, i64 k)]) (fun k => [(0, .row .u8 5 (xss.take k).flatten)]) 36 1 (fun k => xss.length - k) (fun k => k ≤ xss.length)
      ⟨0, [0], rfl, Nat.zero_le _, by (refine ⟨rfl, rfl, ?_, ?_⟩ <;> repeat' (first | exact True.intro | rfl | decide | (refine And.intro ?_ ?_))); simp [AW.upd, renV]⟩ ?_
    intro k hk
    have hf1 := flat_le xss (k + 1)
    rcases Nat.lt_or_ge k xss.length with hkl | hkl
    · have hfk := flat_take xss k hkl
      have hlen : (xss.take (k + 1)).flatten.length = (xss.take k).flatten.length + (xss.getD k []).length := by rw [hfk, List.length_append]
      ((conv=>whnf);repeat' (first|((first|refine pickT ?_ ?_|refine pickT2 ?_ ?_);(focus (first|assumption|exact dT (by first|assumption|omega)|exact nT (by first|assumption|omega)|exact nbT (by assumption)|rfl));(conv=>whnf))|((first|refine pickF ?_ ?_|refine pickF2 ?_ ?_);(focus (first|assumption|exact dF (by first|assumption|omega)|exact nF (by first|assumption|omega)|exact nbF (by assumption)|rfl));(conv=>whnf))|((first|(first|refine splitB ?_ ?_|refine splitB2 ?_ ?_)<;>intro _h|intro _h);all_goals ((first|replace _h:=of_decide_eq_true _h|replace _h:=of_decide_eq_false _h|skip);(try simp only [Bool.not_eq_true',Bool.not_eq_false',Bool.not_true,Bool.not_false,decide_eq_true_eq,decide_eq_false_iff_not] at _h);(try (guard_hyp _h : True;clear _h));first|done|contradiction|(conv=>whnf)))|(refine And.intro ?_ ?_;(focus (first|rfl|decide|assumption|omega|decide +kernel|exact ⟨rfl, rfl⟩|exact ⟨rfl, rfl, rfl, rfl⟩|exact fun h => Bool.noConfusion h|exact fun _ => rfl|exact Nat.le_of_ble_eq_true rfl|(simp only [List.length_map, List.length_append, List.length_replicate, List.length_take, List.length_drop, List.length_set, List.length_cons, List.length_nil]; omega)));(conv=>whnf))))
      rw [Int.toNat_natCast, getD_map byt xss k [] default (by omega)]
      ((conv=>whnf);repeat' (first|((first|refine pickT ?_ ?_|refine pickT2 ?_ ?_);(focus (first|assumption|exact dT (by first|assumption|omega)|exact nT (by first|assumption|omega)|exact nbT (by assumption)|rfl));(conv=>whnf))|((first|refine pickF ?_ ?_|refine pickF2 ?_ ?_);(focus (first|assumption|exact dF (by first|assumption|omega)|exact nF (by first|assumption|omega)|exact nbF (by assumption)|rfl));(conv=>whnf))|((first|(first|refine splitB ?_ ?_|refine splitB2 ?_ ?_)<;>intro _h|intro _h);all_goals ((first|replace _h:=of_decide_eq_true _h|replace _h:=of_decide_eq_false _h|skip);(try simp only [Bool.not_eq_true',Bool.not_eq_false',Bool.not_true,Bool.not_false,decide_eq_true_eq,decide_eq_false_iff_not] at _h);(try (guard_hyp _h : True;clear _h));first|done|contradiction|(conv=>whnf)))|(refine And.intro ?_ ?_;(focus (first|rfl|decide|assumption|omega|decide +kernel|exact ⟨rfl, rfl⟩|exact ⟨rfl, rfl, rfl, rfl⟩|exact fun h => Bool.noConfusion h|exact fun _ => rfl|exact Nat.le_of_ble_eq_true rfl|(simp only [List.length_map, List.length_append, List.length_replicate, List.length_take, List.length_drop, List.length_set, List.length_cons, List.length_nil]; omega)));(conv=>whnf))))
      refine ⟨by show ((xss.take k).flatten.length + (xss.getD k []).length) * 1 ≤ 140737488355328; omega, ?_⟩
      ((conv=>whnf);repeat' (first|((first|refine pickT ?_ ?_|refine pickT2 ?_ ?_);(focus (first|assumption|exact dT (by first|assumption|omega)|exact nT (by first|assumption|omega)|exact nbT (by assumption)|rfl));(conv=>whnf))|((first|refine pickF ?_ ?_|refine pickF2 ?_ ?_);(focus (first|assumption|exact dF (by first|assumption|omega)|exact nF (by first|assumption|omega)|exact nbF (by assumption)|rfl));(conv=>whnf))|((first|(first|refine splitB ?_ ?_|refine splitB2 ?_ ?_)<;>intro _h|intro _h);all_goals ((first|replace _h:=of_decide_eq_true _h|replace _h:=of_decide_eq_false _h|skip);(try simp only [Bool.not_eq_true',Bool.not_eq_false',Bool.not_true,Bool.not_false,decide_eq_true_eq,decide_eq_false_iff_not] at _h);(try (guard_hyp _h : True;clear _h));first|done|contradiction|(conv=>whnf)))|(refine And.intro ?_ ?_;(focus (first|rfl|decide|assumption|omega|decide +kernel|exact ⟨rfl, rfl⟩|exact ⟨rfl, rfl, rfl, rfl⟩|exact fun h => Bool.noConfusion h|exact fun _ => rfl|exact Nat.le_of_ble_eq_true rfl|(simp only [List.length_map, List.length_append, List.length_replicate, List.length_take, List.length_drop, List.length_set, List.length_cons, List.length_nil]; omega)));(conv=>whnf))))
      refine ⟨k + 1, [0], by omega, by omega, rfl, ?_⟩
      (refine ⟨rfl, rfl, ?_, ?_⟩ <;> repeat' (first | exact True.intro | rfl | decide | (refine And.intro ?_ ?_)))
      · exact di (by rw [wrap_i64 (by omega) (by omega)]; rfl)
      · show some (Ob.row .u8 _ _) = some (Ob.row .u8 _ _)
        rw [hfk]
    · have hk' : k = xss.length := by omega
      subst hk'
      rw [List.take_length]
      ((conv=>whnf);repeat' (first|((first|refine pickT ?_ ?_|refine pickT2 ?_ ?_);(focus (first|assumption|exact dT (by first|assumption|omega)|exact nT (by first|assumption|omega)|exact nbT (by assumption)|rfl));(conv=>whnf))|((first|refine pickF ?_ ?_|refine pickF2 ?_ ?_);(focus (first|assumption|exact dF (by first|assumption|omega)|exact nF (by first|assumption|omega)|exact nbF (by assumption)|rfl));(conv=>whnf))|((first|(first|refine splitB ?_ ?_|refine splitB2 ?_ ?_)<;>intro _h|intro _h);all_goals ((first|replace _h:=of_decide_eq_true _h|replace _h:=of_decide_eq_false _h|skip);(try simp only [Bool.not_eq_true',Bool.not_eq_false',Bool.not_true,Bool.not_false,decide_eq_true_eq,decide_eq_false_iff_not] at _h);(try (guard_hyp _h : True;clear _h));first|done|contradiction|(conv=>whnf)))|(refine And.intro ?_ ?_;(focus (first|rfl|decide|assumption|omega|decide +kernel|exact ⟨rfl, rfl⟩|exact ⟨rfl, rfl, rfl, rfl⟩|exact fun h => Bool.noConfusion h|exact fun _ => rfl|exact Nat.le_of_ble_eq_true rfl|(simp only [List.length_map, List.length_append, List.length_replicate, List.length_take, List.length_drop, List.length_set, List.length_cons, List.length_nil]; omega)));(conv=>whnf))))
      exact ⟨[0], [(0, .row .u8 5 xss.flatten)], .own 0, ⟨rfl, ⟨⟨by decide, rfl⟩, trivial⟩, rfl⟩, rfl, rfl, rfl⟩

theorem k_keyBytesO (m n : List Int) (n0 : Int) (rr : List Int) (h : Key m n n0 rr) : CSpec Tryd.prog 30 [.d (keyD m n n0 rr)] [] 0 (fun st nx r => st = [(0, .row .u8 5 (keyBytes m n0 rr))] ∧ nx = 1 ∧ r = .own 0) := by
  obtain ⟨h1, h2, h3, hs⟩ := h.pos
  have hl := h.len
  have w1 : IntKind.i64.wrap (8 * (m.length : Int)) = ((8 * m.length : Nat) : Int) := by rw [wrap_i64 (by omega) (by omega)]; omega
  have hn0 := h.ring.hn0
  obtain ⟨v, hv⟩ : ∃ v : Nat, n0 = v := ⟨n0.toNat, by omega⟩
  refine CSpec.ends (CSpec.of_awp toldKB [] Tryd.func30 rfl (by decide) (Nat.le_of_ble_eq_true rfl) fun _w0 _S0 _E0 _B0 => ?_)
  ((conv=>whnf);repeat' (first|((first|refine pickT ?_ ?_|refine pickT2 ?_ ?_);(focus (first|assumption|exact dT (by assumption)|exact nT (by assumption)|exact nbT (by assumption)|rfl));(conv=>whnf))|((first|refine pickF ?_ ?_|refine pickF2 ?_ ?_);(focus (first|assumption|exact dF (by assumption)|exact nF (by assumption)|exact nbF (by assumption)|rfl));(conv=>whnf))|((first|(first|refine splitB ?_ ?_|refine splitB2 ?_ ?_)<;>intro _h|intro _h);all_goals ((first|replace _h:=of_decide_eq_true _h|replace _h:=of_decide_eq_false _h|skip);(try simp only [Bool.not_eq_true',Bool.not_eq_false',Bool.not_true,Bool.not_false,decide_eq_true_eq,decide_eq_false_iff_not] at _h);(try (guard_hyp _h : True;clear _h));first|done|contradiction|(conv=>whnf)))|(refine And.intro ?_ ?_;(focus (first|rfl|decide|assumption|omega|decide +kernel|exact ⟨rfl, rfl⟩|exact ⟨rfl, rfl, rfl, rfl⟩|exact fun h => Bool.noConfusion h|exact fun _ => rfl|exact Nat.le_of_ble_eq_true rfl|(simp only [List.length_map, List.length_append, List.length_replicate, List.length_take, List.length_drop, List.length_set, List.length_cons, List.length_nil]; omega)));(conv=>whnf))))
  refine acallI (k_size m n n0 rr) rfl fun r hr => ?_
  subst hr
  ((conv=>whnf);repeat' (first|((first|refine pickT ?_ ?_|refine pickT2 ?_ ?_);(focus (first|assumption|exact dT (by first|assumption|omega)|exact nT (by first|assumption|omega)|exact nbT (by assumption)|rfl));(conv=>whnf))|((first|refine pickF ?_ ?_|refine pickF2 ?_ ?_);(focus (first|assumption|exact dF (by first|assumption|omega)|exact nF (by first|assumption|omega)|exact nbF (by assumption)|rfl));(conv=>whnf))|((first|(first|refine splitB ?_ ?_|refine splitB2 ?_ ?_)<;>intro _h|intro _h);all_goals ((first|replace _h:=of_decide_eq_true _h|replace _h:=of_decide_eq_false _h|skip);(try simp only [Bool.not_eq_true',Bool.not_eq_false',Bool.not_true,Bool.not_false,decide_eq_true_eq,decide_eq_false_iff_not] at _h);(try (guard_hyp _h : True;clear _h));first|done|contradiction|(conv=>whnf)))|(refine And.intro ?_ ?_;(focus (first|rfl|decide|assumption|omega|decide +kernel|exact ⟨rfl, rfl⟩|exact ⟨rfl, rfl, rfl, rfl⟩|exact fun h => Bool.noConfusion h|exact fun _ => rfl|exact Nat.le_of_ble_eq_true rfl|(simp only [List.length_map, List.length_append, List.length_replicate, List.length_take, List.length_drop, List.length_set, List.length_cons, List.length_nil]; omega)));(conv=>whnf))))
  rw [w1]
  refine acallI (k_putN 4 (8 * m.length) (by omega) (by omega) (by omega)) rfl fun r hr => ?_
  unfold putQ at hr
  subst hr
  ((conv=>whnf);repeat' (first|((first|refine pickT ?_ ?_|refine pickT2 ?_ ?_);(focus (first|assumption|exact dT (by first|assumption|omega)|exact nT (by first|assumption|omega)|exact nbT (by assumption)|rfl));(conv=>whnf))|((first|refine pickF ?_ ?_|refine pickF2 ?_ ?_);(focus (first|assumption|exact dF (by first|assumption|omega)|exact nF (by first|assumption|omega)|exact nbF (by assumption)|rfl));(conv=>whnf))|((first|(first|refine splitB ?_ ?_|refine splitB2 ?_ ?_)<;>intro _h|intro _h);all_goals ((first|replace _h:=of_decide_eq_true _h|replace _h:=of_decide_eq_false _h|skip);(try simp only [Bool.not_eq_true',Bool.not_eq_false',Bool.not_true,Bool.not_false,decide_eq_true_eq,decide_eq_false_iff_not] at _h);(try (guard_hyp _h : True;clear _h));first|done|contradiction|(conv=>whnf)))|(refine And.intro ?_ ?_;(focus (first|rfl|decide|assumption|omega|decide +kernel|exact ⟨rfl, rfl⟩|exact ⟨rfl, rfl, rfl, rfl⟩|exact fun h => Bool.noConfusion h|exact fun _ => rfl|exact Nat.le_of_ble_eq_true rfl|(simp only [List.length_map, List.length_append, List.length_replicate, List.length_take, List.length_drop, List.length_set, List.length_cons, List.length_nil]; omega)));(conv=>whnf))))
  refine acallI (k_n0 n n0 rr hn0) rfl fun r hr => ?_
  subst hr
  ((conv=>whnf);repeat' (first|((first|refine pickT ?_ ?_|refine pickT2 ?_ ?_);(focus (first|assumption|exact dT (by first|assumption|omega)|exact nT (by first|assumption|omega)|exact nbT (by assumption)|rfl));(conv=>whnf))|((first|refine pickF ?_ ?_|refine pickF2 ?_ ?_);(focus (first|assumption|exact dF (by first|assumption|omega)|exact nF (by first|assumption|omega)|exact nbF (by assumption)|rfl));(conv=>whnf))|((first|(first|refine splitB ?_ ?_|refine splitB2 ?_ ?_)<;>intro _h|intro _h);all_goals ((first|replace _h:=of_decide_eq_true _h|replace _h:=of_decide_eq_false _h|skip);(try simp only [Bool.not_eq_true',Bool.not_eq_false',Bool.not_true,Bool.not_false,decide_eq_true_eq,decide_eq_false_iff_not] at _h);(try (guard_hyp _h : True;clear _h));first|done|contradiction|(conv=>whnf)))|(refine And.intro ?_ ?_;(focus (first|rfl|decide|assumption|omega|decide +kernel|exact ⟨rfl, rfl⟩|exact ⟨rfl, rfl, rfl, rfl⟩|exact fun h => Bool.noConfusion h|exact fun _ => rfl|exact Nat.le_of_ble_eq_true rfl|(simp only [List.length_map, List.length_append, List.length_replicate, List.length_take, List.length_drop, List.length_set, List.length_cons, List.length_nil]; omega)));(conv=>whnf))))
  refine acallI (k_put 4 v (by omega) (by omega) (by omega) ([] ++ be 4 (8 * m.length)) (fun h => by have := congrArg List.length h; simp [be_length] at this) (by simp [be_length])) (by rw [hv]; rfl) fun r hr => ?_
  unfold putQ at hr
  subst hr
  ((conv=>whnf);repeat' (first|((first|refine pickT ?_ ?_|refine pickT2 ?_ ?_);(focus (first|assumption|exact dT (by first|assumption|omega)|exact nT (by first|assumption|omega)|exact nbT (by assumption)|rfl));(conv=>whnf))|((first|refine pickF ?_ ?_|refine pickF2 ?_ ?_);(focus (first|assumption|exact dF (by first|assumption|omega)|exact nF (by first|assumption|omega)|exact nbF (by assumption)|rfl));(conv=>whnf))|((first|(first|refine splitB ?_ ?_|refine splitB2 ?_ ?_)<;>intro _h|intro _h);all_goals ((first|replace _h:=of_decide_eq_true _h|replace _h:=of_decide_eq_false _h|skip);(try simp only [Bool.not_eq_true',Bool.not_eq_false',Bool.not_true,Bool.not_false,decide_eq_true_eq,decide_eq_false_iff_not] at _h);(try (guard_hyp _h : True;clear _h));first|done|contradiction|(conv=>whnf)))|(refine And.intro ?_ ?_;(focus (first|rfl|decide|assumption|omega|decide +kernel|exact ⟨rfl, rfl⟩|exact ⟨rfl, rfl, rfl, rfl⟩|exact fun h => Bool.noConfusion h|exact fun _ => rfl|exact Nat.le_of_ble_eq_true rfl|(simp only [List.length_map, List.length_append, List.length_replicate, List.length_take, List.length_drop, List.length_set, List.length_cons, List.length_nil]; omega)));(conv=>whnf))))
  refine acallI (k_rr n n0 rr (fun h' => by have := h.ring.hrl; rw [h'] at this; simp at this; omega) (by have := h.ring.hrl; omega)) rfl fun r hr => ?_
  subst hr
  ((conv=>whnf);repeat' (first|((first|refine pickT ?_ ?_|refine pickT2 ?_ ?_);(focus (first|assumption|exact dT (by first|assumption|omega)|exact nT (by first|assumption|omega)|exact nbT (by assumption)|rfl));(conv=>whnf))|((first|refine pickF ?_ ?_|refine pickF2 ?_ ?_);(focus (first|assumption|exact dF (by first|assumption|omega)|exact nF (by first|assumption|omega)|exact nbF (by assumption)|rfl));(conv=>whnf))|((first|(first|refine splitB ?_ ?_|refine splitB2 ?_ ?_)<;>intro _h|intro _h);all_goals ((first|replace _h:=of_decide_eq_true _h|replace _h:=of_decide_eq_false _h|skip);(try simp only [Bool.not_eq_true',Bool.not_eq_false',Bool.not_true,Bool.not_false,decide_eq_true_eq,decide_eq_false_iff_not] at _h);(try (guard_hyp _h : True;clear _h));first|done|contradiction|(conv=>whnf)))|(refine And.intro ?_ ?_;(focus (first|rfl|decide|assumption|omega|decide +kernel|exact ⟨rfl, rfl⟩|exact ⟨rfl, rfl, rfl, rfl⟩|exact fun h => Bool.noConfusion h|exact fun _ => rfl|exact Nat.le_of_ble_eq_true rfl|(simp only [List.length_map, List.length_append, List.length_replicate, List.length_take, List.length_drop, List.length_set, List.length_cons, List.length_nil]; omega)));(conv=>whnf))))
  refine acallI (k_size m n n0 rr) rfl fun r hr => ?_
  subst hr
  ((conv=>whnf);repeat' (first|((first|refine pickT ?_ ?_|refine pickT2 ?_ ?_);(focus (first|assumption|exact dT (by first|assumption|omega)|exact nT (by first|assumption|omega)|exact nbT (by assumption)|rfl));(conv=>whnf))|((first|refine pickF ?_ ?_|refine pickF2 ?_ ?_);(focus (first|assumption|exact dF (by first|assumption|omega)|exact nF (by first|assumption|omega)|exact nbF (by assumption)|rfl));(conv=>whnf))|((first|(first|refine splitB ?_ ?_|refine splitB2 ?_ ?_)<;>intro _h|intro _h);all_goals ((first|replace _h:=of_decide_eq_true _h|replace _h:=of_decide_eq_false _h|skip);(try simp only [Bool.not_eq_true',Bool.not_eq_false',Bool.not_true,Bool.not_false,decide_eq_true_eq,decide_eq_false_iff_not] at _h);(try (guard_hyp _h : True;clear _h));first|done|contradiction|(conv=>whnf)))|(refine And.intro ?_ ?_;(focus (first|rfl|decide|assumption|omega|decide +kernel|exact ⟨rfl, rfl⟩|exact ⟨rfl, rfl, rfl, rfl⟩|exact fun h => Bool.noConfusion h|exact fun _ => rfl|exact Nat.le_of_ble_eq_true rfl|(simp only [List.length_map, List.length_append, List.length_replicate, List.length_take, List.length_drop, List.length_set, List.length_cons, List.length_nil]; omega)));(conv=>whnf))))
  have hrl := h.ring.hrl
  refine acallI (k_bytes rr m.length h.ring.hr ?_ (by omega) ?_) rfl fun r hr => ?_
  · unfold bad
    rw [hrl, decide_eq_false (by omega), decide_eq_false (by omega)]
    rfl
  · have a1 := h.ring.hrv
    have a2 := dval_lt h.wf.reverse
    rw [List.length_reverse] at a2
    have a3 : bn m < dpw m.length := a2
    have a4 := h.val
    omega
  subst hr
  ((conv=>whnf);repeat' (first|((first|refine pickT ?_ ?_|refine pickT2 ?_ ?_);(focus (first|assumption|exact dT (by first|assumption|omega)|exact nT (by first|assumption|omega)|exact nbT (by assumption)|rfl));(conv=>whnf))|((first|refine pickF ?_ ?_|refine pickF2 ?_ ?_);(focus (first|assumption|exact dF (by first|assumption|omega)|exact nF (by first|assumption|omega)|exact nbF (by assumption)|rfl));(conv=>whnf))|((first|(first|refine splitB ?_ ?_|refine splitB2 ?_ ?_)<;>intro _h|intro _h);all_goals ((first|replace _h:=of_decide_eq_true _h|replace _h:=of_decide_eq_false _h|skip);(try simp only [Bool.not_eq_true',Bool.not_eq_false',Bool.not_true,Bool.not_false,decide_eq_true_eq,decide_eq_false_iff_not] at _h);(try (guard_hyp _h : True;clear _h));first|done|contradiction|(conv=>whnf)))|(refine And.intro ?_ ?_;(focus (first|rfl|decide|assumption|omega|decide +kernel|exact ⟨rfl, rfl⟩|exact ⟨rfl, rfl, rfl, rfl⟩|exact fun h => Bool.noConfusion h|exact fun _ => rfl|exact Nat.le_of_ble_eq_true rfl|(simp only [List.length_map, List.length_append, List.length_replicate, List.length_take, List.length_drop, List.length_set, List.length_cons, List.length_nil]; omega)));(conv=>whnf))))
  refine acall [] (k_concatO [[] ++ be 4 (8 * m.length) ++ be 4 v, m, be m.length (val rr).toNat] (by simp [be_length]; omega) (by simp [be_length]; omega) (by simp)) rfl (by simp [stIn]) rfl (fun _ => rfl) ?_
  rintro st nx r ⟨rfl, rfl, rfl⟩
  ((conv=>whnf);repeat' (first|((first|refine pickT ?_ ?_|refine pickT2 ?_ ?_);(focus (first|assumption|exact dT (by first|assumption|omega)|exact nT (by first|assumption|omega)|exact nbT (by assumption)|rfl));(conv=>whnf))|((first|refine pickF ?_ ?_|refine pickF2 ?_ ?_);(focus (first|assumption|exact dF (by first|assumption|omega)|exact nF (by first|assumption|omega)|exact nbF (by assumption)|rfl));(conv=>whnf))|((first|(first|refine splitB ?_ ?_|refine splitB2 ?_ ?_)<;>intro _h|intro _h);all_goals ((first|replace _h:=of_decide_eq_true _h|replace _h:=of_decide_eq_false _h|skip);(try simp only [Bool.not_eq_true',Bool.not_eq_false',Bool.not_true,Bool.not_false,decide_eq_true_eq,decide_eq_false_iff_not] at _h);(try (guard_hyp _h : True;clear _h));first|done|contradiction|(conv=>whnf)))|(refine And.intro ?_ ?_;(focus (first|rfl|decide|assumption|omega|decide +kernel|exact ⟨rfl, rfl⟩|exact ⟨rfl, rfl, rfl, rfl⟩|exact fun h => Bool.noConfusion h|exact fun _ => rfl|exact Nat.le_of_ble_eq_true rfl|(simp only [List.length_map, List.length_append, List.length_replicate, List.length_take, List.length_drop, List.length_set, List.length_cons, List.length_nil]; omega)));(conv=>whnf))))
  refine ⟨[1], [(0, .row .u8 5 (keyBytes m n0 rr))], .own 0, ⟨rfl, ⟨⟨by decide, ?_⟩, trivial⟩, rfl⟩, rfl, rfl, rfl⟩
  have e : keyBytes m n0 rr = [[] ++ be 4 (8 * m.length) ++ be 4 v, m, be m.length (val rr).toNat].flatten := by simp [keyBytes, hv]
  rw [e]
  rfl

def toldLKN : AW.Told := ⟨fun _ => false, fun r i => if r == 10 && i == 0 then [9] else [], fun r => if r == 13 then .take 0 (.take 3 (.take 4 (.one 1 (.take 2 (.take 5 (.take 6 (.take 7 (.take 10 (.take 11 (.one 8 (.take 9 (.take 12 (.take 13 (.take 14 .done)))))))))))))) else .done⟩

theorem xor_ne (a x : Int) (ha : 0 ≤ a ∧ a < 256) (hx : 1 ≤ x ∧ x ≤ 255) : bitsK .xor .u8 a (IntKind.u8.wrap x) ≠ a ∧ 0 ≤ bitsK .xor .u8 a (IntKind.u8.wrap x) ∧ bitsK .xor .u8 a (IntKind.u8.wrap x) < 256 := by
  have hw : IntKind.u8.wrap x = x := wrap_in.2 ⟨by simp only [loK]; omega, by simp only [hiK]; omega⟩
  rw [hw]
  obtain ⟨p, rfl⟩ : ∃ p : Nat, a = p := ⟨a.toNat, by omega⟩
  obtain ⟨q, rfl⟩ : ∃ q : Nat, x = q := ⟨x.toNat, by omega⟩
  have e : bitsK .xor .u8 (p : Int) (q : Int) = ((p ^^^ q : Nat) : Int) := by
    show IntKind.u8.wrap ((BitVec.ofInt 8 (p : Int) ^^^ BitVec.ofInt 8 (q : Int)).toNat : Int) = _
    have e6 : (BitVec.ofInt 8 (p : Int) ^^^ BitVec.ofInt 8 (q : Int)).toNat = p ^^^ q := by
      simp only [BitVec.ofInt_natCast, BitVec.toNat_xor, BitVec.toNat_ofNat]
      rw [Nat.mod_eq_of_lt (by omega), Nat.mod_eq_of_lt (by omega)]
    have hlt : p ^^^ q < 2 ^ 8 := Nat.xor_lt_two_pow (by omega) (by omega)
    rw [e6, u8w, Nat.mod_eq_of_lt (by omega)]
  rw [e]
  have hlt : p ^^^ q < 2 ^ 8 := Nat.xor_lt_two_pow (by omega) (by omega)
  refine ⟨fun h => ?_, by omega, by omega⟩
  have h1 : p ^^^ q = p := by omega
  have h2 : p ^^^ (p ^^^ q) = p ^^^ p := by rw [h1]
  rw [← Nat.xor_assoc, Nat.xor_self, Nat.zero_xor] at h2
  omega

theorem l_keyNames (hG : Globs.gl 0 = some EXP) (m : List Int) (at_ x : Int) (hm : wfd m) (hml : m.length ≤ LIM) :
    Imm Tryd.prog 7 [.d (byt m), i64 at_, i64 x] (fun r => r = bool true) := by
  (refine Imm.of_awp toldLKN [] Tryd.func7 rfl (by decide) (Nat.le_of_ble_eq_true rfl) ?_; intro _w0 _S0 _E0 _B0; ((conv=>whnf);repeat' (first|((first|refine pickT ?_ ?_|refine pickT2 ?_ ?_);(focus (first|assumption|exact dT (by assumption)|exact nT (by assumption)|exact nbT (by assumption)|rfl));(conv=>whnf))|((first|refine pickF ?_ ?_|refine pickF2 ?_ ?_);(focus (first|assumption|exact dF (by assumption)|exact nF (by assumption)|exact nbF (by assumption)|rfl));(conv=>whnf))|((first|(first|refine splitB ?_ ?_|refine splitB2 ?_ ?_)<;>intro _h|intro _h);all_goals ((first|replace _h:=of_decide_eq_true _h|replace _h:=of_decide_eq_false _h|skip);(try simp only [Bool.not_eq_true',Bool.not_eq_false',Bool.not_true,Bool.not_false,decide_eq_true_eq,decide_eq_false_iff_not] at _h);(try (guard_hyp _h : True;clear _h));first|done|contradiction|(conv=>whnf)))|(refine And.intro ?_ ?_;(focus (first|rfl|decide|assumption|omega|decide +kernel|exact ⟨rfl, rfl⟩|exact ⟨rfl, rfl, rfl, rfl⟩|exact fun h => Bool.noConfusion h|exact fun _ => rfl|exact Nat.le_of_ble_eq_true rfl|(simp only [List.length_map, List.length_append, List.length_replicate, List.length_take, List.length_drop, List.length_set, List.length_cons, List.length_nil]; omega)));(conv=>whnf)))))
  refine acallI (k_anchor hG) rfl fun r hr => ?_
  subst hr
  ((conv=>whnf);repeat' (first|((first|refine pickT ?_ ?_|refine pickT2 ?_ ?_);(focus (first|assumption|exact dT (by first|assumption|omega)|exact nT (by first|assumption|omega)|exact nbT (by assumption)|rfl));(conv=>whnf))|((first|refine pickF ?_ ?_|refine pickF2 ?_ ?_);(focus (first|assumption|exact dF (by first|assumption|omega)|exact nF (by first|assumption|omega)|exact nbF (by assumption)|rfl));(conv=>whnf))|((first|(first|refine splitB ?_ ?_|refine splitB2 ?_ ?_)<;>intro _h|intro _h);all_goals ((first|replace _h:=of_decide_eq_true _h|replace _h:=of_decide_eq_false _h|skip);(try simp only [Bool.not_eq_true',Bool.not_eq_false',Bool.not_true,Bool.not_false,decide_eq_true_eq,decide_eq_false_iff_not] at _h);(try (guard_hyp _h : True;clear _h));first|done|contradiction|(conv=>whnf)))|(refine And.intro ?_ ?_;(focus (first|rfl|decide|assumption|omega|decide +kernel|exact ⟨rfl, rfl⟩|exact ⟨rfl, rfl, rfl, rfl⟩|exact fun h => Bool.noConfusion h|exact fun _ => rfl|exact Nat.le_of_ble_eq_true rfl|(simp only [List.length_map, List.length_append, List.length_replicate, List.length_take, List.length_drop, List.length_set, List.length_cons, List.length_nil]; omega)));(conv=>whnf))))
  all_goals first | exact Ends.imm rfl rfl | skip
  refine acallI (k_make m hm hml) rfl fun r hr => ?_
  by_cases hn : notMod m = 0
  rotate_left
  · rw [if_pos (by simp [hn])] at hr
    subst hr
    ((conv=>whnf);repeat' (first|((first|refine pickT ?_ ?_|refine pickT2 ?_ ?_);(focus (first|assumption|exact dT (by first|assumption|omega)|exact nT (by first|assumption|omega)|exact nbT (by assumption)|rfl));(conv=>whnf))|((first|refine pickF ?_ ?_|refine pickF2 ?_ ?_);(focus (first|assumption|exact dF (by first|assumption|omega)|exact nF (by first|assumption|omega)|exact nbF (by assumption)|rfl));(conv=>whnf))|((first|(first|refine splitB ?_ ?_|refine splitB2 ?_ ?_)<;>intro _h|intro _h);all_goals ((first|replace _h:=of_decide_eq_true _h|replace _h:=of_decide_eq_false _h|skip);(try simp only [Bool.not_eq_true',Bool.not_eq_false',Bool.not_true,Bool.not_false,decide_eq_true_eq,decide_eq_false_iff_not] at _h);(try (guard_hyp _h : True;clear _h));first|done|contradiction|(conv=>whnf)))|(refine And.intro ?_ ?_;(focus (first|rfl|decide|assumption|omega|decide +kernel|exact ⟨rfl, rfl⟩|exact ⟨rfl, rfl, rfl, rfl⟩|exact fun h => Bool.noConfusion h|exact fun _ => rfl|exact Nat.le_of_ble_eq_true rfl|(simp only [List.length_map, List.length_append, List.length_replicate, List.length_take, List.length_drop, List.length_set, List.length_cons, List.length_nil]; omega)));(conv=>whnf))))
    exact Ends.imm rfl (by simp)
  · rw [if_neg (by simp [hn])] at hr
    obtain ⟨n, n0, rr, rfl, hk⟩ := hr
    ((conv=>whnf);repeat' (first|((first|refine pickT ?_ ?_|refine pickT2 ?_ ?_);(focus (first|assumption|exact dT (by first|assumption|omega)|exact nT (by first|assumption|omega)|exact nbT (by assumption)|rfl));(conv=>whnf))|((first|refine pickF ?_ ?_|refine pickF2 ?_ ?_);(focus (first|assumption|exact dF (by first|assumption|omega)|exact nF (by first|assumption|omega)|exact nbF (by assumption)|rfl));(conv=>whnf))|((first|(first|refine splitB ?_ ?_|refine splitB2 ?_ ?_)<;>intro _h|intro _h);all_goals ((first|replace _h:=of_decide_eq_true _h|replace _h:=of_decide_eq_false _h|skip);(try simp only [Bool.not_eq_true',Bool.not_eq_false',Bool.not_true,Bool.not_false,decide_eq_true_eq,decide_eq_false_iff_not] at _h);(try (guard_hyp _h : True;clear _h));first|done|contradiction|(conv=>whnf)))|(refine And.intro ?_ ?_;(focus (first|rfl|decide|assumption|omega|decide +kernel|exact ⟨rfl, rfl⟩|exact ⟨rfl, rfl, rfl, rfl⟩|exact fun h => Bool.noConfusion h|exact fun _ => rfl|exact Nat.le_of_ble_eq_true rfl|(simp only [List.length_map, List.length_append, List.length_replicate, List.length_take, List.length_drop, List.length_set, List.length_cons, List.length_nil]; omega)));(conv=>whnf))))
    refine acall [] (k_keyBytesO m n n0 rr hk) rfl (by simp [stIn]) rfl (fun _ => rfl) ?_
    rintro st nx r ⟨rfl, rfl, rfl⟩
    rw [key_eq hk]
    have hcl := keyC_len m
    have hcw := keyC_wfd hm
    have hof := of_notMod hn
    obtain ⟨K, hK⟩ : ∃ K, K = keyC m := ⟨_, rfl⟩
    rw [← hK] at hcl hcw ⊢
    have hmod : at_.tmod (K.length : Int) = at_ % K.length := Int.tmod_eq_emod_of_nonneg (by omega)
    have hm0 : 0 ≤ at_ % (K.length : Int) := Int.emod_nonneg _ (by omega)
    have hm1 : at_ % (K.length : Int) < K.length := Int.emod_lt_of_pos _ (by omega)
    ((conv=>whnf);repeat' (first|((first|refine pickT ?_ ?_|refine pickT2 ?_ ?_);(focus (first|assumption|exact dT (by first|assumption|omega)|exact nT (by first|assumption|omega)|exact nbT (by assumption)|rfl));(conv=>whnf))|((first|refine pickF ?_ ?_|refine pickF2 ?_ ?_);(focus (first|assumption|exact dF (by first|assumption|omega)|exact nF (by first|assumption|omega)|exact nbF (by assumption)|rfl));(conv=>whnf))|((first|(first|refine splitB ?_ ?_|refine splitB2 ?_ ?_)<;>intro _h|intro _h);all_goals ((first|replace _h:=of_decide_eq_true _h|replace _h:=of_decide_eq_false _h|skip);(try simp only [Bool.not_eq_true',Bool.not_eq_false',Bool.not_true,Bool.not_false,decide_eq_true_eq,decide_eq_false_iff_not] at _h);(try (guard_hyp _h : True;clear _h));first|done|contradiction|(conv=>whnf)))|(refine And.intro ?_ ?_;(focus (first|rfl|decide|assumption|omega|decide +kernel|exact ⟨rfl, rfl⟩|exact ⟨rfl, rfl, rfl, rfl⟩|exact fun h => Bool.noConfusion h|exact fun _ => rfl|exact Nat.le_of_ble_eq_true rfl|(simp only [List.length_map, List.length_append, List.length_replicate, List.length_take, List.length_drop, List.length_set, List.length_cons, List.length_nil]; omega)));(conv=>whnf))))
    obtain ⟨j, hj⟩ : ∃ j, j = (at_.tmod (K.length : Int)).toNat := ⟨_, rfl⟩
    have hjl : j < K.length := by omega
    have hx := xor_ne (K.getD j 0) x (hcw.get j) (by omega)
    obtain ⟨ys, hys⟩ : ∃ ys, ys = K.set j (bitsK .xor .u8 (K.getD j 0) (IntKind.u8.wrap x)) := ⟨_, rfl⟩
    have hyl : ys.length = K.length := by rw [hys]; simp
    have hyw : wfd ys := by
      rw [hys]
      intro z hz
      rcases List.mem_or_eq_of_mem_set hz with h | h
      · exact hcw z h
      · rw [h]; exact hx.2
    have hne : ys ≠ K := fun e => by
      have : ys.getD j 0 = K.getD j 0 := by rw [e]
      rw [hys, getD_set, if_pos ⟨rfl, hjl⟩] at this
      exact hx.1 this
    refine acallI (k_parse ys hyw (by omega)) (by rw [hys, hj]; rfl) fun r hr => ?_
    by_cases h0 : keyErr ys = 0
    · rw [if_neg (by simp [h0])] at hr
      obtain ⟨n', n0', rr', rfl, hk'⟩ := hr
      ((conv=>whnf);repeat' (first|((first|refine pickT ?_ ?_|refine pickT2 ?_ ?_);(focus (first|assumption|exact dT (by first|assumption|omega)|exact nT (by first|assumption|omega)|exact nbT (by assumption)|rfl));(conv=>whnf))|((first|refine pickF ?_ ?_|refine pickF2 ?_ ?_);(focus (first|assumption|exact dF (by first|assumption|omega)|exact nF (by first|assumption|omega)|exact nbF (by assumption)|rfl));(conv=>whnf))|((first|(first|refine splitB ?_ ?_|refine splitB2 ?_ ?_)<;>intro _h|intro _h);all_goals ((first|replace _h:=of_decide_eq_true _h|replace _h:=of_decide_eq_false _h|skip);(try simp only [Bool.not_eq_true',Bool.not_eq_false',Bool.not_true,Bool.not_false,decide_eq_true_eq,decide_eq_false_iff_not] at _h);(try (guard_hyp _h : True;clear _h));first|done|contradiction|(conv=>whnf)))|(refine And.intro ?_ ?_;(focus (first|rfl|decide|assumption|omega|decide +kernel|exact ⟨rfl, rfl⟩|exact ⟨rfl, rfl, rfl, rfl⟩|exact fun h => Bool.noConfusion h|exact fun _ => rfl|exact Nat.le_of_ble_eq_true rfl|(simp only [List.length_map, List.length_append, List.length_replicate, List.length_take, List.length_drop, List.length_set, List.length_cons, List.length_nil]; omega)));(conv=>whnf))))
      refine acallI (k_modOf (keyMod ys) n' n0' rr' hk') rfl fun r hr => ?_
      subst hr
      have hmm : keyMod ys ≠ m := fun e => hne (by rw [← keyErr_ok h0, e, hK])
      ((conv=>whnf);repeat' (first|((first|refine pickT ?_ ?_|refine pickT2 ?_ ?_);(focus (first|assumption|exact dT (by first|assumption|omega)|exact nT (by first|assumption|omega)|exact nbT (by assumption)|rfl));(conv=>whnf))|((first|refine pickF ?_ ?_|refine pickF2 ?_ ?_);(focus (first|assumption|exact dF (by first|assumption|omega)|exact nF (by first|assumption|omega)|exact nbF (by assumption)|rfl));(conv=>whnf))|((first|(first|refine splitB ?_ ?_|refine splitB2 ?_ ?_)<;>intro _h|intro _h);all_goals ((first|replace _h:=of_decide_eq_true _h|replace _h:=of_decide_eq_false _h|skip);(try simp only [Bool.not_eq_true',Bool.not_eq_false',Bool.not_true,Bool.not_false,decide_eq_true_eq,decide_eq_false_iff_not] at _h);(try (guard_hyp _h : True;clear _h));first|done|contradiction|(conv=>whnf)))|(refine And.intro ?_ ?_;(focus (first|rfl|decide|assumption|omega|decide +kernel|exact ⟨rfl, rfl⟩|exact ⟨rfl, rfl, rfl, rfl⟩|exact fun h => Bool.noConfusion h|exact fun _ => rfl|exact Nat.le_of_ble_eq_true rfl|(simp only [List.length_map, List.length_append, List.length_replicate, List.length_take, List.length_drop, List.length_set, List.length_cons, List.length_nil]; omega)));(conv=>whnf))))
      refine acallI (k_keyBytes (keyMod ys) n' n0' rr' hk') rfl fun r hr => ?_
      rw [key_eq hk', keyErr_ok h0] at hr
      subst hr
      ((conv=>whnf);repeat' (first|((first|refine pickT ?_ ?_|refine pickT2 ?_ ?_);(focus (first|assumption|exact dT (by first|assumption|omega)|exact nT (by first|assumption|omega)|exact nbT (by assumption)|rfl));(conv=>whnf))|((first|refine pickF ?_ ?_|refine pickF2 ?_ ?_);(focus (first|assumption|exact dF (by first|assumption|omega)|exact nF (by first|assumption|omega)|exact nbF (by assumption)|rfl));(conv=>whnf))|((first|(first|refine splitB ?_ ?_|refine splitB2 ?_ ?_)<;>intro _h|intro _h);all_goals ((first|replace _h:=of_decide_eq_true _h|replace _h:=of_decide_eq_false _h|skip);(try simp only [Bool.not_eq_true',Bool.not_eq_false',Bool.not_true,Bool.not_false,decide_eq_true_eq,decide_eq_false_iff_not] at _h);(try (guard_hyp _h : True;clear _h));first|done|contradiction|(conv=>whnf)))|(refine And.intro ?_ ?_;(focus (first|rfl|decide|assumption|omega|decide +kernel|exact ⟨rfl, rfl⟩|exact ⟨rfl, rfl, rfl, rfl⟩|exact fun h => Bool.noConfusion h|exact fun _ => rfl|exact Nat.le_of_ble_eq_true rfl|(simp only [List.length_map, List.length_append, List.length_replicate, List.length_take, List.length_drop, List.length_set, List.length_cons, List.length_nil]; omega)));(conv=>whnf))))
      refine Ends.imm rfl ?_
      refine (db (p := ys = K.set (at_.tmod (K.length : Int)).toNat (bitsK .xor .u8 (K.getD (at_.tmod (K.length : Int)).toNat 0) (IntKind.u8.wrap x))) (q := True) ?_).trans rfl
      rw [← hj, ← hys]
      exact ⟨fun _ => trivial, fun _ => rfl⟩
    · rw [if_pos (by simp [h0])] at hr
      subst hr
      ((conv=>whnf);repeat' (first|((first|refine pickT ?_ ?_|refine pickT2 ?_ ?_);(focus (first|assumption|exact dT (by first|assumption|omega)|exact nT (by first|assumption|omega)|exact nbT (by assumption)|rfl));(conv=>whnf))|((first|refine pickF ?_ ?_|refine pickF2 ?_ ?_);(focus (first|assumption|exact dF (by first|assumption|omega)|exact nF (by first|assumption|omega)|exact nbF (by assumption)|rfl));(conv=>whnf))|((first|(first|refine splitB ?_ ?_|refine splitB2 ?_ ?_)<;>intro _h|intro _h);all_goals ((first|replace _h:=of_decide_eq_true _h|replace _h:=of_decide_eq_false _h|skip);(try simp only [Bool.not_eq_true',Bool.not_eq_false',Bool.not_true,Bool.not_false,decide_eq_true_eq,decide_eq_false_iff_not] at _h);(try (guard_hyp _h : True;clear _h));first|done|contradiction|(conv=>whnf)))|(refine And.intro ?_ ?_;(focus (first|rfl|decide|assumption|omega|decide +kernel|exact ⟨rfl, rfl⟩|exact ⟨rfl, rfl, rfl, rfl⟩|exact fun h => Bool.noConfusion h|exact fun _ => rfl|exact Nat.le_of_ble_eq_true rfl|(simp only [List.length_map, List.length_append, List.length_replicate, List.length_take, List.length_drop, List.length_set, List.length_cons, List.length_nil]; omega)));(conv=>whnf))))
      exact Ends.imm rfl (by simp)
end Go.Proofs.YtniaeiikdgbnfaaDoor.R
