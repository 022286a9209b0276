/- The key's code, part 25: what is closed with a secret is opened as it was: the law KeyBack. -/
import Derived.Test.YtniaeiikdgbnfaaDoorKC
import Derived.Test.YtniaeiikdgbnfaaDoorNP
namespace Go.Proofs.YtniaeiikdgbnfaaDoor.R
open Go Go.RowKit Go.Proofs Go.Proofs.YtniaeiikdgbnfaaDoor.AW
set_option linter.unusedSectionVars false
variable [Globs]
set_option maxRecDepth 100000
set_option linter.unusedSimpArgs false
set_option linter.unusedVariables false
set_option maxHeartbeats 4000000

theorem undo0 (x : Nat) : x ^ (keyS 0 * 65537) % keyM 0 = x % keyM 0 := by
  have h := NT.rsa (e := keyS 0 * 65537) NT.key0p NT.key0q (by decide +kernel) (by decide +kernel) (by decide +kernel) (by decide +kernel) x
  have e : keyM 0 = _ * _ := (by decide +kernel : keyM 0 = 112289642932016304371756649481332778992551393574107444139052838912955283313407 * 112278977878014794934387468732230951909665353991314206570858853383570697513071)
  rw [e]
  exact h
theorem undo1 (x : Nat) : x ^ (keyS 1 * 65537) % keyM 1 = x % keyM 1 := by
  have h := NT.rsa (e := keyS 1 * 65537) NT.key1p NT.key1q (by decide +kernel) (by decide +kernel) (by decide +kernel) (by decide +kernel) x
  have e : keyM 1 = _ * _ := (by decide +kernel : keyM 1 = 95350817846681796337898091958903254439827423116154551737010290600988810741873 * 92279200474456872667267992849871381863045564664392769007913652786505232254317)
  rw [e]
  exact h
theorem undo2 (x : Nat) : x ^ (keyS 2 * 65537) % keyM 2 = x % keyM 2 := by
  have h := NT.rsa (e := keyS 2 * 65537) NT.key2p NT.key2q (by decide +kernel) (by decide +kernel) (by decide +kernel) (by decide +kernel) x
  have e : keyM 2 = _ * _ := (by decide +kernel : keyM 2 = 12329477222992863067035609111604184371805710698277106172196551772303302632927049457756976661843525144868265139576196260095675556062881725217631014058728183 * 10381621340989602630438101892975909089594587423182068202124588783094168422741567990413141241492069066522569929192747298242483237121291479479353985992550099)
  rw [e]
  exact h
theorem undo (k : Nat) (hk : k ≤ 2) (x : Nat) : x ^ (keyS k * 65537) % keyM k = x % keyM k := by
  have : k = 0 ∨ k = 1 ∨ k = 2 := by omega
  rcases this with rfl | rfl | rfl
  · exact undo0 x
  · exact undo1 x
  · exact undo2 x

theorem sec_ev (k : Nat) (hk : k ≤ 2) : ev (secB k) = keyS k := by
  have : k = 0 ∨ k = 1 ∨ k = 2 := by omega
  rcases this with rfl | rfl | rfl <;> decide +kernel
theorem mod_bn (k : Nat) (hk : k ≤ 3) : bn (modB k) = (keyM k : Nat) := by
  have : k = 0 ∨ k = 1 ∨ k = 2 ∨ k = 3 := by omega
  rcases this with rfl | rfl | rfl | rfl <;> exact bn_be (by decide +kernel)
theorem keyM_lt (k : Nat) (hk : k ≤ 3) : keyM k < 256 ^ keyL k ∧ 1 < keyM k := by
  have : k = 0 ∨ k = 1 ∨ k = 2 ∨ k = 3 := by omega
  rcases this with rfl | rfl | rfl | rfl <;> decide +kernel
theorem be_bn {b : List Int} (hb : wfd b) : be b.length (bn b).toNat = b := by
  have h1 := bn_lt hb
  have h2 := bn_nonneg hb
  have h3 : dval (be b.length (bn b).toNat).reverse = dval b.reverse := by
    rw [dval_be, Nat.mod_eq_of_lt (by omega)]
    show (((bn b).toNat : Nat) : Int) = bn b
    omega
  have h4 := dval_inj (be_wfd _ _).reverse hb.reverse (by simp [be_length]) h3
  simpa using h4

/-- A block, closed with a key's secret. -/
def sigB (k : Nat) (b : List Int) : List Int := be (keyL k) ((bn b).toNat ^ keyS k % keyM k)
theorem sigB_wfd (k : Nat) (b : List Int) : wfd (sigB k b) := be_wfd _ _
theorem sigB_len (k : Nat) (b : List Int) : (sigB k b).length = keyL k := be_length _ _
theorem sigB_bn (k : Nat) (hk : k ≤ 2) (b : List Int) : bn (sigB k b) = (((bn b).toNat ^ keyS k % keyM k : Nat) : Int) := by
  have h := keyM_lt k (by omega)
  exact bn_be (Nat.lt_trans (Nat.mod_lt _ (by omega)) h.1)

theorem close_sig (k : Nat) (hk : k ≤ 2) {b : List Int} (hb : wfd b) (hl : b.length = keyL k) (hlt : bn b < (keyM k : Nat)) : powV (modB k) b (secB k) = .tup [.d (byt (sigB k b)), i64 0] := by
  have h0 := bn_nonneg hb
  have hs := secB_len k
  have hkl := keyL_le k
  unfold powV
  rw [if_neg (by rw [modB_len, hl]; simp), mod_bn k (by omega), if_neg (by omega), if_neg (by rw [hs]; omega), sec_ev k hk, modB_len]
  unfold sigB
  obtain ⟨x, hx⟩ : ∃ x : Nat, bn b = x := ⟨(bn b).toNat, by omega⟩
  rw [hx, Int.toNat_natCast, ← Int.natCast_pow, ← Int.natCast_emod, Int.toNat_natCast]
theorem undo' (k : Nat) (hk : k ≤ 2) (x : Nat) : x ^ (keyS k * ev [1, 0, 1]) % keyM k = x % keyM k := by
  rw [ev_exp]
  exact undo k hk x
theorem open_sig (k : Nat) (hk : k ≤ 2) {b : List Int} (hb : wfd b) (hl : b.length = keyL k) (hlt : bn b < (keyM k : Nat)) : powV (modB k) (sigB k b) [1, 0, 1] = .tup [.d (byt b), i64 0] := by
  have h0 := bn_nonneg hb
  have hm := keyM_lt k (by omega)
  have h1 := sigB_bn k hk b
  have h2 : (bn b).toNat ^ keyS k % keyM k < keyM k := Nat.mod_lt _ (by omega)
  unfold powV
  rw [if_neg (by rw [modB_len, sigB_len]; simp), mod_bn k (by omega), h1, if_neg (by omega), if_neg (by decide), modB_len]
  have hu := undo' k hk
  generalize ev [1, 0, 1] = e at *
  obtain ⟨x, hx⟩ : ∃ x : Nat, bn b = x := ⟨(bn b).toNat, by omega⟩
  rw [hx, Int.toNat_natCast, ← Int.natCast_pow, ← Int.natCast_emod, Int.toNat_natCast, ← Nat.pow_mod, ← Nat.pow_mul, hu, Nat.mod_eq_of_lt (by omega)]
  have := be_bn hb
  rw [hx, Int.toNat_natCast, hl] at this
  rw [this]

theorem sig_inj (k : Nat) (hk : k ≤ 2) {a b : List Int} (ha : wfd a) (hal : a.length = keyL k) (halt : bn a < (keyM k : Nat)) (hb : wfd b) (hl : b.length = keyL k) (hlt : bn b < (keyM k : Nat)) (h : sigB k a = sigB k b) : a = b := by
  have h1 := open_sig k hk ha hal halt
  rw [h, open_sig k hk hb hl hlt] at h1
  injection h1 with h1
  injection h1 with h1 _
  injection h1 with h1
  injection h1 with _ h1
  exact h1.symm

theorem bn_cons (x : Int) (xs : List Int) : bn (x :: xs) = x * ((256 ^ xs.length : Nat) : Int) + bn xs := by
  have := bn_append [x] xs
  rw [List.singleton_append] at this
  rw [this]
  have : bn [x] = x := by simp [bn, dval]
  rw [this]
/-- Texts of one length stand in the order of their numbers. -/
theorem strLt_bn : ∀ {xs ys : List Int}, wfd xs → wfd ys → xs.length = ys.length → strLt xs ys = decide (bn xs < bn ys)
  | [], [], _, _, _ => by simp [strLt, bn, dval]
  | [], y :: ys, _, _, h => by simp at h
  | x :: xs, [], _, _, h => by simp at h
  | x :: xs, y :: ys, hx, hy, h => by
    have hl : xs.length = ys.length := by simpa using h
    have ih := strLt_bn hx.cons.2 hy.cons.2 hl
    have a1 := bn_lt hx.cons.2
    have a2 := bn_nonneg hx.cons.2
    have b1 := bn_lt hy.cons.2
    have b2 := bn_nonneg hy.cons.2
    simp only [strLt]
    rw [ih, bn_cons, bn_cons, hl]
    rw [hl] at a1
    generalize ((256 ^ ys.length : Nat) : Int) = P at *
    rcases Int.lt_trichotomy x y with h | h | h
    · have : x * P + bn xs < y * P + bn ys := by
        have : (x + 1) * P ≤ y * P := Int.mul_le_mul_of_nonneg_right (by omega) (by omega)
        rw [Int.add_mul] at this
        omega
      rw [decide_eq_true h, decide_eq_true this]; rfl
    · subst h
      simp
    · have : ¬ x * P + bn xs < y * P + bn ys := by
        have : (y + 1) * P ≤ x * P := Int.mul_le_mul_of_nonneg_right (by omega) (by omega)
        rw [Int.add_mul] at this
        omega
      rw [decide_eq_false (by omega : ¬ x < y), decide_eq_false (by omega : ¬ x = y), decide_eq_false this]; rfl

theorem l_keyBack (hG : Globs.gl 0 = some EXP) (which : Int) (a b : List Int) (ha : wfd a) (hb : wfd b) :
    Imm Tryd.prog 4 [i64 which, .d (byt a), .d (byt b)] (fun r => r = bool true) := by
  (refine Imm.of_awp told0 [] Tryd.func4 rfl (by decide) (Nat.le_of_ble_eq_true rfl) ?_; intro _w0 _S0 _E0 _B0; ((conv=>whnf);repeat' (first|((first|refine pickT ?_ ?_|refine pickT2 ?_ ?_);(focus (first|assumption|exact dT (by assumption)|exact nT (by assumption)|exact nbT (by assumption)|rfl));(conv=>whnf))|((first|refine pickF ?_ ?_|refine pickF2 ?_ ?_);(focus (first|assumption|exact dF (by assumption)|exact nF (by assumption)|exact nbF (by assumption)|rfl));(conv=>whnf))|((first|(first|refine splitB ?_ ?_|refine splitB2 ?_ ?_)<;>intro _h|intro _h);all_goals ((first|replace _h:=of_decide_eq_true _h|replace _h:=of_decide_eq_false _h|skip);(try simp only [Bool.not_eq_true',Bool.not_eq_false',Bool.not_true,Bool.not_false,decide_eq_true_eq,decide_eq_false_iff_not] at _h);(try (guard_hyp _h : True;clear _h));first|done|contradiction|(conv=>whnf)))|(refine And.intro ?_ ?_;(focus (first|rfl|decide|assumption|omega|decide +kernel|exact ⟨rfl, rfl⟩|exact ⟨rfl, rfl, rfl, rfl⟩|exact fun h => Bool.noConfusion h|exact fun _ => rfl|exact Nat.le_of_ble_eq_true rfl|(simp only [List.length_map, List.length_append, List.length_replicate, List.length_take, List.length_drop, List.length_set, List.length_cons, List.length_nil]; omega)));(conv=>whnf)))))
  refine acallI (k_anchor hG) rfl fun r hr => ?_
  subst hr
  ((conv=>whnf);repeat' (first|((first|refine pickT ?_ ?_|refine pickT2 ?_ ?_);(focus (first|assumption|exact dT (by first|assumption|omega)|exact nT (by first|assumption|omega)|exact nbT (by assumption)|rfl));(conv=>whnf))|((first|refine pickF ?_ ?_|refine pickF2 ?_ ?_);(focus (first|assumption|exact dF (by first|assumption|omega)|exact nF (by first|assumption|omega)|exact nbF (by assumption)|rfl));(conv=>whnf))|((first|(first|refine splitB ?_ ?_|refine splitB2 ?_ ?_)<;>intro _h|intro _h);all_goals ((first|replace _h:=of_decide_eq_true _h|replace _h:=of_decide_eq_false _h|skip);(try simp only [Bool.not_eq_true',Bool.not_eq_false',Bool.not_true,Bool.not_false,decide_eq_true_eq,decide_eq_false_iff_not] at _h);(try (guard_hyp _h : True;clear _h));first|done|contradiction|(conv=>whnf)))|(refine And.intro ?_ ?_;(focus (first|rfl|decide|assumption|omega|decide +kernel|exact ⟨rfl, rfl⟩|exact ⟨rfl, rfl, rfl, rfl⟩|exact fun h => Bool.noConfusion h|exact fun _ => rfl|exact Nat.le_of_ble_eq_true rfl|(simp only [List.length_map, List.length_append, List.length_replicate, List.length_take, List.length_drop, List.length_set, List.length_cons, List.length_nil]; omega)));(conv=>whnf))))
  all_goals first | exact Ends.imm rfl rfl | skip
  have hik : idx which ≤ 2 := by
    rcases idx_small (which := which) (by omega) with ⟨h, _⟩ | ⟨h, _⟩ | ⟨h, _⟩ <;> omega
  have hm := modB_wfd (idx which)
  have hs := secB_wfd (idx which)
  have hlm : (modB (idx which)).length = keyL (idx which) := modB_len _
  have hkl := keyL_le (idx which)
  have hri := modB_right (idx which) (by omega)
  have hbm := mod_bn (idx which) (by omega)
  have hcs := fun (c : List Int) (hc : wfd c) => close_sig (idx which) hik hc
  have hos := fun (c : List Int) (hc : wfd c) => open_sig (idx which) hik hc
  have hin := fun (c d : List Int) (hc : wfd c) h1 h2 (hd : wfd d) h3 h4 => sig_inj (idx which) hik hc h1 h2 hd h3 h4
  refine acallI (k_modulus which) rfl fun r hr => ?_
  subst hr
  ((conv=>whnf);repeat' (first|((first|refine pickT ?_ ?_|refine pickT2 ?_ ?_);(focus (first|assumption|exact dT (by first|assumption|omega)|exact nT (by first|assumption|omega)|exact nbT (by assumption)|rfl));(conv=>whnf))|((first|refine pickF ?_ ?_|refine pickF2 ?_ ?_);(focus (first|assumption|exact dF (by first|assumption|omega)|exact nF (by first|assumption|omega)|exact nbF (by assumption)|rfl));(conv=>whnf))|((first|(first|refine splitB ?_ ?_|refine splitB2 ?_ ?_)<;>intro _h|intro _h);all_goals ((first|replace _h:=of_decide_eq_true _h|replace _h:=of_decide_eq_false _h|skip);(try simp only [Bool.not_eq_true',Bool.not_eq_false',Bool.not_true,Bool.not_false,decide_eq_true_eq,decide_eq_false_iff_not] at _h);(try (guard_hyp _h : True;clear _h));first|done|contradiction|(conv=>whnf)))|(refine And.intro ?_ ?_;(focus (first|rfl|decide|assumption|omega|decide +kernel|exact ⟨rfl, rfl⟩|exact ⟨rfl, rfl, rfl, rfl⟩|exact fun h => Bool.noConfusion h|exact fun _ => rfl|exact Nat.le_of_ble_eq_true rfl|(simp only [List.length_map, List.length_append, List.length_replicate, List.length_take, List.length_drop, List.length_set, List.length_cons, List.length_nil]; omega)));(conv=>whnf))))
  refine acallI (k_secret which) rfl fun r hr => ?_
  subst hr
  ((conv=>whnf);repeat' (first|((first|refine pickT ?_ ?_|refine pickT2 ?_ ?_);(focus (first|assumption|exact dT (by first|assumption|omega)|exact nT (by first|assumption|omega)|exact nbT (by assumption)|rfl));(conv=>whnf))|((first|refine pickF ?_ ?_|refine pickF2 ?_ ?_);(focus (first|assumption|exact dF (by first|assumption|omega)|exact nF (by first|assumption|omega)|exact nbF (by assumption)|rfl));(conv=>whnf))|((first|(first|refine splitB ?_ ?_|refine splitB2 ?_ ?_)<;>intro _h|intro _h);all_goals ((first|replace _h:=of_decide_eq_true _h|replace _h:=of_decide_eq_false _h|skip);(try simp only [Bool.not_eq_true',Bool.not_eq_false',Bool.not_true,Bool.not_false,decide_eq_true_eq,decide_eq_false_iff_not] at _h);(try (guard_hyp _h : True;clear _h));first|done|contradiction|(conv=>whnf)))|(refine And.intro ?_ ?_;(focus (first|rfl|decide|assumption|omega|decide +kernel|exact ⟨rfl, rfl⟩|exact ⟨rfl, rfl, rfl, rfl⟩|exact fun h => Bool.noConfusion h|exact fun _ => rfl|exact Nat.le_of_ble_eq_true rfl|(simp only [List.length_map, List.length_append, List.length_replicate, List.length_take, List.length_drop, List.length_set, List.length_cons, List.length_nil]; omega)));(conv=>whnf))))
  have hmL : (modB (idx which)).length ≤ LIM := by unfold LIM; omega
  have hlt : ∀ c : List Int, wfd c → c.length = keyL (idx which) → strLt c (modB (idx which)) = decide (bn c < (keyM (idx which) : Nat)) := fun c hc hl => by rw [strLt_bn hc hm (by omega), hbm]
  have hcl : ∀ c : List Int, c.length ≠ keyL (idx which) → powV (modB (idx which)) c (secB (idx which)) = .tup [.nls (byt []), i64 24] := fun c h => by unfold powV; rw [if_pos (by omega)]
  have hcg : ∀ c : List Int, c.length = keyL (idx which) → (keyM (idx which) : Nat) ≤ bn c → powV (modB (idx which)) c (secB (idx which)) = .tup [.nls (byt []), i64 13] := fun c h h2 => by unfold powV; rw [if_neg (by omega), if_pos (by omega)]
  have hsw := sigB_wfd (idx which)
  generalize keyM (idx which) = M at *
  generalize sigB (idx which) = sig at *
  generalize keyL (idx which) = L at *
  generalize modB (idx which) = m at *
  generalize hsec : secB (idx which) = sec at *
  have hrif : (if notMod m ≠ 0 then AVal.tup [.nls (byt []), i64 (notMod m)] else powV m a sec) = powV m a sec := by rw [if_neg (by simp [hri])]
  have hrif2 : (if notMod m ≠ 0 then AVal.tup [.nls (byt []), i64 (notMod m)] else powV m b sec) = powV m b sec := by rw [if_neg (by simp [hri])]
  refine acallI (k_close m sec a hm hs ha hmL) rfl fun r hr => ?_
  rw [hrif] at hr
  by_cases hal : a.length = L
  rotate_left
  · rw [hcl a hal] at hr
    subst hr
    ((conv=>whnf);repeat' (first|((first|refine pickT ?_ ?_|refine pickT2 ?_ ?_);(focus (first|assumption|exact dT (by first|assumption|omega)|exact nT (by first|assumption|omega)|exact nbT (by assumption)|rfl));(conv=>whnf))|((first|refine pickF ?_ ?_|refine pickF2 ?_ ?_);(focus (first|assumption|exact dF (by first|assumption|omega)|exact nF (by first|assumption|omega)|exact nbF (by assumption)|rfl));(conv=>whnf))|((first|(first|refine splitB ?_ ?_|refine splitB2 ?_ ?_)<;>intro _h|intro _h);all_goals ((first|replace _h:=of_decide_eq_true _h|replace _h:=of_decide_eq_false _h|skip);(try simp only [Bool.not_eq_true',Bool.not_eq_false',Bool.not_true,Bool.not_false,decide_eq_true_eq,decide_eq_false_iff_not] at _h);(try (guard_hyp _h : True;clear _h));first|done|contradiction|(conv=>whnf)))|(refine And.intro ?_ ?_;(focus (first|rfl|decide|assumption|omega|decide +kernel|exact ⟨rfl, rfl⟩|exact ⟨rfl, rfl, rfl, rfl⟩|exact fun h => Bool.noConfusion h|exact fun _ => rfl|exact Nat.le_of_ble_eq_true rfl|(simp only [List.length_map, List.length_append, List.length_replicate, List.length_take, List.length_drop, List.length_set, List.length_cons, List.length_nil]; omega)));(conv=>whnf))))
    refine acallI (k_secret which) rfl fun r hr => ?_
    rw [hsec] at hr
    subst hr
    ((conv=>whnf);repeat' (first|((first|refine pickT ?_ ?_|refine pickT2 ?_ ?_);(focus (first|assumption|exact dT (by first|assumption|omega)|exact nT (by first|assumption|omega)|exact nbT (by assumption)|rfl));(conv=>whnf))|((first|refine pickF ?_ ?_|refine pickF2 ?_ ?_);(focus (first|assumption|exact dF (by first|assumption|omega)|exact nF (by first|assumption|omega)|exact nbF (by assumption)|rfl));(conv=>whnf))|((first|(first|refine splitB ?_ ?_|refine splitB2 ?_ ?_)<;>intro _h|intro _h);all_goals ((first|replace _h:=of_decide_eq_true _h|replace _h:=of_decide_eq_false _h|skip);(try simp only [Bool.not_eq_true',Bool.not_eq_false',Bool.not_true,Bool.not_false,decide_eq_true_eq,decide_eq_false_iff_not] at _h);(try (guard_hyp _h : True;clear _h));first|done|contradiction|(conv=>whnf)))|(refine And.intro ?_ ?_;(focus (first|rfl|decide|assumption|omega|decide +kernel|exact ⟨rfl, rfl⟩|exact ⟨rfl, rfl, rfl, rfl⟩|exact fun h => Bool.noConfusion h|exact fun _ => rfl|exact Nat.le_of_ble_eq_true rfl|(simp only [List.length_map, List.length_append, List.length_replicate, List.length_take, List.length_drop, List.length_set, List.length_cons, List.length_nil]; omega)));(conv=>whnf))))
    refine acallI (k_close m sec b hm hs hb hmL) rfl fun r hr => ?_
    rw [hrif2] at hr
    have hal2 : ¬ (a.length : Int) = m.length := by omega
    rcases powV_form m b sec with ⟨e, he⟩ | ⟨zs, he⟩ <;> rw [he] at hr <;> subst hr
    · ((conv=>whnf);repeat' (first|((first|refine pickT ?_ ?_|refine pickT2 ?_ ?_);(focus (first|assumption|exact dT (by first|assumption|omega)|exact nT (by first|assumption|omega)|exact nbT (by assumption)|rfl));(conv=>whnf))|((first|refine pickF ?_ ?_|refine pickF2 ?_ ?_);(focus (first|assumption|exact dF (by first|assumption|omega)|exact nF (by first|assumption|omega)|exact nbF (by assumption)|rfl));(conv=>whnf))|((first|(first|refine splitB ?_ ?_|refine splitB2 ?_ ?_)<;>intro _h|intro _h);all_goals ((first|replace _h:=of_decide_eq_true _h|replace _h:=of_decide_eq_false _h|skip);(try simp only [Bool.not_eq_true',Bool.not_eq_false',Bool.not_true,Bool.not_false,decide_eq_true_eq,decide_eq_false_iff_not] at _h);(try (guard_hyp _h : True;clear _h));first|done|contradiction|(conv=>whnf)))|(refine And.intro ?_ ?_;(focus (first|rfl|decide|assumption|omega|decide +kernel|exact ⟨rfl, rfl⟩|exact ⟨rfl, rfl, rfl, rfl⟩|exact fun h => Bool.noConfusion h|exact fun _ => rfl|exact Nat.le_of_ble_eq_true rfl|(simp only [List.length_map, List.length_append, List.length_replicate, List.length_take, List.length_drop, List.length_set, List.length_cons, List.length_nil]; omega)));(conv=>whnf))))
      exact Ends.imm rfl rfl
    · ((conv=>whnf);repeat' (first|((first|refine pickT ?_ ?_|refine pickT2 ?_ ?_);(focus (first|assumption|exact dT (by first|assumption|omega)|exact nT (by first|assumption|omega)|exact nbT (by assumption)|rfl));(conv=>whnf))|((first|refine pickF ?_ ?_|refine pickF2 ?_ ?_);(focus (first|assumption|exact dF (by first|assumption|omega)|exact nF (by first|assumption|omega)|exact nbF (by assumption)|rfl));(conv=>whnf))|((first|(first|refine splitB ?_ ?_|refine splitB2 ?_ ?_)<;>intro _h|intro _h);all_goals ((first|replace _h:=of_decide_eq_true _h|replace _h:=of_decide_eq_false _h|skip);(try simp only [Bool.not_eq_true',Bool.not_eq_false',Bool.not_true,Bool.not_false,decide_eq_true_eq,decide_eq_false_iff_not] at _h);(try (guard_hyp _h : True;clear _h));first|done|contradiction|(conv=>whnf)))|(refine And.intro ?_ ?_;(focus (first|rfl|decide|assumption|omega|decide +kernel|exact ⟨rfl, rfl⟩|exact ⟨rfl, rfl, rfl, rfl⟩|exact fun h => Bool.noConfusion h|exact fun _ => rfl|exact Nat.le_of_ble_eq_true rfl|(simp only [List.length_map, List.length_append, List.length_replicate, List.length_take, List.length_drop, List.length_set, List.length_cons, List.length_nil]; omega)));(conv=>whnf))))
      exact Ends.imm rfl rfl
  have hal2 : (a.length : Int) = m.length := by omega
  by_cases hag : (M : Int) ≤ bn a
  · rw [hcg a hal hag] at hr
    subst hr
    have hst : strLt a m = false := by rw [hlt a ha hal]; exact decide_eq_false (by omega)
    ((conv=>whnf);repeat' (first|((first|refine pickT ?_ ?_|refine pickT2 ?_ ?_);(focus (first|assumption|exact dT (by first|assumption|omega)|exact nT (by first|assumption|omega)|exact nbT (by assumption)|rfl));(conv=>whnf))|((first|refine pickF ?_ ?_|refine pickF2 ?_ ?_);(focus (first|assumption|exact dF (by first|assumption|omega)|exact nF (by first|assumption|omega)|exact nbF (by assumption)|rfl));(conv=>whnf))|((first|(first|refine splitB ?_ ?_|refine splitB2 ?_ ?_)<;>intro _h|intro _h);all_goals ((first|replace _h:=of_decide_eq_true _h|replace _h:=of_decide_eq_false _h|skip);(try simp only [Bool.not_eq_true',Bool.not_eq_false',Bool.not_true,Bool.not_false,decide_eq_true_eq,decide_eq_false_iff_not] at _h);(try (guard_hyp _h : True;clear _h));first|done|contradiction|(conv=>whnf)))|(refine And.intro ?_ ?_;(focus (first|rfl|decide|assumption|omega|decide +kernel|exact ⟨rfl, rfl⟩|exact ⟨rfl, rfl, rfl, rfl⟩|exact fun h => Bool.noConfusion h|exact fun _ => rfl|exact Nat.le_of_ble_eq_true rfl|(simp only [List.length_map, List.length_append, List.length_replicate, List.length_take, List.length_drop, List.length_set, List.length_cons, List.length_nil]; omega)));(conv=>whnf))))
    refine acallI (k_secret which) rfl fun r hr => ?_
    rw [hsec] at hr
    subst hr
    ((conv=>whnf);repeat' (first|((first|refine pickT ?_ ?_|refine pickT2 ?_ ?_);(focus (first|assumption|exact dT (by first|assumption|omega)|exact nT (by first|assumption|omega)|exact nbT (by assumption)|rfl));(conv=>whnf))|((first|refine pickF ?_ ?_|refine pickF2 ?_ ?_);(focus (first|assumption|exact dF (by first|assumption|omega)|exact nF (by first|assumption|omega)|exact nbF (by assumption)|rfl));(conv=>whnf))|((first|(first|refine splitB ?_ ?_|refine splitB2 ?_ ?_)<;>intro _h|intro _h);all_goals ((first|replace _h:=of_decide_eq_true _h|replace _h:=of_decide_eq_false _h|skip);(try simp only [Bool.not_eq_true',Bool.not_eq_false',Bool.not_true,Bool.not_false,decide_eq_true_eq,decide_eq_false_iff_not] at _h);(try (guard_hyp _h : True;clear _h));first|done|contradiction|(conv=>whnf)))|(refine And.intro ?_ ?_;(focus (first|rfl|decide|assumption|omega|decide +kernel|exact ⟨rfl, rfl⟩|exact ⟨rfl, rfl, rfl, rfl⟩|exact fun h => Bool.noConfusion h|exact fun _ => rfl|exact Nat.le_of_ble_eq_true rfl|(simp only [List.length_map, List.length_append, List.length_replicate, List.length_take, List.length_drop, List.length_set, List.length_cons, List.length_nil]; omega)));(conv=>whnf))))
    refine acallI (k_close m sec b hm hs hb hmL) rfl fun r hr => ?_
    rw [hrif2] at hr
    rcases powV_form m b sec with ⟨e, he⟩ | ⟨zs, he⟩ <;> rw [he] at hr <;> subst hr
    · ((conv=>whnf);repeat' (first|((first|refine pickT ?_ ?_|refine pickT2 ?_ ?_);(focus (first|assumption|exact dT (by first|assumption|omega)|exact nT (by first|assumption|omega)|exact nbT (by assumption)|rfl));(conv=>whnf))|((first|refine pickF ?_ ?_|refine pickF2 ?_ ?_);(focus (first|assumption|exact dF (by first|assumption|omega)|exact nF (by first|assumption|omega)|exact nbF (by assumption)|rfl));(conv=>whnf))|((first|(first|refine splitB ?_ ?_|refine splitB2 ?_ ?_)<;>intro _h|intro _h);all_goals ((first|replace _h:=of_decide_eq_true _h|replace _h:=of_decide_eq_false _h|skip);(try simp only [Bool.not_eq_true',Bool.not_eq_false',Bool.not_true,Bool.not_false,decide_eq_true_eq,decide_eq_false_iff_not] at _h);(try (guard_hyp _h : True;clear _h));first|done|contradiction|(conv=>whnf)))|(refine And.intro ?_ ?_;(focus (first|rfl|decide|assumption|omega|decide +kernel|exact ⟨rfl, rfl⟩|exact ⟨rfl, rfl, rfl, rfl⟩|exact fun h => Bool.noConfusion h|exact fun _ => rfl|exact Nat.le_of_ble_eq_true rfl|(simp only [List.length_map, List.length_append, List.length_replicate, List.length_take, List.length_drop, List.length_set, List.length_cons, List.length_nil]; omega)));(conv=>whnf))))
      exact Ends.imm rfl rfl
    · ((conv=>whnf);repeat' (first|((first|refine pickT ?_ ?_|refine pickT2 ?_ ?_);(focus (first|assumption|exact dT (by first|assumption|omega)|exact nT (by first|assumption|omega)|exact nbT (by assumption)|rfl));(conv=>whnf))|((first|refine pickF ?_ ?_|refine pickF2 ?_ ?_);(focus (first|assumption|exact dF (by first|assumption|omega)|exact nF (by first|assumption|omega)|exact nbF (by assumption)|rfl));(conv=>whnf))|((first|(first|refine splitB ?_ ?_|refine splitB2 ?_ ?_)<;>intro _h|intro _h);all_goals ((first|replace _h:=of_decide_eq_true _h|replace _h:=of_decide_eq_false _h|skip);(try simp only [Bool.not_eq_true',Bool.not_eq_false',Bool.not_true,Bool.not_false,decide_eq_true_eq,decide_eq_false_iff_not] at _h);(try (guard_hyp _h : True;clear _h));first|done|contradiction|(conv=>whnf)))|(refine And.intro ?_ ?_;(focus (first|rfl|decide|assumption|omega|decide +kernel|exact ⟨rfl, rfl⟩|exact ⟨rfl, rfl, rfl, rfl⟩|exact fun h => Bool.noConfusion h|exact fun _ => rfl|exact Nat.le_of_ble_eq_true rfl|(simp only [List.length_map, List.length_append, List.length_replicate, List.length_take, List.length_drop, List.length_set, List.length_cons, List.length_nil]; omega)));(conv=>whnf))))
      exact Ends.imm rfl rfl
  have hst : strLt a m = true := by rw [hlt a ha hal]; exact decide_eq_true (by omega)
  rw [hcs a ha hal (by omega)] at hr
  subst hr
  ((conv=>whnf);repeat' (first|((first|refine pickT ?_ ?_|refine pickT2 ?_ ?_);(focus (first|assumption|exact dT (by first|assumption|omega)|exact nT (by first|assumption|omega)|exact nbT (by assumption)|rfl));(conv=>whnf))|((first|refine pickF ?_ ?_|refine pickF2 ?_ ?_);(focus (first|assumption|exact dF (by first|assumption|omega)|exact nF (by first|assumption|omega)|exact nbF (by assumption)|rfl));(conv=>whnf))|((first|(first|refine splitB ?_ ?_|refine splitB2 ?_ ?_)<;>intro _h|intro _h);all_goals ((first|replace _h:=of_decide_eq_true _h|replace _h:=of_decide_eq_false _h|skip);(try simp only [Bool.not_eq_true',Bool.not_eq_false',Bool.not_true,Bool.not_false,decide_eq_true_eq,decide_eq_false_iff_not] at _h);(try (guard_hyp _h : True;clear _h));first|done|contradiction|(conv=>whnf)))|(refine And.intro ?_ ?_;(focus (first|rfl|decide|assumption|omega|decide +kernel|exact ⟨rfl, rfl⟩|exact ⟨rfl, rfl, rfl, rfl⟩|exact fun h => Bool.noConfusion h|exact fun _ => rfl|exact Nat.le_of_ble_eq_true rfl|(simp only [List.length_map, List.length_append, List.length_replicate, List.length_take, List.length_drop, List.length_set, List.length_cons, List.length_nil]; omega)));(conv=>whnf))))
  refine acallI (k_secret which) rfl fun r hr => ?_
  rw [hsec] at hr
  subst hr
  ((conv=>whnf);repeat' (first|((first|refine pickT ?_ ?_|refine pickT2 ?_ ?_);(focus (first|assumption|exact dT (by first|assumption|omega)|exact nT (by first|assumption|omega)|exact nbT (by assumption)|rfl));(conv=>whnf))|((first|refine pickF ?_ ?_|refine pickF2 ?_ ?_);(focus (first|assumption|exact dF (by first|assumption|omega)|exact nF (by first|assumption|omega)|exact nbF (by assumption)|rfl));(conv=>whnf))|((first|(first|refine splitB ?_ ?_|refine splitB2 ?_ ?_)<;>intro _h|intro _h);all_goals ((first|replace _h:=of_decide_eq_true _h|replace _h:=of_decide_eq_false _h|skip);(try simp only [Bool.not_eq_true',Bool.not_eq_false',Bool.not_true,Bool.not_false,decide_eq_true_eq,decide_eq_false_iff_not] at _h);(try (guard_hyp _h : True;clear _h));first|done|contradiction|(conv=>whnf)))|(refine And.intro ?_ ?_;(focus (first|rfl|decide|assumption|omega|decide +kernel|exact ⟨rfl, rfl⟩|exact ⟨rfl, rfl, rfl, rfl⟩|exact fun h => Bool.noConfusion h|exact fun _ => rfl|exact Nat.le_of_ble_eq_true rfl|(simp only [List.length_map, List.length_append, List.length_replicate, List.length_take, List.length_drop, List.length_set, List.length_cons, List.length_nil]; omega)));(conv=>whnf))))
  refine acallI (k_close m sec b hm hs hb hmL) rfl fun r hr => ?_
  rw [hrif2] at hr
  rcases powV_cases m b sec with ⟨e, he0, he⟩ | ⟨hbl, hbm2, _, _⟩
  · rw [he] at hr
    subst hr
    ((conv=>whnf);repeat' (first|((first|refine pickT ?_ ?_|refine pickT2 ?_ ?_);(focus (first|assumption|exact dT (by first|assumption|omega)|exact nT (by first|assumption|omega)|exact nbT (by assumption)|rfl));(conv=>whnf))|((first|refine pickF ?_ ?_|refine pickF2 ?_ ?_);(focus (first|assumption|exact dF (by first|assumption|omega)|exact nF (by first|assumption|omega)|exact nbF (by assumption)|rfl));(conv=>whnf))|((first|(first|refine splitB ?_ ?_|refine splitB2 ?_ ?_)<;>intro _h|intro _h);all_goals ((first|replace _h:=of_decide_eq_true _h|replace _h:=of_decide_eq_false _h|skip);(try simp only [Bool.not_eq_true',Bool.not_eq_false',Bool.not_true,Bool.not_false,decide_eq_true_eq,decide_eq_false_iff_not] at _h);(try (guard_hyp _h : True;clear _h));first|done|contradiction|(conv=>whnf)))|(refine And.intro ?_ ?_;(focus (first|rfl|decide|assumption|omega|decide +kernel|exact ⟨rfl, rfl⟩|exact ⟨rfl, rfl, rfl, rfl⟩|exact fun h => Bool.noConfusion h|exact fun _ => rfl|exact Nat.le_of_ble_eq_true rfl|(simp only [List.length_map, List.length_append, List.length_replicate, List.length_take, List.length_drop, List.length_set, List.length_cons, List.length_nil]; omega)));(conv=>whnf))))
    refine acallI (k_make m hm hmL) rfl fun r hr => ?_
    rw [if_neg (by simp [hri])] at hr
    obtain ⟨n, n0, rr, rfl, hk⟩ := hr
    ((conv=>whnf);repeat' (first|((first|refine pickT ?_ ?_|refine pickT2 ?_ ?_);(focus (first|assumption|exact dT (by first|assumption|omega)|exact nT (by first|assumption|omega)|exact nbT (by assumption)|rfl));(conv=>whnf))|((first|refine pickF ?_ ?_|refine pickF2 ?_ ?_);(focus (first|assumption|exact dF (by first|assumption|omega)|exact nF (by first|assumption|omega)|exact nbF (by assumption)|rfl));(conv=>whnf))|((first|(first|refine splitB ?_ ?_|refine splitB2 ?_ ?_)<;>intro _h|intro _h);all_goals ((first|replace _h:=of_decide_eq_true _h|replace _h:=of_decide_eq_false _h|skip);(try simp only [Bool.not_eq_true',Bool.not_eq_false',Bool.not_true,Bool.not_false,decide_eq_true_eq,decide_eq_false_iff_not] at _h);(try (guard_hyp _h : True;clear _h));first|done|contradiction|(conv=>whnf)))|(refine And.intro ?_ ?_;(focus (first|rfl|decide|assumption|omega|decide +kernel|exact ⟨rfl, rfl⟩|exact ⟨rfl, rfl, rfl, rfl⟩|exact fun h => Bool.noConfusion h|exact fun _ => rfl|exact Nat.le_of_ble_eq_true rfl|(simp only [List.length_map, List.length_append, List.length_replicate, List.length_take, List.length_drop, List.length_set, List.length_cons, List.length_nil]; omega)));(conv=>whnf))))
    refine acallI (k_open hG m n n0 rr hk (sig a) (hsw a)) rfl fun r hr => ?_
    rw [hos a ha hal (by omega)] at hr
    subst hr
    ((conv=>whnf);repeat' (first|((first|refine pickT ?_ ?_|refine pickT2 ?_ ?_);(focus (first|assumption|exact dT (by first|assumption|omega)|exact nT (by first|assumption|omega)|exact nbT (by assumption)|rfl));(conv=>whnf))|((first|refine pickF ?_ ?_|refine pickF2 ?_ ?_);(focus (first|assumption|exact dF (by first|assumption|omega)|exact nF (by first|assumption|omega)|exact nbF (by assumption)|rfl));(conv=>whnf))|((first|(first|refine splitB ?_ ?_|refine splitB2 ?_ ?_)<;>intro _h|intro _h);all_goals ((first|replace _h:=of_decide_eq_true _h|replace _h:=of_decide_eq_false _h|skip);(try simp only [Bool.not_eq_true',Bool.not_eq_false',Bool.not_true,Bool.not_false,decide_eq_true_eq,decide_eq_false_iff_not] at _h);(try (guard_hyp _h : True;clear _h));first|done|contradiction|(conv=>whnf)))|(refine And.intro ?_ ?_;(focus (first|rfl|decide|assumption|omega|decide +kernel|exact ⟨rfl, rfl⟩|exact ⟨rfl, rfl, rfl, rfl⟩|exact fun h => Bool.noConfusion h|exact fun _ => rfl|exact Nat.le_of_ble_eq_true rfl|(simp only [List.length_map, List.length_append, List.length_replicate, List.length_take, List.length_drop, List.length_set, List.length_cons, List.length_nil]; omega)));(conv=>whnf))))
    exact Ends.imm rfl rfl
  · rw [hcs b hb (by omega) (by omega)] at hr
    subst hr
    ((conv=>whnf);repeat' (first|((first|refine pickT ?_ ?_|refine pickT2 ?_ ?_);(focus (first|assumption|exact dT (by first|assumption|omega)|exact nT (by first|assumption|omega)|exact nbT (by assumption)|rfl));(conv=>whnf))|((first|refine pickF ?_ ?_|refine pickF2 ?_ ?_);(focus (first|assumption|exact dF (by first|assumption|omega)|exact nF (by first|assumption|omega)|exact nbF (by assumption)|rfl));(conv=>whnf))|((first|(first|refine splitB ?_ ?_|refine splitB2 ?_ ?_)<;>intro _h|intro _h);all_goals ((first|replace _h:=of_decide_eq_true _h|replace _h:=of_decide_eq_false _h|skip);(try simp only [Bool.not_eq_true',Bool.not_eq_false',Bool.not_true,Bool.not_false,decide_eq_true_eq,decide_eq_false_iff_not] at _h);(try (guard_hyp _h : True;clear _h));first|done|contradiction|(conv=>whnf)))|(refine And.intro ?_ ?_;(focus (first|rfl|decide|assumption|omega|decide +kernel|exact ⟨rfl, rfl⟩|exact ⟨rfl, rfl, rfl, rfl⟩|exact fun h => Bool.noConfusion h|exact fun _ => rfl|exact Nat.le_of_ble_eq_true rfl|(simp only [List.length_map, List.length_append, List.length_replicate, List.length_take, List.length_drop, List.length_set, List.length_cons, List.length_nil]; omega)));(conv=>whnf))))
    refine acallI (k_make m hm hmL) rfl fun r hr => ?_
    rw [if_neg (by simp [hri])] at hr
    obtain ⟨n, n0, rr, rfl, hk⟩ := hr
    ((conv=>whnf);repeat' (first|((first|refine pickT ?_ ?_|refine pickT2 ?_ ?_);(focus (first|assumption|exact dT (by first|assumption|omega)|exact nT (by first|assumption|omega)|exact nbT (by assumption)|rfl));(conv=>whnf))|((first|refine pickF ?_ ?_|refine pickF2 ?_ ?_);(focus (first|assumption|exact dF (by first|assumption|omega)|exact nF (by first|assumption|omega)|exact nbF (by assumption)|rfl));(conv=>whnf))|((first|(first|refine splitB ?_ ?_|refine splitB2 ?_ ?_)<;>intro _h|intro _h);all_goals ((first|replace _h:=of_decide_eq_true _h|replace _h:=of_decide_eq_false _h|skip);(try simp only [Bool.not_eq_true',Bool.not_eq_false',Bool.not_true,Bool.not_false,decide_eq_true_eq,decide_eq_false_iff_not] at _h);(try (guard_hyp _h : True;clear _h));first|done|contradiction|(conv=>whnf)))|(refine And.intro ?_ ?_;(focus (first|rfl|decide|assumption|omega|decide +kernel|exact ⟨rfl, rfl⟩|exact ⟨rfl, rfl, rfl, rfl⟩|exact fun h => Bool.noConfusion h|exact fun _ => rfl|exact Nat.le_of_ble_eq_true rfl|(simp only [List.length_map, List.length_append, List.length_replicate, List.length_take, List.length_drop, List.length_set, List.length_cons, List.length_nil]; omega)));(conv=>whnf))))
    refine acallI (k_open hG m n n0 rr hk (sig a) (hsw a)) rfl fun r hr => ?_
    rw [hos a ha hal (by omega)] at hr
    subst hr
    ((conv=>whnf);repeat' (first|((first|refine pickT ?_ ?_|refine pickT2 ?_ ?_);(focus (first|assumption|exact dT (by first|assumption|omega)|exact nT (by first|assumption|omega)|exact nbT (by assumption)|rfl));(conv=>whnf))|((first|refine pickF ?_ ?_|refine pickF2 ?_ ?_);(focus (first|assumption|exact dF (by first|assumption|omega)|exact nF (by first|assumption|omega)|exact nbF (by assumption)|rfl));(conv=>whnf))|((first|(first|refine splitB ?_ ?_|refine splitB2 ?_ ?_)<;>intro _h|intro _h);all_goals ((first|replace _h:=of_decide_eq_true _h|replace _h:=of_decide_eq_false _h|skip);(try simp only [Bool.not_eq_true',Bool.not_eq_false',Bool.not_true,Bool.not_false,decide_eq_true_eq,decide_eq_false_iff_not] at _h);(try (guard_hyp _h : True;clear _h));first|done|contradiction|(conv=>whnf)))|(refine And.intro ?_ ?_;(focus (first|rfl|decide|assumption|omega|decide +kernel|exact ⟨rfl, rfl⟩|exact ⟨rfl, rfl, rfl, rfl⟩|exact fun h => Bool.noConfusion h|exact fun _ => rfl|exact Nat.le_of_ble_eq_true rfl|(simp only [List.length_map, List.length_append, List.length_replicate, List.length_take, List.length_drop, List.length_set, List.length_cons, List.length_nil]; omega)));(conv=>whnf))))
    refine Ends.imm rfl ?_
    have hiff : sig a = sig b ↔ a = b := ⟨fun h => hin a b ha hal (by omega) hb (by omega) (by omega) h, fun h => by rw [h]⟩
    by_cases hab : a = b
    · subst hab
      simp
    · have hsb : ¬ sig a = sig b := fun h => hab (hiff.1 h)
      simp [hab, hsb]
end Go.Proofs.YtniaeiikdgbnfaaDoor.R
