/- The ring's code, part 15: a ring is made. -/
import Derived.Test.YtniaeiikdgbnfaaR14
namespace Go.Proofs.Ytniaeiikdgbnfaa.R
open Go Go.RowKit Go.Proofs Go.Proofs.Ytniaeiikdgbnfaa.AW
set_option maxRecDepth 100000
set_option linter.unusedSimpArgs false
set_option linter.unusedVariables false
set_option maxHeartbeats 4000000

/-- A ring under way, as an object. -/
abbrev ringOb (n : List Int) (n0 : Int) : Ob := .cell 54 [.d (nat n), u32 n0, .nls (nat [])]

def told41o : AW.Told := ⟨fun f => f == 41 || f == 28, fun _ _ => [], fun _ => .done⟩

theorem f41o (n : List Int) (n0 : Int) (x : List Int) (over : Bool) (hn : wfl n) (hx : wfl x) (hbn : bad n = false) (hl : x.length = n.length) :
    CSpec Try.prog 41 [.optr 0 0, .d (nat x), bool over] [(0, ringOb n n0)] 1 (fun st nx r => st = [(0, ringOb n n0)] ∧ nx = 1 ∧ ∃ z, r = .d (nat z) ∧ lessS n x over z) := by
  have hbx : bad x = false := by unfold bad at hbn ⊢; rw [hl]; exact hbn
  refine CSpec.ends (CSpec.of_awp told41o [] Try.func41 rfl (by decide) (Nat.le_of_ble_eq_true rfl) fun _w0 _S0 _E0 _B0 => ?_)
  ((conv => whnf); repeat' (first | (refine And.intro ?_ ?_; (focus (first | rfl | decide | assumption | omega | decide +kernel | exact ⟨rfl, rfl⟩ | exact ⟨rfl, rfl, rfl, rfl⟩ | exact fun h => Bool.noConfusion h | exact fun _ => rfl | exact Nat.le_of_ble_eq_true rfl | (simp only [List.length_map, List.length_append, List.length_replicate, List.length_take, List.length_drop, List.length_set, List.length_cons, List.length_nil]; omega))); (conv => whnf)) | ((refine And.intro ?_ ?_ <;> intro _h); all_goals ((first | replace _h := of_decide_eq_true _h | replace _h := of_decide_eq_false _h | skip); (try simp only [Bool.not_eq_true', Bool.not_eq_false', Bool.not_true, Bool.not_false, decide_eq_true_eq, decide_eq_false_iff_not] at _h); (try (guard_hyp _h : True; clear _h)); first | done | contradiction | exact absurd ((Eq.symm _h).trans (show _ = true by assumption)) (by decide) | exact absurd ((Eq.symm _h).trans (show _ = false by assumption)) (by decide) | (conv => whnf))) | (intro _h; ((first | replace _h := of_decide_eq_true _h | replace _h := of_decide_eq_false _h | skip); (try simp only [Bool.not_eq_true', Bool.not_eq_false', Bool.not_true, Bool.not_false, decide_eq_true_eq, decide_eq_false_iff_not] at _h); (try (guard_hyp _h : True; clear _h)); first | done | contradiction | exact absurd ((Eq.symm _h).trans (show _ = true by assumption)) (by decide) | exact absurd ((Eq.symm _h).trans (show _ = false by assumption)) (by decide) | (conv => whnf)))))
  refine acallI (f50 x n hx hn) rfl fun r hr => ?_
  rw [if_neg (by simp [hbx, hbn, hl])] at hr
  obtain ⟨zs, c, rfl, hzl, hz, hc, hv⟩ := hr
  ((conv => whnf); repeat' (first | (refine And.intro ?_ ?_; (focus (first | rfl | decide | assumption | omega | decide +kernel | exact ⟨rfl, rfl⟩ | exact ⟨rfl, rfl, rfl, rfl⟩ | exact fun h => Bool.noConfusion h | exact fun _ => rfl | exact Nat.le_of_ble_eq_true rfl | (simp only [List.length_map, List.length_append, List.length_replicate, List.length_take, List.length_drop, List.length_set, List.length_cons, List.length_nil]; omega))); (conv => whnf)) | ((refine And.intro ?_ ?_ <;> intro _h); all_goals ((first | replace _h := of_decide_eq_true _h | replace _h := of_decide_eq_false _h | skip); (try simp only [Bool.not_eq_true', Bool.not_eq_false', Bool.not_true, Bool.not_false, decide_eq_true_eq, decide_eq_false_iff_not] at _h); (try (guard_hyp _h : True; clear _h)); first | done | contradiction | exact absurd ((Eq.symm _h).trans (show _ = true by assumption)) (by decide) | exact absurd ((Eq.symm _h).trans (show _ = false by assumption)) (by decide) | (conv => whnf))) | (intro _h; ((first | replace _h := of_decide_eq_true _h | replace _h := of_decide_eq_false _h | skip); (try simp only [Bool.not_eq_true', Bool.not_eq_false', Bool.not_true, Bool.not_false, decide_eq_true_eq, decide_eq_false_iff_not] at _h); (try (guard_hyp _h : True; clear _h)); first | done | contradiction | exact absurd ((Eq.symm _h).trans (show _ = true by assumption)) (by decide) | exact absurd ((Eq.symm _h).trans (show _ = false by assumption)) (by decide) | (conv => whnf)))))
  · refine ⟨[0], [(0, ringOb n n0)], .d (nat zs), ⟨rfl, ⟨⟨by decide, rfl⟩, trivial⟩, rfl⟩, rfl, rfl, zs, rfl, by rw [hzl, hl], hz, ?_⟩
    have : c = 0 := by omega
    subst this
    rw [if_pos (.inr (by have := val_nonneg hz; omega)), ← hl, mod_of hz hzl hv]
  · refine ⟨[0], [(0, ringOb n n0)], .d (nat x), ⟨rfl, ⟨⟨by decide, rfl⟩, trivial⟩, rfl⟩, rfl, rfl, x, rfl, hl, hx, ?_⟩
    rw [if_neg]
    have h1 := val_lt hz
    rw [hzl] at h1
    have : over = false := by assumption
    subst this
    subst c
    simp; omega
  · refine ⟨[0], [(0, ringOb n n0)], .d (nat zs), ⟨rfl, ⟨⟨by decide, rfl⟩, trivial⟩, rfl⟩, rfl, rfl, zs, rfl, by rw [hzl, hl], hz, ?_⟩
    rw [if_pos (.inl (by assumption)), ← hl, mod_of hz hzl hv]

theorem f28o (n : List Int) (n0 : Int) (x : List Int) (hn : wfl n) (hx : wfl x) (hbn : bad n = false) (hl : x.length = n.length) (hv : val x < val n) :
    CSpec Try.prog 28 [.optr 0 0, .d (nat x)] [(0, ringOb n n0)] 1 (fun st nx r => st = [(0, ringOb n n0)] ∧ nx = 1 ∧ ∃ z, r = .d (nat z) ∧ z.length = n.length ∧ wfl z ∧ val z = (2 * val x) % val n) := by
  have hbx : bad x = false := by unfold bad at hbn ⊢; rw [hl]; exact hbn
  refine CSpec.ends (CSpec.of_awp told41o [] Try.func28 rfl (by decide) (Nat.le_of_ble_eq_true rfl) fun _w0 _S0 _E0 _B0 => ?_)
  ((conv => whnf); repeat' (first | (refine And.intro ?_ ?_; (focus (first | rfl | decide | assumption | omega | decide +kernel | exact ⟨rfl, rfl⟩ | exact ⟨rfl, rfl, rfl, rfl⟩ | exact fun h => Bool.noConfusion h | exact fun _ => rfl | exact Nat.le_of_ble_eq_true rfl | (simp only [List.length_map, List.length_append, List.length_replicate, List.length_take, List.length_drop, List.length_set, List.length_cons, List.length_nil]; omega))); (conv => whnf)) | ((refine And.intro ?_ ?_ <;> intro _h); all_goals ((first | replace _h := of_decide_eq_true _h | replace _h := of_decide_eq_false _h | skip); (try simp only [Bool.not_eq_true', Bool.not_eq_false', Bool.not_true, Bool.not_false, decide_eq_true_eq, decide_eq_false_iff_not] at _h); (try (guard_hyp _h : True; clear _h)); first | done | contradiction | exact absurd ((Eq.symm _h).trans (show _ = true by assumption)) (by decide) | exact absurd ((Eq.symm _h).trans (show _ = false by assumption)) (by decide) | (conv => whnf))) | (intro _h; ((first | replace _h := of_decide_eq_true _h | replace _h := of_decide_eq_false _h | skip); (try simp only [Bool.not_eq_true', Bool.not_eq_false', Bool.not_true, Bool.not_false, decide_eq_true_eq, decide_eq_false_iff_not] at _h); (try (guard_hyp _h : True; clear _h)); first | done | contradiction | exact absurd ((Eq.symm _h).trans (show _ = true by assumption)) (by decide) | exact absurd ((Eq.symm _h).trans (show _ = false by assumption)) (by decide) | (conv => whnf)))))
  refine acallI (f40 x x hx hx) rfl fun r hr => ?_
  rw [if_neg (by simp [hbx])] at hr
  obtain ⟨zs, c, rfl, hzl, hz, hc, hvz⟩ := hr
  ((conv => whnf); repeat' (first | (refine And.intro ?_ ?_; (focus (first | rfl | decide | assumption | omega | decide +kernel | exact ⟨rfl, rfl⟩ | exact ⟨rfl, rfl, rfl, rfl⟩ | exact fun h => Bool.noConfusion h | exact fun _ => rfl | exact Nat.le_of_ble_eq_true rfl | (simp only [List.length_map, List.length_append, List.length_replicate, List.length_take, List.length_drop, List.length_set, List.length_cons, List.length_nil]; omega))); (conv => whnf)) | ((refine And.intro ?_ ?_ <;> intro _h); all_goals ((first | replace _h := of_decide_eq_true _h | replace _h := of_decide_eq_false _h | skip); (try simp only [Bool.not_eq_true', Bool.not_eq_false', Bool.not_true, Bool.not_false, decide_eq_true_eq, decide_eq_false_iff_not] at _h); (try (guard_hyp _h : True; clear _h)); first | done | contradiction | exact absurd ((Eq.symm _h).trans (show _ = true by assumption)) (by decide) | exact absurd ((Eq.symm _h).trans (show _ = false by assumption)) (by decide) | (conv => whnf))) | (intro _h; ((first | replace _h := of_decide_eq_true _h | replace _h := of_decide_eq_false _h | skip); (try simp only [Bool.not_eq_true', Bool.not_eq_false', Bool.not_true, Bool.not_false, decide_eq_true_eq, decide_eq_false_iff_not] at _h); (try (guard_hyp _h : True; clear _h)); first | done | contradiction | exact absurd ((Eq.symm _h).trans (show _ = true by assumption)) (by decide) | exact absurd ((Eq.symm _h).trans (show _ = false by assumption)) (by decide) | (conv => whnf)))))
  refine acall [0] (f41o n n0 zs (decide (c = 1)) hn hz hbn (by omega)) rfl ⟨⟨by decide, rfl⟩, trivial⟩ rfl (fun h => Bool.noConfusion h) fun st nx r hr => ?_
  obtain ⟨rfl, rfl, z, rfl, hz1, hz2, hz3⟩ := hr
  ((conv => whnf); repeat' (first | (refine And.intro ?_ ?_; (focus (first | rfl | decide | assumption | omega | decide +kernel | exact ⟨rfl, rfl⟩ | exact ⟨rfl, rfl, rfl, rfl⟩ | exact fun h => Bool.noConfusion h | exact fun _ => rfl | exact Nat.le_of_ble_eq_true rfl | (simp only [List.length_map, List.length_append, List.length_replicate, List.length_take, List.length_drop, List.length_set, List.length_cons, List.length_nil]; omega))); (conv => whnf)) | ((refine And.intro ?_ ?_ <;> intro _h); all_goals ((first | replace _h := of_decide_eq_true _h | replace _h := of_decide_eq_false _h | skip); (try simp only [Bool.not_eq_true', Bool.not_eq_false', Bool.not_true, Bool.not_false, decide_eq_true_eq, decide_eq_false_iff_not] at _h); (try (guard_hyp _h : True; clear _h)); first | done | contradiction | exact absurd ((Eq.symm _h).trans (show _ = true by assumption)) (by decide) | exact absurd ((Eq.symm _h).trans (show _ = false by assumption)) (by decide) | (conv => whnf))) | (intro _h; ((first | replace _h := of_decide_eq_true _h | replace _h := of_decide_eq_false _h | skip); (try simp only [Bool.not_eq_true', Bool.not_eq_false', Bool.not_true, Bool.not_false, decide_eq_true_eq, decide_eq_false_iff_not] at _h); (try (guard_hyp _h : True; clear _h)); first | done | contradiction | exact absurd ((Eq.symm _h).trans (show _ = true by assumption)) (by decide) | exact absurd ((Eq.symm _h).trans (show _ = false by assumption)) (by decide) | (conv => whnf)))))
  exact ⟨[0], [(0, ringOb n n0)], .d (nat z), ⟨rfl, ⟨⟨by decide, rfl⟩, trivial⟩, rfl⟩, rfl, rfl, z, rfl, hz1, hz2, dbl hn hx hl hv hzl hz hc hvz hz1 hz2 hz3⟩

/-! ### An odd number's inverse -/
theorem inv_step {m y : Int} (j j' : Nat) (h : (m * y - 1) % 2 ^ j = 0) (h1 : j' ≤ 2 * j) (h2 : j' ≤ 32) :
    (m * ((y * ((2 - (m * y) % 4294967296) % 4294967296)) % 4294967296) - 1) % 2 ^ j' = 0 := by
  have hd : ∀ z : Int, ∃ q, z % 4294967296 = z - 4294967296 * q := fun z => ⟨z / 4294967296, by omega⟩
  obtain ⟨q1, e1⟩ := hd (m * y)
  obtain ⟨q2, e2⟩ := hd (2 - (m * y) % 4294967296)
  obtain ⟨q3, e3⟩ := hd (y * ((2 - (m * y) % 4294967296) % 4294967296))
  obtain ⟨t, ht⟩ : ∃ t, m * y - 1 = 2 ^ j * t := ⟨(m * y - 1) / 2 ^ j, by have := Int.mul_ediv_add_emod (m * y - 1) (2 ^ j); omega⟩
  obtain ⟨a, ha⟩ : ∃ a : Nat, 2 * j = j' + a := ⟨2 * j - j', by omega⟩
  obtain ⟨b, hb⟩ : ∃ b : Nat, 32 = j' + b := ⟨32 - j', by omega⟩
  have p1 : (2 : Int) ^ j * 2 ^ j = 2 ^ j' * 2 ^ a := by rw [← Int.pow_add, ← Int.pow_add, ← ha]; congr 1; omega
  have p2 : (4294967296 : Int) = 2 ^ j' * 2 ^ b := by rw [← Int.pow_add, ← hb]; rfl
  rw [e3, e2, e1]
  generalize (2 : Int) ^ j = P at *
  generalize (2 : Int) ^ j' = R at *
  generalize (2 : Int) ^ a = A at *
  generalize (2 : Int) ^ b = B at *
  generalize (4294967296 : Int) = W at *
  have : m * (y * (2 - (m * y - W * q1) - W * q2) - W * q3) - 1 = R * (-(A * t * t) + B * (m * y * q1 - m * y * q2 - m * q3)) := by
    have hm : m * y = 1 + P * t := by omega
    have e : m * (y * (2 - (m * y - W * q1) - W * q2) - W * q3) - 1 = (m * y) * (2 - (m * y)) - 1 + W * (m * y * q1 - m * y * q2 - m * q3) := by grind
    rw [e, p2, hm]
    have e4 : (1 + P * t) * (2 - (1 + P * t)) - 1 = -(P * P * (t * t)) := by grind
    rw [e4, p1]
    grind
  rw [this, Int.mul_emod_right]

def jj (k : Nat) : Nat := [3, 6, 12, 24, 32, 32].getD k 0
theorem jj_step {k : Nat} (h : k < 5) : jj (k + 1) ≤ 2 * jj k ∧ jj (k + 1) ≤ 32 := by
  have : ∀ k : Fin 5, jj (k.val + 1) ≤ 2 * jj k.val ∧ jj (k.val + 1) ≤ 32 := by decide
  exact this ⟨k, h⟩

def told11 : AW.Told := ⟨fun f => f == 28, fun r i => if r == 10 && i == 4 then [42] else if r == 13 && i == 0 then [6] else [], fun _ => .done⟩

theorem odd_sq {m : Int} (h : m % 2 = 1) : (m * m - 1) % 2 ^ 3 = 0 := by
  obtain ⟨k, rfl⟩ : ∃ k, m = 2 * k + 1 := ⟨m / 2, by omega⟩
  have e : (2 * k + 1) * (2 * k + 1) - 1 = 4 * (k * (k + 1)) := by grind
  obtain ⟨j, hj⟩ : ∃ j, k * (k + 1) = 2 * j := by
    rcases (show k % 2 = 0 ∨ k % 2 = 1 by omega) with h | h
    · exact ⟨(k / 2) * (k + 1), by have : k = 2 * (k / 2) := by omega
                                   generalize k / 2 = q at *; subst this; grind⟩
    · exact ⟨k * ((k + 1) / 2), by have : k + 1 = 2 * ((k + 1) / 2) := by omega
                                   generalize (k + 1) / 2 = q at *; rw [this]; grind⟩
  rw [e, hj]
  omega

theorem two_small {n : List Int} (hn : wfl n) : blen (val n).toNat < 2 ↔ val n < 2 := by
  have := blen_le (val n).toNat 1
  have := val_nonneg hn
  omega

theorem double_pow {x N : Int} {k : Nat} (h : x = 2 ^ k % N) : 2 * x % N = 2 ^ (k + 1) % N := by
  subst h
  rw [Int.pow_succ, Int.mul_comm, Int.mul_emod, Int.emod_emod_of_dvd _ (Int.dvd_refl _), ← Int.mul_emod]

theorem f11 (n : List Int) (hn : wfl n) : Imm Try.prog 11 [.d (nat n)] (fun r =>
    if n.length < 1 ∨ 128 < n.length then r = .tup [.d .nilp, i64 24]
    else if n.getD 0 0 % 2 = 0 ∨ val n < 2 then r = .tup [.d .nilp, i64 12]
    else ∃ n0 rr, r = .tup [.d (ringD n n0 rr), i64 0] ∧ Ring n n0 rr) := by
  have h00 := hn.get 0
  have ht : (n.getD 0 0).tmod 2 = n.getD 0 0 % 2 := Int.tmod_eq_emod_of_nonneg h00.1
  (refine Imm.of_awp told11 [5] Try.func11 rfl (by decide) (Nat.le_of_ble_eq_true rfl) ?_; intro _w0 _S0 _E0 _B0; ((conv => whnf); repeat' (first | (refine And.intro ?_ ?_; (focus (first | rfl | decide | assumption | omega | decide +kernel | exact ⟨rfl, rfl⟩ | exact ⟨rfl, rfl, rfl, rfl⟩ | exact fun h => Bool.noConfusion h | exact fun _ => rfl | exact Nat.le_of_ble_eq_true rfl | (simp only [List.length_map, List.length_append, List.length_replicate, List.length_take, List.length_drop, List.length_set, List.length_cons, List.length_nil]; omega))); (conv => whnf)) | ((refine And.intro ?_ ?_ <;> intro _h); all_goals ((first | replace _h := of_decide_eq_true _h | replace _h := of_decide_eq_false _h | skip); (try simp only [Bool.not_eq_true', Bool.not_eq_false', Bool.not_true, Bool.not_false, decide_eq_true_eq, decide_eq_false_iff_not] at _h); (try (guard_hyp _h : True; clear _h)); first | done | contradiction | exact absurd ((Eq.symm _h).trans (show _ = true by assumption)) (by decide) | exact absurd ((Eq.symm _h).trans (show _ = false by assumption)) (by decide) | (conv => whnf))) | (intro _h; ((first | replace _h := of_decide_eq_true _h | replace _h := of_decide_eq_false _h | skip); (try simp only [Bool.not_eq_true', Bool.not_eq_false', Bool.not_true, Bool.not_false, decide_eq_true_eq, decide_eq_false_iff_not] at _h); (try (guard_hyp _h : True; clear _h)); first | done | contradiction | exact absurd ((Eq.symm _h).trans (show _ = true by assumption)) (by decide) | exact absurd ((Eq.symm _h).trans (show _ = false by assumption)) (by decide) | (conv => whnf))))))
  · exact Ends.imm rfl (by rw [if_pos (.inr (by omega))])
  · rename_i h1 h2 _ _
    have hlen : ¬ (n.length < 1 ∨ 128 < n.length) := by omega
    have hbn : bad n = false := by unfold bad; rw [Bool.or_eq_false_iff, decide_eq_false_iff_not, decide_eq_false_iff_not]; omega
    have hne : ¬ (n.getD 0 0 % 2 = 0) := by rw [← ht]; exact _h
    refine acallI (f24 n hn) rfl fun r hr => ?_
    rw [if_neg (by simp [hbn])] at hr
    subst hr
    have h2s := two_small hn
    ((conv => whnf); repeat' (first | (refine And.intro ?_ ?_; (focus (first | rfl | decide | assumption | omega | decide +kernel | exact ⟨rfl, rfl⟩ | exact ⟨rfl, rfl, rfl, rfl⟩ | exact fun h => Bool.noConfusion h | exact fun _ => rfl | exact Nat.le_of_ble_eq_true rfl | (simp only [List.length_map, List.length_append, List.length_replicate, List.length_take, List.length_drop, List.length_set, List.length_cons, List.length_nil]; omega))); (conv => whnf)) | ((refine And.intro ?_ ?_ <;> intro _h); all_goals ((first | replace _h := of_decide_eq_true _h | replace _h := of_decide_eq_false _h | skip); (try simp only [Bool.not_eq_true', Bool.not_eq_false', Bool.not_true, Bool.not_false, decide_eq_true_eq, decide_eq_false_iff_not] at _h); (try (guard_hyp _h : True; clear _h)); first | done | contradiction | exact absurd ((Eq.symm _h).trans (show _ = true by assumption)) (by decide) | exact absurd ((Eq.symm _h).trans (show _ = false by assumption)) (by decide) | (conv => whnf))) | (intro _h; ((first | replace _h := of_decide_eq_true _h | replace _h := of_decide_eq_false _h | skip); (try simp only [Bool.not_eq_true', Bool.not_eq_false', Bool.not_true, Bool.not_false, decide_eq_true_eq, decide_eq_false_iff_not] at _h); (try (guard_hyp _h : True; clear _h)); first | done | contradiction | exact absurd ((Eq.symm _h).trans (show _ = true by assumption)) (by decide) | exact absurd ((Eq.symm _h).trans (show _ = false by assumption)) (by decide) | (conv => whnf)))))
    · exact Ends.imm rfl (by rw [if_neg hlen, if_pos (.inr (by omega))])
    · rename_i _ hbl
      have hv : ¬ val n < 2 := by omega
      have hodd : n.getD 0 0 % 2 = 1 := by omega
      refine aloop (T := told11) (ι := Nat × Int) (fun p => [(0, .d (nat n)), (4, u32 p.2), (30, i64 p.1)]) (fun _ => []) 66 0 (fun p => 5 - p.1) (fun p => p.1 ≤ 5 ∧ (0 ≤ p.2 ∧ p.2 < 4294967296) ∧ (n.getD 0 0 * p.2 - 1) % 2 ^ jj p.1 = 0)
        ⟨(0, n.getD 0 0), [], rfl, ⟨by omega, h00, odd_sq hodd⟩, by (refine ⟨rfl, rfl, ?_, ?_⟩ <;> repeat' (first | exact True.intro | rfl | decide | (refine And.intro ?_ ?_)))⟩ ?_
      intro ⟨k, y⟩ ⟨hk, hy, hinv⟩
      dsimp only at hk hy hinv ⊢
      ((conv => whnf); repeat' (first | (refine And.intro ?_ ?_; (focus (first | rfl | decide | assumption | omega | decide +kernel | exact ⟨rfl, rfl⟩ | exact ⟨rfl, rfl, rfl, rfl⟩ | exact fun h => Bool.noConfusion h | exact fun _ => rfl | exact Nat.le_of_ble_eq_true rfl | (simp only [List.length_map, List.length_append, List.length_replicate, List.length_take, List.length_drop, List.length_set, List.length_cons, List.length_nil]; omega))); (conv => whnf)) | ((refine And.intro ?_ ?_ <;> intro _h); all_goals ((first | replace _h := of_decide_eq_true _h | replace _h := of_decide_eq_false _h | skip); (try simp only [Bool.not_eq_true', Bool.not_eq_false', Bool.not_true, Bool.not_false, decide_eq_true_eq, decide_eq_false_iff_not] at _h); (try (guard_hyp _h : True; clear _h)); first | done | contradiction | exact absurd ((Eq.symm _h).trans (show _ = true by assumption)) (by decide) | exact absurd ((Eq.symm _h).trans (show _ = false by assumption)) (by decide) | (conv => whnf))) | (intro _h; ((first | replace _h := of_decide_eq_true _h | replace _h := of_decide_eq_false _h | skip); (try simp only [Bool.not_eq_true', Bool.not_eq_false', Bool.not_true, Bool.not_false, decide_eq_true_eq, decide_eq_false_iff_not] at _h); (try (guard_hyp _h : True; clear _h)); first | done | contradiction | exact absurd ((Eq.symm _h).trans (show _ = true by assumption)) (by decide) | exact absurd ((Eq.symm _h).trans (show _ = false by assumption)) (by decide) | (conv => whnf)))))
      · have hst := inv_step (jj k) (jj (k + 1)) hinv (jj_step (by omega)).1 (jj_step (by omega)).2
        refine ⟨(k + 1, (y * ((2 - (n.getD 0 0 * y) % 4294967296) % 4294967296)) % 4294967296), [], by dsimp only; omega, ⟨by dsimp only; omega, by dsimp only; omega, hst⟩, rfl, ?_⟩
        (refine ⟨rfl, rfl, ?_, ?_⟩ <;> repeat' (first | exact True.intro | rfl | decide | (refine And.intro ?_ ?_)))
        refine di ?_
        rw [wrap_i64 (by omega) (by omega)]; rfl
      · have hk5 : k = 5 := by omega
        subst hk5
        refine acall [] (f27 n (by intro e; subst e; simp at hlen) (by omega)) rfl trivial rfl (fun h => rfl) fun st nx r hr => ?_
        obtain ⟨rfl, rfl, rfl⟩ := hr
        ((conv => whnf); repeat' (first | (refine And.intro ?_ ?_; (focus (first | rfl | decide | assumption | omega | decide +kernel | exact ⟨rfl, rfl⟩ | exact ⟨rfl, rfl, rfl, rfl⟩ | exact fun h => Bool.noConfusion h | exact fun _ => rfl | exact Nat.le_of_ble_eq_true rfl | (simp only [List.length_map, List.length_append, List.length_replicate, List.length_take, List.length_drop, List.length_set, List.length_cons, List.length_nil]; omega))); (conv => whnf)) | ((refine And.intro ?_ ?_ <;> intro _h); all_goals ((first | replace _h := of_decide_eq_true _h | replace _h := of_decide_eq_false _h | skip); (try simp only [Bool.not_eq_true', Bool.not_eq_false', Bool.not_true, Bool.not_false, decide_eq_true_eq, decide_eq_false_iff_not] at _h); (try (guard_hyp _h : True; clear _h)); first | done | contradiction | exact absurd ((Eq.symm _h).trans (show _ = true by assumption)) (by decide) | exact absurd ((Eq.symm _h).trans (show _ = false by assumption)) (by decide) | (conv => whnf))) | (intro _h; ((first | replace _h := of_decide_eq_true _h | replace _h := of_decide_eq_false _h | skip); (try simp only [Bool.not_eq_true', Bool.not_eq_false', Bool.not_true, Bool.not_false, decide_eq_true_eq, decide_eq_false_iff_not] at _h); (try (guard_hyp _h : True; clear _h)); first | done | contradiction | exact absurd ((Eq.symm _h).trans (show _ = true by assumption)) (by decide) | exact absurd ((Eq.symm _h).trans (show _ = false by assumption)) (by decide) | (conv => whnf)))))
        · have hn0 : (0 : Int) ≤ (0 - y) % 4294967296 ∧ (0 - y) % 4294967296 < 4294967296 := by omega
          obtain ⟨n0, en0⟩ : ∃ n0, n0 = (0 - y) % 4294967296 := ⟨_, rfl⟩
          refine aloop (T := told11) (ι := Nat × List Int) (fun p => [(0, .d (nat n)), (5, .optr 0 0), (6, .d (nat p.2)), (54, i64 ((64 * n.length : Nat) : Int)), (55, i64 p.1)]) (fun _ => [(0, ringOb n n0)]) 66 1
            (fun p => 64 * n.length - p.1) (fun p => p.1 ≤ 64 * n.length ∧ p.2.length = n.length ∧ wfl p.2 ∧ val p.2 = 2 ^ p.1 % val n)
            ⟨(0, oneL n.length), [1], rfl, ⟨by omega, oneL_len _, oneL_wf _, by rw [oneL_val (by omega)]; simp; rw [Int.emod_eq_of_lt] <;> omega⟩, by
              (refine ⟨rfl, rfl, ?_, ?_⟩ <;> repeat' (first | exact True.intro | rfl | decide | (refine And.intro ?_ ?_)))
              · refine di ?_
                rw [wrap_i64 (by omega) (by omega)]; simp
              · rw [en0]; rfl⟩ ?_
          intro ⟨k, x⟩ ⟨hk2, hxl, hx, hxv⟩
          dsimp only at hk2 hxl hx hxv ⊢
          have hxlt : val x < val n := by rw [hxv]; exact Int.emod_lt_of_pos _ (by omega)
          ((conv => whnf); repeat' (first | (refine And.intro ?_ ?_; (focus (first | rfl | decide | assumption | omega | decide +kernel | exact ⟨rfl, rfl⟩ | exact ⟨rfl, rfl, rfl, rfl⟩ | exact fun h => Bool.noConfusion h | exact fun _ => rfl | exact Nat.le_of_ble_eq_true rfl | (simp only [List.length_map, List.length_append, List.length_replicate, List.length_take, List.length_drop, List.length_set, List.length_cons, List.length_nil]; omega))); (conv => whnf)) | ((refine And.intro ?_ ?_ <;> intro _h); all_goals ((first | replace _h := of_decide_eq_true _h | replace _h := of_decide_eq_false _h | skip); (try simp only [Bool.not_eq_true', Bool.not_eq_false', Bool.not_true, Bool.not_false, decide_eq_true_eq, decide_eq_false_iff_not] at _h); (try (guard_hyp _h : True; clear _h)); first | done | contradiction | exact absurd ((Eq.symm _h).trans (show _ = true by assumption)) (by decide) | exact absurd ((Eq.symm _h).trans (show _ = false by assumption)) (by decide) | (conv => whnf))) | (intro _h; ((first | replace _h := of_decide_eq_true _h | replace _h := of_decide_eq_false _h | skip); (try simp only [Bool.not_eq_true', Bool.not_eq_false', Bool.not_true, Bool.not_false, decide_eq_true_eq, decide_eq_false_iff_not] at _h); (try (guard_hyp _h : True; clear _h)); first | done | contradiction | exact absurd ((Eq.symm _h).trans (show _ = true by assumption)) (by decide) | exact absurd ((Eq.symm _h).trans (show _ = false by assumption)) (by decide) | (conv => whnf)))))
          · refine acall [0] (f28o n n0 x hn hx hbn hxl hxlt) rfl ⟨⟨by decide, rfl⟩, trivial⟩ rfl (fun h => Bool.noConfusion h) fun st nx r hr => ?_
            obtain ⟨rfl, rfl, z, rfl, hz1, hz2, hz3⟩ := hr
            ((conv => whnf); repeat' (first | (refine And.intro ?_ ?_; (focus (first | rfl | decide | assumption | omega | decide +kernel | exact ⟨rfl, rfl⟩ | exact ⟨rfl, rfl, rfl, rfl⟩ | exact fun h => Bool.noConfusion h | exact fun _ => rfl | exact Nat.le_of_ble_eq_true rfl | (simp only [List.length_map, List.length_append, List.length_replicate, List.length_take, List.length_drop, List.length_set, List.length_cons, List.length_nil]; omega))); (conv => whnf)) | ((refine And.intro ?_ ?_ <;> intro _h); all_goals ((first | replace _h := of_decide_eq_true _h | replace _h := of_decide_eq_false _h | skip); (try simp only [Bool.not_eq_true', Bool.not_eq_false', Bool.not_true, Bool.not_false, decide_eq_true_eq, decide_eq_false_iff_not] at _h); (try (guard_hyp _h : True; clear _h)); first | done | contradiction | exact absurd ((Eq.symm _h).trans (show _ = true by assumption)) (by decide) | exact absurd ((Eq.symm _h).trans (show _ = false by assumption)) (by decide) | (conv => whnf))) | (intro _h; ((first | replace _h := of_decide_eq_true _h | replace _h := of_decide_eq_false _h | skip); (try simp only [Bool.not_eq_true', Bool.not_eq_false', Bool.not_true, Bool.not_false, decide_eq_true_eq, decide_eq_false_iff_not] at _h); (try (guard_hyp _h : True; clear _h)); first | done | contradiction | exact absurd ((Eq.symm _h).trans (show _ = true by assumption)) (by decide) | exact absurd ((Eq.symm _h).trans (show _ = false by assumption)) (by decide) | (conv => whnf)))))
            refine ⟨(k + 1, z), [0], by dsimp only; omega, ⟨by dsimp only; omega, hz1, hz2, by rw [hz3]; exact double_pow hxv⟩, rfl, ?_⟩
            (refine ⟨rfl, rfl, ?_, ?_⟩ <;> repeat' (first | exact True.intro | rfl | decide | (refine And.intro ?_ ?_)))
            refine di ?_
            rw [wrap_i64 (by omega) (by omega)]; rfl
          · have hke : k = 64 * n.length := by omega
            subst hke
            refine Ends.imm rfl ?_
            rw [if_neg hlen, if_neg (by omega)]
            refine ⟨n0, x, rfl, hn, hbn, by omega, ?_, hx, hxl, hxlt, by omega, 2 ^ (64 * n.length) / val n, ?_⟩
            · have e1 : jj 5 = 32 := rfl
              rw [e1] at hinv
              subst en0
              have : (2 : Int) ^ 32 = 4294967296 := rfl
              rw [this] at hinv
              obtain ⟨q, hq⟩ : ∃ q, n.getD 0 0 * y - 1 = 4294967296 * q := ⟨(n.getD 0 0 * y - 1) / 4294967296, by omega⟩
              obtain ⟨p, hp⟩ : ∃ p, (0 - y) % 4294967296 = 0 - y - 4294967296 * p := ⟨(0 - y) / 4294967296, by omega⟩
              rw [hp]
              have : n.getD 0 0 * (0 - y - 4294967296 * p) + 1 = 4294967296 * (-q - n.getD 0 0 * p) := by grind
              rw [this, Int.mul_emod_right]
            · rw [hxv, pw_two, ← Int.pow_add]
              have := Int.emod_add_mul_ediv (2 ^ (64 * n.length)) (val n)
              rw [show 32 * n.length + 32 * n.length = 64 * n.length by omega]
              rw [Int.mul_comm (2 ^ (64 * n.length) / val n)]
              omega
  · exact Ends.imm rfl (by rw [if_neg (by omega), if_pos (.inl (by rw [← ht]; assumption))])
  · exact Ends.imm rfl (by rw [if_pos (.inl (by omega))])
end Go.Proofs.Ytniaeiikdgbnfaa.R
