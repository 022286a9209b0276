/- Parts R15, R16, K1, K2, K3, K4, K5, K6, K7, K8. No condition of its own. -/
import Derived.Test.YtniaeiikdgbnfaaDoorSD9
import Derived.Test.YtniaeiikdgbnfaaDoorSD6
import Derived.Shelf.RegionOpen
import Derived.WalkKit
import Derived.TacticsInMore
import Derived.LoopIn
import Derived.OwnWalkIn

namespace Go.Proofs.YtniaeiikdgbnfaaDoor.R
open Go Go.RowKit Go.Proofs Go.Proofs.YtniaeiikdgbnfaaDoor.AW
set_option linter.unusedSectionVars false
variable [Globs]
set_option maxRecDepth 100000
set_option linter.unusedSimpArgs false
set_option linter.unusedVariables false
set_option maxHeartbeats 4000000

/-- A ring under way, as an object. -/
abbrev ringOb (n : List Int) (n0 : Int) : Ob := .cell 83 [.d (nat n), u32 n0, .nls (nat [])]

def told41o : AW.Told := ⟨fun f => f == 88 || f == 58, fun _ _ => [], fun _ => .done⟩

theorem f41o (n : List Int) (n0 : Int) (x : List Int) (over : Bool) (hn : wfl n) (hx : wfl x) (hbn : bad n = false) (hl : x.length = n.length) :
    CSpec Tryd.prog 88 [.optr 0 0, .d (nat x), bool over] [(0, ringOb n n0)] 1 (fun st nx r => st = [(0, ringOb n n0)] ∧ nx = 1 ∧ ∃ z, r = .d (nat z) ∧ lessS n x over z) := by
  have hbx : bad x = false := by unfold bad at hbn ⊢; rw [hl]; exact hbn
  refine CSpec.ends (CSpec.of_awp told41o [] Tryd.func88 rfl (by decide) (Nat.le_of_ble_eq_true rfl) fun _w0 _S0 _E0 _B0 => ?_)
  ((conv => whnf); repeat' (first | (refine And.intro ?_ ?_; (focus (first | rfl | decide | assumption | omega | decide +kernel | exact ⟨rfl, rfl⟩ | exact ⟨rfl, rfl, rfl, rfl⟩ | exact fun h => Bool.noConfusion h | exact fun _ => rfl | exact Nat.le_of_ble_eq_true rfl | (simp only [List.length_map, List.length_append, List.length_replicate, List.length_take, List.length_drop, List.length_set, List.length_cons, List.length_nil]; omega))); (conv => whnf)) | ((refine And.intro ?_ ?_ <;> intro _h); all_goals ((first | replace _h := of_decide_eq_true _h | replace _h := of_decide_eq_false _h | skip); (try simp only [Bool.not_eq_true', Bool.not_eq_false', Bool.not_true, Bool.not_false, decide_eq_true_eq, decide_eq_false_iff_not] at _h); (try (guard_hyp _h : True; clear _h)); first | done | contradiction | exact absurd ((Eq.symm _h).trans (show _ = true by assumption)) (by decide) | exact absurd ((Eq.symm _h).trans (show _ = false by assumption)) (by decide) | (conv => whnf))) | (intro _h; ((first | replace _h := of_decide_eq_true _h | replace _h := of_decide_eq_false _h | skip); (try simp only [Bool.not_eq_true', Bool.not_eq_false', Bool.not_true, Bool.not_false, decide_eq_true_eq, decide_eq_false_iff_not] at _h); (try (guard_hyp _h : True; clear _h)); first | done | contradiction | exact absurd ((Eq.symm _h).trans (show _ = true by assumption)) (by decide) | exact absurd ((Eq.symm _h).trans (show _ = false by assumption)) (by decide) | (conv => whnf)))))
  refine acallI (f50 x n hx hn) rfl fun r hr => ?_
  rw [if_neg (by simp [hbx, hbn, hl])] at hr
  obtain ⟨zs, c, rfl, hzl, hz, hc, hv⟩ := hr
  ((conv => whnf); repeat' (first | (refine And.intro ?_ ?_; (focus (first | rfl | decide | assumption | omega | decide +kernel | exact ⟨rfl, rfl⟩ | exact ⟨rfl, rfl, rfl, rfl⟩ | exact fun h => Bool.noConfusion h | exact fun _ => rfl | exact Nat.le_of_ble_eq_true rfl | (simp only [List.length_map, List.length_append, List.length_replicate, List.length_take, List.length_drop, List.length_set, List.length_cons, List.length_nil]; omega))); (conv => whnf)) | ((refine And.intro ?_ ?_ <;> intro _h); all_goals ((first | replace _h := of_decide_eq_true _h | replace _h := of_decide_eq_false _h | skip); (try simp only [Bool.not_eq_true', Bool.not_eq_false', Bool.not_true, Bool.not_false, decide_eq_true_eq, decide_eq_false_iff_not] at _h); (try (guard_hyp _h : True; clear _h)); first | done | contradiction | exact absurd ((Eq.symm _h).trans (show _ = true by assumption)) (by decide) | exact absurd ((Eq.symm _h).trans (show _ = false by assumption)) (by decide) | (conv => whnf))) | (intro _h; ((first | replace _h := of_decide_eq_true _h | replace _h := of_decide_eq_false _h | skip); (try simp only [Bool.not_eq_true', Bool.not_eq_false', Bool.not_true, Bool.not_false, decide_eq_true_eq, decide_eq_false_iff_not] at _h); (try (guard_hyp _h : True; clear _h)); first | done | contradiction | exact absurd ((Eq.symm _h).trans (show _ = true by assumption)) (by decide) | exact absurd ((Eq.symm _h).trans (show _ = false by assumption)) (by decide) | (conv => whnf)))))
  · refine ⟨[0], [(0, ringOb n n0)], .d (nat zs), ⟨rfl, ⟨⟨by decide, rfl⟩, trivial⟩, rfl⟩, rfl, rfl, zs, rfl, by rw [hzl, hl], hz, ?_⟩
    have : c = 0 := by omega
    subst this
    rw [if_pos (.inr (by have := val_nonneg hz; omega)), ← hl, mod_of hz hzl hv]
  · refine ⟨[0], [(0, ringOb n n0)], .d (nat x), ⟨rfl, ⟨⟨by decide, rfl⟩, trivial⟩, rfl⟩, rfl, rfl, x, rfl, hl, hx, ?_⟩
    rw [if_neg]
    have h1 := val_lt hz
    rw [hzl] at h1
    have : over = false := by assumption
    subst this
    subst c
    simp; omega
  · refine ⟨[0], [(0, ringOb n n0)], .d (nat zs), ⟨rfl, ⟨⟨by decide, rfl⟩, trivial⟩, rfl⟩, rfl, rfl, zs, rfl, by rw [hzl, hl], hz, ?_⟩
    rw [if_pos (.inl (by assumption)), ← hl, mod_of hz hzl hv]

theorem f28o (n : List Int) (n0 : Int) (x : List Int) (hn : wfl n) (hx : wfl x) (hbn : bad n = false) (hl : x.length = n.length) (hv : val x < val n) :
    CSpec Tryd.prog 58 [.optr 0 0, .d (nat x)] [(0, ringOb n n0)] 1 (fun st nx r => st = [(0, ringOb n n0)] ∧ nx = 1 ∧ ∃ z, r = .d (nat z) ∧ z.length = n.length ∧ wfl z ∧ val z = (2 * val x) % val n) := by
  have hbx : bad x = false := by unfold bad at hbn ⊢; rw [hl]; exact hbn
  refine CSpec.ends (CSpec.of_awp told41o [] Tryd.func58 rfl (by decide) (Nat.le_of_ble_eq_true rfl) fun _w0 _S0 _E0 _B0 => ?_)
  ((conv => whnf); repeat' (first | (refine And.intro ?_ ?_; (focus (first | rfl | decide | assumption | omega | decide +kernel | exact ⟨rfl, rfl⟩ | exact ⟨rfl, rfl, rfl, rfl⟩ | exact fun h => Bool.noConfusion h | exact fun _ => rfl | exact Nat.le_of_ble_eq_true rfl | (simp only [List.length_map, List.length_append, List.length_replicate, List.length_take, List.length_drop, List.length_set, List.length_cons, List.length_nil]; omega))); (conv => whnf)) | ((refine And.intro ?_ ?_ <;> intro _h); all_goals ((first | replace _h := of_decide_eq_true _h | replace _h := of_decide_eq_false _h | skip); (try simp only [Bool.not_eq_true', Bool.not_eq_false', Bool.not_true, Bool.not_false, decide_eq_true_eq, decide_eq_false_iff_not] at _h); (try (guard_hyp _h : True; clear _h)); first | done | contradiction | exact absurd ((Eq.symm _h).trans (show _ = true by assumption)) (by decide) | exact absurd ((Eq.symm _h).trans (show _ = false by assumption)) (by decide) | (conv => whnf))) | (intro _h; ((first | replace _h := of_decide_eq_true _h | replace _h := of_decide_eq_false _h | skip); (try simp only [Bool.not_eq_true', Bool.not_eq_false', Bool.not_true, Bool.not_false, decide_eq_true_eq, decide_eq_false_iff_not] at _h); (try (guard_hyp _h : True; clear _h)); first | done | contradiction | exact absurd ((Eq.symm _h).trans (show _ = true by assumption)) (by decide) | exact absurd ((Eq.symm _h).trans (show _ = false by assumption)) (by decide) | (conv => whnf)))))
  refine acallI (f40 x x hx hx) rfl fun r hr => ?_
  rw [if_neg (by simp [hbx])] at hr
  obtain ⟨zs, c, rfl, hzl, hz, hc, hvz⟩ := hr
  ((conv => whnf); repeat' (first | (refine And.intro ?_ ?_; (focus (first | rfl | decide | assumption | omega | decide +kernel | exact ⟨rfl, rfl⟩ | exact ⟨rfl, rfl, rfl, rfl⟩ | exact fun h => Bool.noConfusion h | exact fun _ => rfl | exact Nat.le_of_ble_eq_true rfl | (simp only [List.length_map, List.length_append, List.length_replicate, List.length_take, List.length_drop, List.length_set, List.length_cons, List.length_nil]; omega))); (conv => whnf)) | ((refine And.intro ?_ ?_ <;> intro _h); all_goals ((first | replace _h := of_decide_eq_true _h | replace _h := of_decide_eq_false _h | skip); (try simp only [Bool.not_eq_true', Bool.not_eq_false', Bool.not_true, Bool.not_false, decide_eq_true_eq, decide_eq_false_iff_not] at _h); (try (guard_hyp _h : True; clear _h)); first | done | contradiction | exact absurd ((Eq.symm _h).trans (show _ = true by assumption)) (by decide) | exact absurd ((Eq.symm _h).trans (show _ = false by assumption)) (by decide) | (conv => whnf))) | (intro _h; ((first | replace _h := of_decide_eq_true _h | replace _h := of_decide_eq_false _h | skip); (try simp only [Bool.not_eq_true', Bool.not_eq_false', Bool.not_true, Bool.not_false, decide_eq_true_eq, decide_eq_false_iff_not] at _h); (try (guard_hyp _h : True; clear _h)); first | done | contradiction | exact absurd ((Eq.symm _h).trans (show _ = true by assumption)) (by decide) | exact absurd ((Eq.symm _h).trans (show _ = false by assumption)) (by decide) | (conv => whnf)))))
  refine acall [0] (f41o n n0 zs (decide (c = 1)) hn hz hbn (by omega)) rfl ⟨⟨by decide, rfl⟩, trivial⟩ rfl (fun h => Bool.noConfusion h) fun st nx r hr => ?_
  obtain ⟨rfl, rfl, z, rfl, hz1, hz2, hz3⟩ := hr
  ((conv => whnf); repeat' (first | (refine And.intro ?_ ?_; (focus (first | rfl | decide | assumption | omega | decide +kernel | exact ⟨rfl, rfl⟩ | exact ⟨rfl, rfl, rfl, rfl⟩ | exact fun h => Bool.noConfusion h | exact fun _ => rfl | exact Nat.le_of_ble_eq_true rfl | (simp only [List.length_map, List.length_append, List.length_replicate, List.length_take, List.length_drop, List.length_set, List.length_cons, List.length_nil]; omega))); (conv => whnf)) | ((refine And.intro ?_ ?_ <;> intro _h); all_goals ((first | replace _h := of_decide_eq_true _h | replace _h := of_decide_eq_false _h | skip); (try simp only [Bool.not_eq_true', Bool.not_eq_false', Bool.not_true, Bool.not_false, decide_eq_true_eq, decide_eq_false_iff_not] at _h); (try (guard_hyp _h : True; clear _h)); first | done | contradiction | exact absurd ((Eq.symm _h).trans (show _ = true by assumption)) (by decide) | exact absurd ((Eq.symm _h).trans (show _ = false by assumption)) (by decide) | (conv => whnf))) | (intro _h; ((first | replace _h := of_decide_eq_true _h | replace _h := of_decide_eq_false _h | skip); (try simp only [Bool.not_eq_true', Bool.not_eq_false', Bool.not_true, Bool.not_false, decide_eq_true_eq, decide_eq_false_iff_not] at _h); (try (guard_hyp _h : True; clear _h)); first | done | contradiction | exact absurd ((Eq.symm _h).trans (show _ = true by assumption)) (by decide) | exact absurd ((Eq.symm _h).trans (show _ = false by assumption)) (by decide) | (conv => whnf)))))
  exact ⟨[0], [(0, ringOb n n0)], .d (nat z), ⟨rfl, ⟨⟨by decide, rfl⟩, trivial⟩, rfl⟩, rfl, rfl, z, rfl, hz1, hz2, dbl hn hx hl hv hzl hz hc hvz hz1 hz2 hz3⟩

/-! ### An odd number's inverse -/
theorem inv_step {m y : Int} (j j' : Nat) (h : (m * y - 1) % 2 ^ j = 0) (h1 : j' ≤ 2 * j) (h2 : j' ≤ 32) :
    (m * ((y * ((2 - (m * y) % 4294967296) % 4294967296)) % 4294967296) - 1) % 2 ^ j' = 0 := by
  have hd : ∀ z : Int, ∃ q, z % 4294967296 = z - 4294967296 * q := fun z => ⟨z / 4294967296, by omega⟩
  obtain ⟨q1, e1⟩ := hd (m * y)
  obtain ⟨q2, e2⟩ := hd (2 - (m * y) % 4294967296)
  obtain ⟨q3, e3⟩ := hd (y * ((2 - (m * y) % 4294967296) % 4294967296))
  obtain ⟨t, ht⟩ : ∃ t, m * y - 1 = 2 ^ j * t := ⟨(m * y - 1) / 2 ^ j, by have := Int.mul_ediv_add_emod (m * y - 1) (2 ^ j); omega⟩
  obtain ⟨a, ha⟩ : ∃ a : Nat, 2 * j = j' + a := ⟨2 * j - j', by omega⟩
  obtain ⟨b, hb⟩ : ∃ b : Nat, 32 = j' + b := ⟨32 - j', by omega⟩
  have p1 : (2 : Int) ^ j * 2 ^ j = 2 ^ j' * 2 ^ a := by rw [← Int.pow_add, ← Int.pow_add, ← ha]; congr 1; omega
  have p2 : (4294967296 : Int) = 2 ^ j' * 2 ^ b := by rw [← Int.pow_add, ← hb]; rfl
  rw [e3, e2, e1]
  generalize (2 : Int) ^ j = P at *
  generalize (2 : Int) ^ j' = R at *
  generalize (2 : Int) ^ a = A at *
  generalize (2 : Int) ^ b = B at *
  generalize (4294967296 : Int) = W at *
  have : m * (y * (2 - (m * y - W * q1) - W * q2) - W * q3) - 1 = R * (-(A * t * t) + B * (m * y * q1 - m * y * q2 - m * q3)) := by
    have hm : m * y = 1 + P * t := by omega
    have e : m * (y * (2 - (m * y - W * q1) - W * q2) - W * q3) - 1 = (m * y) * (2 - (m * y)) - 1 + W * (m * y * q1 - m * y * q2 - m * q3) := by grind
    rw [e, p2, hm]
    have e4 : (1 + P * t) * (2 - (1 + P * t)) - 1 = -(P * P * (t * t)) := by grind
    rw [e4, p1]
    grind
  rw [this, Int.mul_emod_right]

def jj (k : Nat) : Nat := [3, 6, 12, 24, 32, 32].getD k 0
theorem jj_step {k : Nat} (h : k < 5) : jj (k + 1) ≤ 2 * jj k ∧ jj (k + 1) ≤ 32 := by
  have : ∀ k : Fin 5, jj (k.val + 1) ≤ 2 * jj k.val ∧ jj (k.val + 1) ≤ 32 := by decide
  exact this ⟨k, h⟩

def told11 : AW.Told := ⟨fun f => f == 58, fun r i => if r == 10 && i == 4 then [42] else if r == 13 && i == 0 then [6] else [], fun _ => .done⟩

theorem odd_sq {m : Int} (h : m % 2 = 1) : (m * m - 1) % 2 ^ 3 = 0 := by
  obtain ⟨k, rfl⟩ : ∃ k, m = 2 * k + 1 := ⟨m / 2, by omega⟩
  have e : (2 * k + 1) * (2 * k + 1) - 1 = 4 * (k * (k + 1)) := by grind
  obtain ⟨j, hj⟩ : ∃ j, k * (k + 1) = 2 * j := by
    rcases (show k % 2 = 0 ∨ k % 2 = 1 by omega) with h | h
    · exact ⟨(k / 2) * (k + 1), by have : k = 2 * (k / 2) := by omega
                                   generalize k / 2 = q at *; subst this; grind⟩
    · exact ⟨k * ((k + 1) / 2), by have : k + 1 = 2 * ((k + 1) / 2) := by omega
                                   generalize (k + 1) / 2 = q at *; rw [this]; grind⟩
  rw [e, hj]
  omega

theorem two_small {n : List Int} (hn : wfl n) : blen (val n).toNat < 2 ↔ val n < 2 := by
  have := blen_le (val n).toNat 1
  have := val_nonneg hn
  omega

theorem double_pow {x N : Int} {k : Nat} (h : x = 2 ^ k % N) : 2 * x % N = 2 ^ (k + 1) % N := by
  subst h
  rw [Int.pow_succ, Int.mul_comm, Int.mul_emod, Int.emod_emod_of_dvd _ (Int.dvd_refl _), ← Int.mul_emod]

theorem f11 (n : List Int) (hn : wfl n) : Imm Tryd.prog 25 [.d (nat n)] (fun r =>
    if n.length < 1 ∨ 128 < n.length then r = .tup [.d .nilp, i64 24]
    else if n.getD 0 0 % 2 = 0 ∨ val n < 2 then r = .tup [.d .nilp, i64 12]
    else ∃ n0 rr, r = .tup [.d (ringD n n0 rr), i64 0] ∧ Ring n n0 rr) := by
  have h00 := hn.get 0
  have ht : (n.getD 0 0).tmod 2 = n.getD 0 0 % 2 := Int.tmod_eq_emod_of_nonneg h00.1
  (refine Imm.of_awp told11 [5] Tryd.func25 rfl (by decide) (Nat.le_of_ble_eq_true rfl) ?_; intro _w0 _S0 _E0 _B0; ((conv => whnf); repeat' (first | (refine And.intro ?_ ?_; (focus (first | rfl | decide | assumption | omega | decide +kernel | exact ⟨rfl, rfl⟩ | exact ⟨rfl, rfl, rfl, rfl⟩ | exact fun h => Bool.noConfusion h | exact fun _ => rfl | exact Nat.le_of_ble_eq_true rfl | (simp only [List.length_map, List.length_append, List.length_replicate, List.length_take, List.length_drop, List.length_set, List.length_cons, List.length_nil]; omega))); (conv => whnf)) | ((refine And.intro ?_ ?_ <;> intro _h); all_goals ((first | replace _h := of_decide_eq_true _h | replace _h := of_decide_eq_false _h | skip); (try simp only [Bool.not_eq_true', Bool.not_eq_false', Bool.not_true, Bool.not_false, decide_eq_true_eq, decide_eq_false_iff_not] at _h); (try (guard_hyp _h : True; clear _h)); first | done | contradiction | exact absurd ((Eq.symm _h).trans (show _ = true by assumption)) (by decide) | exact absurd ((Eq.symm _h).trans (show _ = false by assumption)) (by decide) | (conv => whnf))) | (intro _h; ((first | replace _h := of_decide_eq_true _h | replace _h := of_decide_eq_false _h | skip); (try simp only [Bool.not_eq_true', Bool.not_eq_false', Bool.not_true, Bool.not_false, decide_eq_true_eq, decide_eq_false_iff_not] at _h); (try (guard_hyp _h : True; clear _h)); first | done | contradiction | exact absurd ((Eq.symm _h).trans (show _ = true by assumption)) (by decide) | exact absurd ((Eq.symm _h).trans (show _ = false by assumption)) (by decide) | (conv => whnf))))))
  · exact Ends.imm rfl (by rw [if_pos (.inr (by omega))])
  · rename_i h1 h2 _ _
    have hlen : ¬ (n.length < 1 ∨ 128 < n.length) := by omega
    have hbn : bad n = false := by unfold bad; rw [Bool.or_eq_false_iff, decide_eq_false_iff_not, decide_eq_false_iff_not]; omega
    have hne : ¬ (n.getD 0 0 % 2 = 0) := by rw [← ht]; exact _h
    refine acallI (f24 n hn) rfl fun r hr => ?_
    rw [if_neg (by simp [hbn])] at hr
    subst hr
    have h2s := two_small hn
    ((conv => whnf); repeat' (first | (refine And.intro ?_ ?_; (focus (first | rfl | decide | assumption | omega | decide +kernel | exact ⟨rfl, rfl⟩ | exact ⟨rfl, rfl, rfl, rfl⟩ | exact fun h => Bool.noConfusion h | exact fun _ => rfl | exact Nat.le_of_ble_eq_true rfl | (simp only [List.length_map, List.length_append, List.length_replicate, List.length_take, List.length_drop, List.length_set, List.length_cons, List.length_nil]; omega))); (conv => whnf)) | ((refine And.intro ?_ ?_ <;> intro _h); all_goals ((first | replace _h := of_decide_eq_true _h | replace _h := of_decide_eq_false _h | skip); (try simp only [Bool.not_eq_true', Bool.not_eq_false', Bool.not_true, Bool.not_false, decide_eq_true_eq, decide_eq_false_iff_not] at _h); (try (guard_hyp _h : True; clear _h)); first | done | contradiction | exact absurd ((Eq.symm _h).trans (show _ = true by assumption)) (by decide) | exact absurd ((Eq.symm _h).trans (show _ = false by assumption)) (by decide) | (conv => whnf))) | (intro _h; ((first | replace _h := of_decide_eq_true _h | replace _h := of_decide_eq_false _h | skip); (try simp only [Bool.not_eq_true', Bool.not_eq_false', Bool.not_true, Bool.not_false, decide_eq_true_eq, decide_eq_false_iff_not] at _h); (try (guard_hyp _h : True; clear _h)); first | done | contradiction | exact absurd ((Eq.symm _h).trans (show _ = true by assumption)) (by decide) | exact absurd ((Eq.symm _h).trans (show _ = false by assumption)) (by decide) | (conv => whnf)))))
    · exact Ends.imm rfl (by rw [if_neg hlen, if_pos (.inr (by omega))])
    · rename_i _ hbl
      have hv : ¬ val n < 2 := by omega
      have hodd : n.getD 0 0 % 2 = 1 := by omega
      refine aloop (T := told11) (ι := Nat × Int) (fun p => [(0, .d (nat n)), (4, u32 p.2), (30, i64 p.1)]) (fun _ => []) 66 0 (fun p => 5 - p.1) (fun p => p.1 ≤ 5 ∧ (0 ≤ p.2 ∧ p.2 < 4294967296) ∧ (n.getD 0 0 * p.2 - 1) % 2 ^ jj p.1 = 0)
        ⟨(0, n.getD 0 0), [], rfl, ⟨by omega, h00, odd_sq hodd⟩, by (refine ⟨rfl, rfl, ?_, ?_⟩ <;> repeat' (first | exact True.intro | rfl | decide | (refine And.intro ?_ ?_)))⟩ ?_
      intro ⟨k, y⟩ ⟨hk, hy, hinv⟩
      dsimp only at hk hy hinv ⊢
      ((conv => whnf); repeat' (first | (refine And.intro ?_ ?_; (focus (first | rfl | decide | assumption | omega | decide +kernel | exact ⟨rfl, rfl⟩ | exact ⟨rfl, rfl, rfl, rfl⟩ | exact fun h => Bool.noConfusion h | exact fun _ => rfl | exact Nat.le_of_ble_eq_true rfl | (simp only [List.length_map, List.length_append, List.length_replicate, List.length_take, List.length_drop, List.length_set, List.length_cons, List.length_nil]; omega))); (conv => whnf)) | ((refine And.intro ?_ ?_ <;> intro _h); all_goals ((first | replace _h := of_decide_eq_true _h | replace _h := of_decide_eq_false _h | skip); (try simp only [Bool.not_eq_true', Bool.not_eq_false', Bool.not_true, Bool.not_false, decide_eq_true_eq, decide_eq_false_iff_not] at _h); (try (guard_hyp _h : True; clear _h)); first | done | contradiction | exact absurd ((Eq.symm _h).trans (show _ = true by assumption)) (by decide) | exact absurd ((Eq.symm _h).trans (show _ = false by assumption)) (by decide) | (conv => whnf))) | (intro _h; ((first | replace _h := of_decide_eq_true _h | replace _h := of_decide_eq_false _h | skip); (try simp only [Bool.not_eq_true', Bool.not_eq_false', Bool.not_true, Bool.not_false, decide_eq_true_eq, decide_eq_false_iff_not] at _h); (try (guard_hyp _h : True; clear _h)); first | done | contradiction | exact absurd ((Eq.symm _h).trans (show _ = true by assumption)) (by decide) | exact absurd ((Eq.symm _h).trans (show _ = false by assumption)) (by decide) | (conv => whnf)))))
      · have hst := inv_step (jj k) (jj (k + 1)) hinv (jj_step (by omega)).1 (jj_step (by omega)).2
        refine ⟨(k + 1, (y * ((2 - (n.getD 0 0 * y) % 4294967296) % 4294967296)) % 4294967296), [], by dsimp only; omega, ⟨by dsimp only; omega, by dsimp only; omega, hst⟩, rfl, ?_⟩
        (refine ⟨rfl, rfl, ?_, ?_⟩ <;> repeat' (first | exact True.intro | rfl | decide | (refine And.intro ?_ ?_)))
        refine di ?_
        rw [wrap_i64 (by omega) (by omega)]; rfl
      · have hk5 : k = 5 := by omega
        subst hk5
        refine acall [] (f27 n (by intro e; subst e; simp at hlen) (by omega)) rfl trivial rfl (fun h => rfl) fun st nx r hr => ?_
        obtain ⟨rfl, rfl, rfl⟩ := hr
        ((conv => whnf); repeat' (first | (refine And.intro ?_ ?_; (focus (first | rfl | decide | assumption | omega | decide +kernel | exact ⟨rfl, rfl⟩ | exact ⟨rfl, rfl, rfl, rfl⟩ | exact fun h => Bool.noConfusion h | exact fun _ => rfl | exact Nat.le_of_ble_eq_true rfl | (simp only [List.length_map, List.length_append, List.length_replicate, List.length_take, List.length_drop, List.length_set, List.length_cons, List.length_nil]; omega))); (conv => whnf)) | ((refine And.intro ?_ ?_ <;> intro _h); all_goals ((first | replace _h := of_decide_eq_true _h | replace _h := of_decide_eq_false _h | skip); (try simp only [Bool.not_eq_true', Bool.not_eq_false', Bool.not_true, Bool.not_false, decide_eq_true_eq, decide_eq_false_iff_not] at _h); (try (guard_hyp _h : True; clear _h)); first | done | contradiction | exact absurd ((Eq.symm _h).trans (show _ = true by assumption)) (by decide) | exact absurd ((Eq.symm _h).trans (show _ = false by assumption)) (by decide) | (conv => whnf))) | (intro _h; ((first | replace _h := of_decide_eq_true _h | replace _h := of_decide_eq_false _h | skip); (try simp only [Bool.not_eq_true', Bool.not_eq_false', Bool.not_true, Bool.not_false, decide_eq_true_eq, decide_eq_false_iff_not] at _h); (try (guard_hyp _h : True; clear _h)); first | done | contradiction | exact absurd ((Eq.symm _h).trans (show _ = true by assumption)) (by decide) | exact absurd ((Eq.symm _h).trans (show _ = false by assumption)) (by decide) | (conv => whnf)))))
        · have hn0 : (0 : Int) ≤ (0 - y) % 4294967296 ∧ (0 - y) % 4294967296 < 4294967296 := by omega
          obtain ⟨n0, en0⟩ : ∃ n0, n0 = (0 - y) % 4294967296 := ⟨_, rfl⟩
          refine aloop (T := told11) (ι := Nat × List Int) (fun p => [(0, .d (nat n)), (5, .optr 0 0), (6, .d (nat p.2)), (54, i64 ((64 * n.length : Nat) : Int)), (55, i64 p.1)]) (fun _ => [(0, ringOb n n0)]) 66 1
            (fun p => 64 * n.length - p.1) (fun p => p.1 ≤ 64 * n.length ∧ p.2.length = n.length ∧ wfl p.2 ∧ val p.2 = 2 ^ p.1 % val n)
            ⟨(0, oneL n.length), [1], rfl, ⟨by omega, oneL_len _, oneL_wf _, by rw [oneL_val (by omega)]; simp; rw [Int.emod_eq_of_lt] <;> omega⟩, by
              (refine ⟨rfl, rfl, ?_, ?_⟩ <;> repeat' (first | exact True.intro | rfl | decide | (refine And.intro ?_ ?_)))
              · refine di ?_
                rw [wrap_i64 (by omega) (by omega)]; simp
              · rw [en0]; rfl⟩ ?_
          intro ⟨k, x⟩ ⟨hk2, hxl, hx, hxv⟩
          dsimp only at hk2 hxl hx hxv ⊢
          have hxlt : val x < val n := by rw [hxv]; exact Int.emod_lt_of_pos _ (by omega)
          ((conv => whnf); repeat' (first | (refine And.intro ?_ ?_; (focus (first | rfl | decide | assumption | omega | decide +kernel | exact ⟨rfl, rfl⟩ | exact ⟨rfl, rfl, rfl, rfl⟩ | exact fun h => Bool.noConfusion h | exact fun _ => rfl | exact Nat.le_of_ble_eq_true rfl | (simp only [List.length_map, List.length_append, List.length_replicate, List.length_take, List.length_drop, List.length_set, List.length_cons, List.length_nil]; omega))); (conv => whnf)) | ((refine And.intro ?_ ?_ <;> intro _h); all_goals ((first | replace _h := of_decide_eq_true _h | replace _h := of_decide_eq_false _h | skip); (try simp only [Bool.not_eq_true', Bool.not_eq_false', Bool.not_true, Bool.not_false, decide_eq_true_eq, decide_eq_false_iff_not] at _h); (try (guard_hyp _h : True; clear _h)); first | done | contradiction | exact absurd ((Eq.symm _h).trans (show _ = true by assumption)) (by decide) | exact absurd ((Eq.symm _h).trans (show _ = false by assumption)) (by decide) | (conv => whnf))) | (intro _h; ((first | replace _h := of_decide_eq_true _h | replace _h := of_decide_eq_false _h | skip); (try simp only [Bool.not_eq_true', Bool.not_eq_false', Bool.not_true, Bool.not_false, decide_eq_true_eq, decide_eq_false_iff_not] at _h); (try (guard_hyp _h : True; clear _h)); first | done | contradiction | exact absurd ((Eq.symm _h).trans (show _ = true by assumption)) (by decide) | exact absurd ((Eq.symm _h).trans (show _ = false by assumption)) (by decide) | (conv => whnf)))))
          · refine acall [0] (f28o n n0 x hn hx hbn hxl hxlt) rfl ⟨⟨by decide, rfl⟩, trivial⟩ rfl (fun h => Bool.noConfusion h) fun st nx r hr => ?_
            obtain ⟨rfl, rfl, z, rfl, hz1, hz2, hz3⟩ := hr
            ((conv => whnf); repeat' (first | (refine And.intro ?_ ?_; (focus (first | rfl | decide | assumption | omega | decide +kernel | exact ⟨rfl, rfl⟩ | exact ⟨rfl, rfl, rfl, rfl⟩ | exact fun h => Bool.noConfusion h | exact fun _ => rfl | exact Nat.le_of_ble_eq_true rfl | (simp only [List.length_map, List.length_append, List.length_replicate, List.length_take, List.length_drop, List.length_set, List.length_cons, List.length_nil]; omega))); (conv => whnf)) | ((refine And.intro ?_ ?_ <;> intro _h); all_goals ((first | replace _h := of_decide_eq_true _h | replace _h := of_decide_eq_false _h | skip); (try simp only [Bool.not_eq_true', Bool.not_eq_false', Bool.not_true, Bool.not_false, decide_eq_true_eq, decide_eq_false_iff_not] at _h); (try (guard_hyp _h : True; clear _h)); first | done | contradiction | exact absurd ((Eq.symm _h).trans (show _ = true by assumption)) (by decide) | exact absurd ((Eq.symm _h).trans (show _ = false by assumption)) (by decide) | (conv => whnf))) | (intro _h; ((first | replace _h := of_decide_eq_true _h | replace _h := of_decide_eq_false _h | skip); (try simp only [Bool.not_eq_true', Bool.not_eq_false', Bool.not_true, Bool.not_false, decide_eq_true_eq, decide_eq_false_iff_not] at _h); (try (guard_hyp _h : True; clear _h)); first | done | contradiction | exact absurd ((Eq.symm _h).trans (show _ = true by assumption)) (by decide) | exact absurd ((Eq.symm _h).trans (show _ = false by assumption)) (by decide) | (conv => whnf)))))
            refine ⟨(k + 1, z), [0], by dsimp only; omega, ⟨by dsimp only; omega, hz1, hz2, by rw [hz3]; exact double_pow hxv⟩, rfl, ?_⟩
            (refine ⟨rfl, rfl, ?_, ?_⟩ <;> repeat' (first | exact True.intro | rfl | decide | (refine And.intro ?_ ?_)))
            refine di ?_
            rw [wrap_i64 (by omega) (by omega)]; rfl
          · have hke : k = 64 * n.length := by omega
            subst hke
            refine Ends.imm rfl ?_
            rw [if_neg hlen, if_neg (by omega)]
            refine ⟨n0, x, rfl, hn, hbn, by omega, ?_, hx, hxl, hxlt, by omega, 2 ^ (64 * n.length) / val n, ?_⟩
            · have e1 : jj 5 = 32 := rfl
              rw [e1] at hinv
              subst en0
              have : (2 : Int) ^ 32 = 4294967296 := rfl
              rw [this] at hinv
              obtain ⟨q, hq⟩ : ∃ q, n.getD 0 0 * y - 1 = 4294967296 * q := ⟨(n.getD 0 0 * y - 1) / 4294967296, by omega⟩
              obtain ⟨p, hp⟩ : ∃ p, (0 - y) % 4294967296 = 0 - y - 4294967296 * p := ⟨(0 - y) / 4294967296, by omega⟩
              rw [hp]
              have : n.getD 0 0 * (0 - y - 4294967296 * p) + 1 = 4294967296 * (-q - n.getD 0 0 * p) := by grind
              rw [this, Int.mul_emod_right]
            · rw [hxv, pw_two, ← Int.pow_add]
              have := Int.emod_add_mul_ediv (2 ^ (64 * n.length)) (val n)
              rw [show 32 * n.length + 32 * n.length = 64 * n.length by omega]
              rw [Int.mul_comm (2 ^ (64 * n.length) / val n)]
              omega
  · exact Ends.imm rfl (by rw [if_neg (by omega), if_pos (.inl (by rw [← ht]; assumption))])
  · exact Ends.imm rfl (by rw [if_pos (.inl (by omega))])

theorem f13 (n : List Int) (n0 : Int) (rr : List Int) (h0 : 0 ≤ n0 ∧ n0 < 4294967296) : Imm Tryd.prog 65 [.d (ringD n n0 rr)] (fun r => r = i64 n0) := by
  (refine Imm.of_awp told0 [] Tryd.func65 rfl (by decide) (Nat.le_of_ble_eq_true rfl) ?_; intro _w0 _S0 _E0 _B0; ((conv => whnf); repeat' (first | (refine And.intro ?_ ?_; (focus (first | rfl | decide | assumption | omega | decide +kernel | exact ⟨rfl, rfl⟩ | exact ⟨rfl, rfl, rfl, rfl⟩ | exact fun h => Bool.noConfusion h | exact fun _ => rfl | exact Nat.le_of_ble_eq_true rfl | (simp only [List.length_map, List.length_append, List.length_replicate, List.length_take, List.length_drop, List.length_set, List.length_cons, List.length_nil]; omega))); (conv => whnf)) | ((refine And.intro ?_ ?_ <;> intro _h); all_goals ((first | replace _h := of_decide_eq_true _h | replace _h := of_decide_eq_false _h | skip); (try simp only [Bool.not_eq_true', Bool.not_eq_false', Bool.not_true, Bool.not_false, decide_eq_true_eq, decide_eq_false_iff_not] at _h); (try (guard_hyp _h : True; clear _h)); first | done | contradiction | exact absurd ((Eq.symm _h).trans (show _ = true by assumption)) (by decide) | exact absurd ((Eq.symm _h).trans (show _ = false by assumption)) (by decide) | (conv => whnf))) | (intro _h; ((first | replace _h := of_decide_eq_true _h | replace _h := of_decide_eq_false _h | skip); (try simp only [Bool.not_eq_true', Bool.not_eq_false', Bool.not_true, Bool.not_false, decide_eq_true_eq, decide_eq_false_iff_not] at _h); (try (guard_hyp _h : True; clear _h)); first | done | contradiction | exact absurd ((Eq.symm _h).trans (show _ = true by assumption)) (by decide) | exact absurd ((Eq.symm _h).trans (show _ = false by assumption)) (by decide) | (conv => whnf))))))
  exact Ends.imm rfl (di (wrap_i64 (by omega) (by omega)))

theorem f15 (n : List Int) (n0 : Int) (rr : List Int) (hne : rr ≠ []) (hl : rr.length ≤ 1000000) : Imm Tryd.prog 66 [.d (ringD n n0 rr)] (fun r => r = .d (nat rr)) := by
  (refine Imm.of_awp told0 [2] Tryd.func66 rfl (by decide) (Nat.le_of_ble_eq_true rfl) ?_; intro _w0 _S0 _E0 _B0; ((conv => whnf); repeat' (first | (refine And.intro ?_ ?_; (focus (first | rfl | decide | assumption | omega | decide +kernel | exact ⟨rfl, rfl⟩ | exact ⟨rfl, rfl, rfl, rfl⟩ | exact fun h => Bool.noConfusion h | exact fun _ => rfl | exact Nat.le_of_ble_eq_true rfl | (simp only [List.length_map, List.length_append, List.length_replicate, List.length_take, List.length_drop, List.length_set, List.length_cons, List.length_nil]; omega))); (conv => whnf)) | ((refine And.intro ?_ ?_ <;> intro _h); all_goals ((first | replace _h := of_decide_eq_true _h | replace _h := of_decide_eq_false _h | skip); (try simp only [Bool.not_eq_true', Bool.not_eq_false', Bool.not_true, Bool.not_false, decide_eq_true_eq, decide_eq_false_iff_not] at _h); (try (guard_hyp _h : True; clear _h)); first | done | contradiction | exact absurd ((Eq.symm _h).trans (show _ = true by assumption)) (by decide) | exact absurd ((Eq.symm _h).trans (show _ = false by assumption)) (by decide) | (conv => whnf))) | (intro _h; ((first | replace _h := of_decide_eq_true _h | replace _h := of_decide_eq_false _h | skip); (try simp only [Bool.not_eq_true', Bool.not_eq_false', Bool.not_true, Bool.not_false, decide_eq_true_eq, decide_eq_false_iff_not] at _h); (try (guard_hyp _h : True; clear _h)); first | done | contradiction | exact absurd ((Eq.symm _h).trans (show _ = true by assumption)) (by decide) | exact absurd ((Eq.symm _h).trans (show _ = false by assumption)) (by decide) | (conv => whnf))))))
  refine acall [] (f27 rr hne hl) rfl trivial rfl (fun h => rfl) fun st nx r hr => ?_
  obtain ⟨rfl, rfl, rfl⟩ := hr
  ((conv => whnf); repeat' (first | (refine And.intro ?_ ?_; (focus (first | rfl | decide | assumption | omega | decide +kernel | exact ⟨rfl, rfl⟩ | exact ⟨rfl, rfl, rfl, rfl⟩ | exact fun h => Bool.noConfusion h | exact fun _ => rfl | exact Nat.le_of_ble_eq_true rfl | (simp only [List.length_map, List.length_append, List.length_replicate, List.length_take, List.length_drop, List.length_set, List.length_cons, List.length_nil]; omega))); (conv => whnf)) | ((refine And.intro ?_ ?_ <;> intro _h); all_goals ((first | replace _h := of_decide_eq_true _h | replace _h := of_decide_eq_false _h | skip); (try simp only [Bool.not_eq_true', Bool.not_eq_false', Bool.not_true, Bool.not_false, decide_eq_true_eq, decide_eq_false_iff_not] at _h); (try (guard_hyp _h : True; clear _h)); first | done | contradiction | exact absurd ((Eq.symm _h).trans (show _ = true by assumption)) (by decide) | exact absurd ((Eq.symm _h).trans (show _ = false by assumption)) (by decide) | (conv => whnf))) | (intro _h; ((first | replace _h := of_decide_eq_true _h | replace _h := of_decide_eq_false _h | skip); (try simp only [Bool.not_eq_true', Bool.not_eq_false', Bool.not_true, Bool.not_false, decide_eq_true_eq, decide_eq_false_iff_not] at _h); (try (guard_hyp _h : True; clear _h)); first | done | contradiction | exact absurd ((Eq.symm _h).trans (show _ = true by assumption)) (by decide) | exact absurd ((Eq.symm _h).trans (show _ = false by assumption)) (by decide) | (conv => whnf)))))
  exact Ends.imm rfl rfl

/-- A number, moved up by one digit. -/
def shl (n k : Nat) (r : List Int) : List Int := r.take (k + 1) ++ (r.drop k).take (n - 1 - k)

def told16 : AW.Told := ⟨fun f => f == 83, fun r i => if r == 7 && i == 5 then [25] else if r == 21 && i == 0 then [6] else [], fun _ => .done⟩


/-- Bytes. -/
abbrev byt (xs : List Int) : D := .ints .u8 xs

def sized (n : Nat) : Bool := decide (64 ≤ n) && decide (n ≤ 512) && decide (n % 64 = 0)

theorem k_sized (n : Nat) (hn : n ≤ LIM) : Imm Tryd.prog 46 [i64 n] (fun r => r = bool (sized n)) := by
  have e : ((n : Int).tmod 64 = 0) ↔ n % 64 = 0 := by rw [Int.tmod_eq_emod_of_nonneg (by omega)]; omega
  (refine Imm.of_awp told0 [] Tryd.func46 rfl (by decide) (Nat.le_of_ble_eq_true rfl) ?_; intro _w0 _S0 _E0 _B0; ((conv=>whnf);repeat'((first|(show(_=true→_)∧(_=false→_);first|refine nTt ?_|refine nFf ?_|refine gS ?_ ?_<;>(intro _h;try contradiction))|(show(_=false→_)∧(_=true→_);first|refine nU ?_|refine nV ?_|refine gZ ?_ ?_<;>(intro _h;try contradiction))|(intro _h;try contradiction)|(show _∧_;refine gA ?_)|fail);all_goals conv=>whnf)))
  · refine Ends.imm rfl ?_
    have h1 : 64 ≤ n := by omega
    have h2 : n ≤ 512 := by omega
    simp [sized, e, h1, h2]
  · refine Ends.imm rfl ?_
    have h2 : ¬ n ≤ 512 := by omega
    simp [sized, h2]
  · refine Ends.imm rfl ?_
    have h2 : ¬ 64 ≤ n := by omega
    simp [sized, h2]

def keyD (m n : List Int) (n0 : Int) (rr : List Int) : D := .ptr (.agg [byt m, ringD n n0 rr])

theorem k_size (m n : List Int) (n0 : Int) (rr : List Int) : Imm Tryd.prog 34 [.d (keyD m n n0 rr)] (fun r => r = i64 m.length) := by
  (refine Imm.of_awp told0 [] Tryd.func34 rfl (by decide) (Nat.le_of_ble_eq_true rfl) ?_; intro _w0 _S0 _E0 _B0; ((conv=>whnf);repeat'((first|(show(_=true→_)∧(_=false→_);first|refine nTt ?_|refine nFf ?_|refine gS ?_ ?_<;>(intro _h;try contradiction))|(show(_=false→_)∧(_=true→_);first|refine nU ?_|refine nV ?_|refine gZ ?_ ?_<;>(intro _h;try contradiction))|(intro _h;try contradiction)|(show _∧_;refine gA ?_)|fail);all_goals conv=>whnf)))
  exact Ends.imm rfl rfl

theorem k_clone (xs : List Int) (h : xs ≠ []) (hl : xs.length ≤ 1000000) : Imm Tryd.prog 47 [.d (byt xs)] (fun r => r = .d (byt xs)) := by
  (refine Imm.of_awp told0 [2] Tryd.func47 rfl (by decide) (Nat.le_of_ble_eq_true rfl) ?_; intro _w0 _S0 _E0 _B0; ((conv=>whnf);repeat'((first|(show(_=true→_)∧(_=false→_);first|refine nTt ?_|refine nFf ?_|refine gS ?_ ?_<;>(intro _h;try contradiction))|(show(_=false→_)∧(_=true→_);first|refine nU ?_|refine nV ?_|refine gZ ?_ ?_<;>(intro _h;try contradiction))|(intro _h;try contradiction)|(show _∧_;refine gA ?_)|fail);all_goals conv=>whnf)))
  refine ⟨fun h' => absurd h' h, ?_⟩
  ((conv=>whnf);repeat'((first|(show(_=true→_)∧(_=false→_);first|refine nTt ?_|refine nFf ?_|refine gS ?_ ?_<;>(intro _h;try contradiction))|(show(_=false→_)∧(_=true→_);first|refine nU ?_|refine nV ?_|refine gZ ?_ ?_<;>(intro _h;try contradiction))|(intro _h;try contradiction)|(show _∧_;refine gA ?_)|fail);all_goals conv=>whnf))
  refine ⟨by show (0 + xs.length) * 1 ≤ 140737488355328; omega, ?_⟩
  ((conv=>whnf);repeat'((first|(show(_=true→_)∧(_=false→_);first|refine nTt ?_|refine nFf ?_|refine gS ?_ ?_<;>(intro _h;try contradiction))|(show(_=false→_)∧(_=true→_);first|refine nU ?_|refine nV ?_|refine gZ ?_ ?_<;>(intro _h;try contradiction))|(intro _h;try contradiction)|(show _∧_;refine gA ?_)|fail);all_goals conv=>whnf))
  exact Ends.imm rfl rfl
theorem rev_take {xs : List Int} {k : Nat} (h : k < xs.length) : xs.reverse.take (k + 1) = xs.reverse.take k ++ [xs.getD (xs.length - 1 - k) 0] := by
  rw [take_snoc (by simpa using h)]
  congr 2
  rw [List.getD_eq_getElem?_getD, List.getD_eq_getElem?_getD, List.getElem?_reverse h]

theorem wfd.reverse {xs : List Int} (h : wfd xs) : wfd xs.reverse := fun x hx => h x (by simpa using hx)

def toldLow : AW.Told := ⟨fun _ => false, fun r i => if r == 6 && i == 1 then [20] else [], fun _ => .done⟩

def toldHigh : AW.Told := told0


/-- A number in n bytes, the highest first. -/
def be (n v : Nat) : List Int := (List.range n).map fun i => ((v / 256 ^ (n - 1 - i) % 256 : Nat) : Int)
theorem be_length (n v : Nat) : (be n v).length = n := by simp [be]
theorem be_wfd (n v : Nat) : wfd (be n v) := fun x hx => by
  simp only [be, List.mem_map] at hx
  obtain ⟨i, _, rfl⟩ := hx
  omega
theorem be_take {n v k : Nat} (h : k < n) : (be n v).take (k + 1) = (be n v).take k ++ [((v / 256 ^ (n - 1 - k) % 256 : Nat) : Int)] := by
  rw [take_snoc (by rw [be_length]; exact h)]
  congr 2
  rw [List.getD_eq_getElem?_getD, be, List.getElem?_map, List.getElem?_range h]; rfl
theorem dval_be (n v : Nat) : dval (be n v).reverse = ((v % 256 ^ n : Nat) : Int) := by
  have : ∀ k, k ≤ n → dval ((be n v).reverse.take k) = ((v % 256 ^ k : Nat) : Int) := fun k => by
    induction k with
    | zero => intro _; simp [dval, Nat.mod_one]
    | succ k ih =>
      intro hk
      rw [rev_take (by rw [be_length]; exact hk), dval_snoc, ih (by omega), List.length_take, List.length_reverse, be_length, Nat.min_eq_left (by omega)]
      have e : (be n v).getD (n - 1 - k) 0 = ((v / 256 ^ k % 256 : Nat) : Int) := by
        rw [List.getD_eq_getElem?_getD, be, List.getElem?_map, List.getElem?_range (by omega)]
        simp only [Option.map_some, Option.getD_some]
        rw [show n - 1 - (n - 1 - k) = k by omega]
      rw [e, Nat.mod_pow_succ, dpw]
      push_cast
      rfl
  have h := this n (Nat.le_refl _)
  rwa [List.take_of_length_le (by simp [be_length])] at h

def putQ (n v : Nat) (b : List Int) (r : AVal) : Prop := r = .tup [.d (byt (b ++ be n v)), i64 0]

end Go.Proofs.YtniaeiikdgbnfaaDoor.R
namespace Go.Proofs.YtniaeiikdgbnfaaDoor.R
open Go Go.RowKit Go.Proofs Go.Proofs.YtniaeiikdgbnfaaDoor.AW
set_option linter.unusedSectionVars false
variable [Globs]
attribute [local go_sem] Oper.semAt_some
set_option maxRecDepth 100000
set_option linter.unusedSimpArgs false
set_option linter.unusedVariables false
set_option maxHeartbeats 4000000

theorem itB (l b o b2 o2 c : Nat) (A : Option Addr) (xs : List Int) (J : Nat → World → Prop) (Jx : World → Prop) (W : World) (hl : xs.length ≤ LIM) (hA : 0 < xs.length → A = some ⟨b2, o2, none⟩)
   (hG : ∀ k W, J k W → W.cell? ⟨b, o, none⟩ = some (.slice A xs.length c) ∧ ∀ i, i < xs.length → W.cell? ⟨b2, o2 + i, none⟩ = some (.int .u8 (xs.getD i 0)))
   (hY : ∀ k W, k < xs.length → J k W → YieldAt (fence none) 0 Tryd.prog l #[.int .i64 ((xs.length : Int) - 1 - k), .int .u8 (xs.getD (xs.length - 1 - k) 0)] W fun e W' => (e = .returned (.bool true) ∧ J (k + 1) W') ∨ (e = .returned (.bool false) ∧ Jx W'))
   (h0 : J 0 W) : CallsIn Fence.wide 0 Tryd.prog 84 #[.func (.yield l) #[] #[], .pointer (some ⟨b, o, none⟩)] W fun e W' => (∃ v, e = .returned v) ∧ (J xs.length W' ∨ Jx W') := by
  unfold LIM at hl
  have hc := (hG 0 W h0).1
  refine callsIn_of_wp Tryd.func84 rfl trivial ?_ rfl
  simp only [Tryd.ntmps84, List.size_toArray, List.length_cons, List.length_nil, Nat.reduceAdd, Nat.reduceSub, Array.replicate_succ, Array.replicate_zero, List.push_toArray, List.append_toArray, List.nil_append, List.cons_append]
  gi_wp2
  clear hc
  gi_loopw [3] (fun i wr => ∃ k : Nat, k ≤ xs.length ∧ i = .int .i64 ((xs.length : Int) - 1 - k) ∧ J k wr) (fun i _ => (intOf i + 1).toNat)
  case atStart => exact ⟨0, Nat.zero_le _, by simp, h0⟩
  case round =>
    obtain ⟨k, hk, rfl, hJ⟩ := hrel
    by_cases hlt : k < xs.length
    · have hA' := hA (by omega)
      subst hA'
      have hc := (hG k _ hJ).1
      have hc2 := (hG k _ hJ).2 (xs.length - 1 - k) (by omega)
      obtain ⟨fn, tmps, assign, body, hy, hR⟩ := hY k _ hlt hJ
      have hn : ((xs.length : Int) - 1 - k).toNat = xs.length - 1 - k := by omega
      clear hG hY hA
      rw [List.getD_eq_getElem?_getD] at hc2 hy
      gi_wp2
      refine ⟨rfl, RoundIn.mono hR ?_⟩
      rintro e W' (⟨rfl, hJ'⟩ | ⟨rfl, hJ'⟩)
      · gi_wp2
        go_roundw
        case rel => exact ⟨k + 1, by omega, by simp; omega, hJ'⟩
        case measure => simp [intOf]; omega
      · gi_wp2
        exact bodyPost_ret (results_none rfl _ _ _) rfl ⟨⟨_, rfl⟩, .inr hJ'⟩
    · have : k = xs.length := by omega
      subst this
      gi_wp2
      go_end0
      exact ⟨⟨_, rfl⟩, .inl hJ⟩

/-- A range from the end to the beginning. -/
theorem aiB (xs : List Int) : AIter Tryd.prog 84 [.ptr (byt xs)] xs.length (fun k => [.int .i64 ((xs.length : Int) - 1 - k), .int .u8 (xs.getD (xs.length - 1 - k) 0)]) := by
  refine ⟨⟨_, Tryd.func84, rfl, by decide⟩, fun w S lb h => ?_⟩
  simp only [RepAll, Rep] at h
  obtain ⟨c1, c2, e, ⟨b, o, rfl, hSb, vs, hcb, A, c, rfl, hle, hL, hwf, hne⟩, rfl⟩ := h
  have hlb : lb = #[.pointer (some ⟨b, o, none⟩)] := by apply Array.ext'; simpa using e
  subst hlb
  refine ⟨fun k => #[.int .i64 ((xs.length : Int) - 1 - k), .int .u8 (xs.getD (xs.length - 1 - k) 0)], fun k hk => ?_, fun l J Jx W hJg hJxg hG hY h0 => ?_⟩
  · have hm : xs.getD (xs.length - 1 - k) 0 ∈ xs := by
      rw [List.getD_eq_getElem?_getD, List.getElem?_eq_getElem (by omega)]
      exact List.getElem_mem _
    unfold LIM at hL
    simp only [List.map_cons, List.map_nil, VAll, VRel, Rep]
    exact ⟨_, _, rfl, ⟨_, ⟨rfl, wrap_i64 (by omega) (by omega)⟩, rfl⟩, _, _, rfl, ⟨_, ⟨rfl, hwf _ hm⟩, rfl⟩, rfl⟩
  · have hcell : ∀ W : World, (∀ b, S b → W.heap[b]? = w.heap[b]?) → W.cell? ⟨b, o, none⟩ = some (.slice A xs.length c) := fun W hW => by
      have := (Cells.keep hcb (hW b hSb)) 0 _ rfl
      simpa using this
    refine callsIn_fence.1 (?_ : CallsIn Fence.wide 0 _ _ _ _ _)
    by_cases h0' : xs = []
    · subst h0'
      exact itB l b o 0 0 c A [] J Jx W (Nat.zero_le _) (fun h => by simp at h) (fun k W hJ => ⟨hcell W (hG k W hJ), fun i hi => by simp at hi⟩) hY h0
    · obtain ⟨b2, o2, rfl, hS2, hc2⟩ := hne h0'
      exact itB l b o b2 o2 c _ xs J Jx W hL (fun _ => rfl) (fun k W hJ => ⟨hcell W (hG k W hJ), fun i hi => by
        refine (Cells.keep hc2 (hG k W hJ b2 hS2)) i _ ?_
        rw [List.getElem?_map, List.getElem?_eq_getElem hi, List.getD_eq_getElem?_getD, List.getElem?_eq_getElem hi]; rfl⟩) hY h0

theorem k_backB (xs : List Int) : Imm Tryd.prog 55 [.d (byt xs)] (fun r => r = .d (.fn 84 [.ptr (byt xs)])) := by
  (refine Imm.of_awp (⟨fun _ => false, fun r i => if r == 1 && i == 0 then [1] else [], fun _ => .done⟩ : AW.Told) [] Tryd.func55 rfl (by decide) (Nat.le_of_ble_eq_true rfl) ?_; intro _w0 _S0 _E0 _B0; ((conv => whnf); repeat' (first | (refine And.intro ?_ ?_; (focus (first | rfl | decide | assumption | omega | decide +kernel | exact ⟨rfl, rfl⟩ | exact ⟨rfl, rfl, rfl, rfl⟩ | exact fun h => Bool.noConfusion h | exact fun _ => rfl | exact Nat.le_of_ble_eq_true rfl | (simp only [List.length_map, List.length_append, List.length_replicate, List.length_take, List.length_drop, List.length_set, List.length_cons, List.length_nil]; omega))); (conv => whnf)) | ((refine And.intro ?_ ?_ <;> intro _h); all_goals ((first | replace _h := of_decide_eq_true _h | replace _h := of_decide_eq_false _h | skip); (try simp only [Bool.not_eq_true', Bool.not_eq_false', Bool.not_true, Bool.not_false, decide_eq_true_eq, decide_eq_false_iff_not] at _h); (try (guard_hyp _h : True; clear _h)); first | done | contradiction | exact absurd ((Eq.symm _h).trans (show _ = true by assumption)) (by decide) | exact absurd ((Eq.symm _h).trans (show _ = false by assumption)) (by decide) | (conv => whnf))) | (intro _h; ((first | replace _h := of_decide_eq_true _h | replace _h := of_decide_eq_false _h | skip); (try simp only [Bool.not_eq_true', Bool.not_eq_false', Bool.not_true, Bool.not_false, decide_eq_true_eq, decide_eq_false_iff_not] at _h); (try (guard_hyp _h : True; clear _h)); first | done | contradiction | exact absurd ((Eq.symm _h).trans (show _ = true by assumption)) (by decide) | exact absurd ((Eq.symm _h).trans (show _ = false by assumption)) (by decide) | (conv => whnf))))))
  exact Ends.imm rfl rfl
end Go.Proofs.YtniaeiikdgbnfaaDoor.R
namespace Go.Proofs.YtniaeiikdgbnfaaDoor.R
open Go Go.RowKit Go.Proofs Go.Proofs.YtniaeiikdgbnfaaDoor.AW
set_option linter.unusedSectionVars false
variable [Globs]
set_option maxRecDepth 100000
set_option linter.unusedSimpArgs false
set_option linter.unusedVariables false
set_option maxHeartbeats 4000000

theorem val_set : ∀ (xs : List Int) (j : Nat) (v : Int), j < xs.length → val (xs.set j v) = val xs + pw j * (v - xs.getD j 0)
  | [], j, v, h => by simp at h
  | x :: xs, 0, v, _ => by simp [val, pw_zero]; omega
  | x :: xs, j + 1, v, h => by
    have := val_set xs j v (by simpa using h)
    simp only [List.set_cons_succ, val, this, pw_succ, List.getD_cons_succ]
    grind

theorem or_step (x c : Int) (s : Nat) (hs : s < 4) (hx : 0 ≤ x) (hx2 : x < 256 ^ s) (hc : 0 ≤ c) (hc2 : c < 256) (m : Int) (hm : m = 8 * s) :
    bitsK .or .u32 x (IntKind.u32.wrap (c * 2 ^ (min m.toNat (IntKind.bits .u32)))) = x + 256 ^ s * c := by
  obtain ⟨a, rfl⟩ : ∃ a : Nat, x = a := ⟨x.toNat, by omega⟩
  obtain ⟨d, rfl⟩ : ∃ a : Nat, c = a := ⟨c.toNat, by omega⟩
  subst hm
  have e : min (8 * (s : Int)).toNat (IntKind.bits .u32) = 8 * s := by
    have : (8 * (s : Int)).toNat = 8 * s := by omega
    rw [this, Nat.min_eq_left (by simp [IntKind.bits]; omega)]
  have hp : (256 : Nat) ^ s = 2 ^ (8 * s) := by rw [Nat.pow_mul]
  have ha : a < 2 ^ (8 * s) := by rw [← hp]; exact_mod_cast hx2
  have h24 : 2 ^ (8 * s) ≤ 2 ^ 24 := Nat.pow_le_pow_right (by omega) (by omega)
  have hd : d < 256 := by omega
  have hdd : d * 2 ^ (8 * s) < 4294967296 := by
    have : d * 2 ^ (8 * s) ≤ 255 * 2 ^ 24 := Nat.mul_le_mul (by omega) h24
    omega
  rw [e]
  have e2 : IntKind.u32.wrap ((d : Int) * 2 ^ (8 * s)) = ((d * 2 ^ (8 * s) : Nat) : Int) := by
    have e3 : (d : Int) * 2 ^ (8 * s) = ((d * 2 ^ (8 * s) : Nat) : Int) := by push_cast; rfl
    rw [e3, wrap_u32 (by omega) (by omega)]
  rw [e2]
  have e4 : a ||| d * 2 ^ (8 * s) = a + 2 ^ (8 * s) * d := by
    have := Nat.shiftLeft_add_eq_or_of_lt ha d
    rw [Nat.shiftLeft_eq] at this
    rw [Nat.or_comm, ← this, Nat.mul_comm, Nat.add_comm]
  have e5 : d * 2 ^ (8 * s) = 2 ^ (8 * s) * d := Nat.mul_comm ..
  have hlt : a + 2 ^ (8 * s) * d < 4294967296 := by
    have h1 : 2 ^ (8 * s) * d ≤ 2 ^ (8 * s) * 255 := Nat.mul_le_mul_left _ (by omega)
    omega
  have e6 : (BitVec.ofInt 32 (a : Int) ||| BitVec.ofInt 32 ((d * 2 ^ (8 * s) : Nat) : Int)).toNat = a ||| d * 2 ^ (8 * s) := by
    simp only [BitVec.ofInt_natCast, BitVec.toNat_or, BitVec.toNat_ofNat]
    rw [Nat.mod_eq_of_lt (by omega), Nat.mod_eq_of_lt (by omega)]
  show IntKind.u32.wrap ((BitVec.ofInt 32 (a : Int) ||| BitVec.ofInt 32 ((d * 2 ^ (8 * s) : Nat) : Int)).toNat : Int) = _
  rw [e6, e4, wrap_u32 (by omega) (by omega), ← hp]
  push_cast
  rfl

def keep4 (k : Nat) (n : List Int) : Prop := (∀ j, k / 4 < j → n.getD j 0 = 0) ∧ n.getD (k / 4) 0 < 256 ^ (k % 4)

theorem getD_set (n : List Int) (j : Nat) (x : Int) (i : Nat) : (n.set j x).getD i 0 = if i = j ∧ j < n.length then x else n.getD i 0 := by
  rw [List.getD_eq_getElem?_getD, List.getD_eq_getElem?_getD, List.getElem?_set]
  split
  · rename_i h; subst h
    split
    · rename_i h; rw [if_pos ⟨rfl, h⟩]; rfl
    · rename_i h; rw [if_neg (by omega), List.getElem?_eq_none (by omega)]
  · rename_i h; rw [if_neg (by omega)]

theorem pw_dpw (j s : Nat) : pw j * 256 ^ s = dpw (4 * j + s) := by
  unfold pw dpw
  rw [Int.pow_add, Int.pow_mul]
  rfl

theorem from_step (b n : List Int) (w k : Nat) (hb : wfd b) (hk : k < b.length) (hkw : k / 4 < w) (hn : n.length = w) (hwf : wfl n) (hv : val n = dval (b.reverse.take k)) (hz : keep4 k n) {c : Int} (hc : c = b.getD (b.length - 1 - k) 0) :
    (n.set (k / 4) (n.getD (k / 4) 0 + 256 ^ (k % 4) * c)).length = w ∧ wfl (n.set (k / 4) (n.getD (k / 4) 0 + 256 ^ (k % 4) * c)) ∧ val (n.set (k / 4) (n.getD (k / 4) 0 + 256 ^ (k % 4) * c)) = dval (b.reverse.take (k + 1)) ∧
      keep4 (k + 1) (n.set (k / 4) (n.getD (k / 4) 0 + 256 ^ (k % 4) * c)) := by
  obtain ⟨hz, hlt⟩ := hz
  have hg := hb.get (b.length - 1 - k)
  rw [← hc] at hg
  have hx := hwf.get (k / 4)
  have hs : k % 4 < 4 := Nat.mod_lt _ (by omega)
  have key : n.getD (k / 4) 0 + 256 ^ (k % 4) * c < 256 ^ (k % 4 + 1) := by
    rw [Int.pow_succ]
    have : (256 : Int) ^ (k % 4) * c ≤ 256 ^ (k % 4) * 255 := Int.mul_le_mul_of_nonneg_left (by omega) (Int.le_of_lt (Int.pow_pos (by omega)))
    omega
  have hnn : (0 : Int) ≤ 256 ^ (k % 4) * c := Int.mul_nonneg (Int.le_of_lt (Int.pow_pos (by omega))) hg.1
  have hb4 : (256 : Int) ^ (k % 4 + 1) ≤ 4294967296 := by
    have : ∀ s : Fin 4, (256 : Int) ^ (s.val + 1) ≤ 4294967296 := by decide
    exact this ⟨k % 4, hs⟩
  refine ⟨by simp [hn], hwf.set _ ⟨by omega, by omega⟩, ?_, fun j hj => ?_, ?_⟩
  · rw [val_set _ _ _ (by omega), hv, rev_take hk, dval_snoc, ← hc]
    have e : (b.reverse.take k).length = k := by simp; omega
    have e2 : 4 * (k / 4) + k % 4 = k := Nat.div_add_mod k 4
    rw [e, ← congrArg dpw e2, ← pw_dpw]
    generalize n.getD (k / 4) 0 = x
    grind
  · rw [getD_set, if_neg (by omega)]
    exact hz j (by omega)
  · rw [getD_set]
    split
    · rename_i h
      have h4 : (k + 1) % 4 = k % 4 + 1 := by omega
      rw [h4]; exact key
    · rename_i h
      have h4 : (k + 1) / 4 = k / 4 + 1 := by omega
      rw [h4, hz _ (by omega)]
      exact Int.pow_pos (by omega)

def toldFrom : AW.Told := ⟨fun _ => false, fun r i => [], fun r => if r == 9 then .take 0 (.take 1 (.take 2 (.take 3 (.take 4 (.take 5 (.take 6 (.take 7 (.take 8 (.take 9 (.take 10 (.take 11 (.take 12 (.one 13 .done))))))))))))) else .done⟩

theorem k_from (b : List Int) (w : Nat) (hb : wfd b) (hw : 1 ≤ w ∧ w ≤ 256) (hl : b.length ≤ 4 * w) : Imm Tryd.prog 24 [.d (byt b), i64 w] (fun r => ∃ n, r = .tup [.d (nat n), i64 0] ∧ n.length = w ∧ wfl n ∧ val n = dval b.reverse) := by
  (refine Imm.of_awp toldFrom [48] Tryd.func24 rfl (by decide) (Nat.le_of_ble_eq_true rfl) ?_; intro _w0 _S0 _E0 _B0; ((conv=>whnf);repeat'((first|(show(_=true→_)∧(_=false→_);first|refine gT ?_|refine gF ?_|refine gS ?_ ?_<;>(intro _h;try contradiction))|(show(_=false→_)∧(_=true→_);first|refine gU ?_|refine gV ?_|refine gZ ?_ ?_<;>(intro _h;try contradiction))|(intro _h;try contradiction)|(show _∧_;refine gA ?_)|fail);all_goals conv=>whnf)))
  refine acallI (k_backB b) rfl fun r hr => ?_
  subst hr
  ((conv=>whnf);repeat'((first|(show(_=true→_)∧(_=false→_);first|refine gT ?_|refine gF ?_|refine gS ?_ ?_<;>(intro _h;try contradiction))|(show(_=false→_)∧(_=true→_);first|refine gU ?_|refine gV ?_|refine gZ ?_ ?_<;>(intro _h;try contradiction))|(intro _h;try contradiction)|(show _∧_;refine gA ?_)|fail);all_goals conv=>whnf))
  refine AWp.rangeFunc toldFrom (aiB b) (ι := List Int) [(2, .optr 0 0), (3, .optr 1 0), (4, .optr 2 0), (5, .optr 3 0), (6, .optr 5 0)]
    (fun n => [(0, .cell 22 [.d (byt b)]), (1, .cell 3 [i64 w]), (2, .cell 37 [.nls (nat [])]), (3, .cell 25 [i64 0]), (4, .row .u32 79 n), (5, .cell 37 [.own 4])]) 49 6 6
    (fun k n => n.length = w ∧ wfl n ∧ val n = dval (b.reverse.take k) ∧ keep4 k n)
    (fun e v => False) rfl rfl rfl (fun k hk => rfl) rfl rfl (Nat.zero_le _) (Nat.le_refl _) rfl ?_ ?_ ?_ ?_ ?_
  · refine ⟨List.replicate w 0, [0, 1, 2, 3, 4, 5], rfl, ⟨by simp, fun x hx => by rw [List.eq_of_mem_replicate hx]; omega, ?_, fun j hj => ?_, ?_⟩, by (refine ⟨rfl, rfl, ?_, ?_⟩ <;> repeat' (first | exact True.intro | rfl | decide | (refine And.intro ?_ ?_)))⟩
    · rw [val_zero_of _ fun j => ?_]; rfl
      rw [List.getD_eq_getElem?_getD, List.getElem?_replicate]; split <;> rfl
    · rw [List.getD_eq_getElem?_getD, List.getElem?_replicate]; split <;> rfl
    · rw [List.getD_eq_getElem?_getD, List.getElem?_replicate]; split <;> simp
  · intro k n hk ⟨hn, hwf, hv, hz, hlt⟩ _ _ _ _ _
    have e1 : IntKind.i64.wrap (IntKind.i64.wrap ((b.length : Int) - 1) - ((b.length : Int) - 1 - k)) = k := by
      rw [wrap_i64 (n := (b.length : Int) - 1) (by omega) (by omega), wrap_i64 (by omega) (by omega)]; omega
    have e2 : IntKind.i64.wrap ((k : Int).tdiv 4) = (k / 4 : Nat) := by
      rw [Int.tdiv_eq_ediv_of_nonneg (by omega), wrap_i64 (by omega) (by omega)]; omega
    have e3 : (k : Int).tmod 4 = (k % 4 : Nat) := by rw [Int.tmod_eq_emod_of_nonneg (by omega)]; omega
    have e12 : IntKind.i64.wrap ((IntKind.i64.wrap (IntKind.i64.wrap ((b.length : Int) - 1) - ((b.length : Int) - 1 - k))).tdiv 4) = (k / 4 : Nat) := by rw [e1, e2]
    have e13 : IntKind.i64.wrap (8 * (IntKind.i64.wrap (IntKind.i64.wrap ((b.length : Int) - 1) - ((b.length : Int) - 1 - k))).tmod 4) = 8 * (k % 4 : Nat) := by rw [e1, e3, wrap_i64 (by omega) (by omega)]
    have hg := hb.get (b.length - 1 - k)
    have hg2 := hwf.get (k / 4)
    ((conv=>whnf);repeat'((first|(show(_=true→_)∧(_=false→_);first|refine gT ?_|refine gF ?_|refine gS ?_ ?_<;>(intro _h;try contradiction))|(show(_=false→_)∧(_=true→_);first|refine gU ?_|refine gV ?_|refine gZ ?_ ?_<;>(intro _h;try contradiction))|(intro _h;try contradiction)|(show _∧_;refine gA ?_)|fail);all_goals conv=>whnf))
    refine ⟨_, [0, 1, 2, 3, 4, 5], rfl, from_step b n w k hb hk (by omega) hn hwf hv ⟨hz, hlt⟩ rfl, rfl, ?_⟩
    (repeat' (first | exact True.intro | rfl | decide | (refine And.intro ?_ ?_)))
    show some (Ob.row .u32 _ _) = some (Ob.row .u32 _ _)
    have ec : IntKind.u32.wrap (b.getD (b.length - 1 - k) 0) = b.getD (b.length - 1 - k) 0 := wrap_u32 (by omega) (by omega)
    rw [e12, Int.toNat_natCast, ec, or_step _ _ (k % 4) (Nat.mod_lt _ (by omega)) hg2.1 hlt hg.1 hg.2 _ e13]
  · intro n ⟨hn, hwf, hv, hz⟩
    ((conv=>whnf);repeat'((first|(show(_=true→_)∧(_=false→_);first|refine gT ?_|refine gF ?_|refine gS ?_ ?_<;>(intro _h;try contradiction))|(show(_=false→_)∧(_=true→_);first|refine gU ?_|refine gV ?_|refine gZ ?_ ?_<;>(intro _h;try contradiction))|(intro _h;try contradiction)|(show _∧_;refine gA ?_)|fail);all_goals conv=>whnf))
    refine Ends.imm rfl ⟨n, rfl, hn, hwf, ?_⟩
    rw [hv, List.take_of_length_le (by simp)]
  · intro n h
    exact h.elim
  · intro id n h
    exact h.elim

theorem val_split (n : List Int) (j : Nat) : val n = val (n.take j) + pw (n.take j).length * (n.getD j 0 + 4294967296 * val (n.drop (j + 1))) := by
  have h : val n = val (n.take j ++ n.drop j) := by rw [List.take_append_drop]
  rw [h, val_append, val_step (n.drop j)]
  congr 3
  · simp [List.getD_eq_getElem?_getD]
  · simp

theorem dig_nat (A p x R s : Nat) (hA : A < p) (hs : s < 4) : (A + p * (x + 4294967296 * R)) / (p * 256 ^ s) % 256 = x / 256 ^ s % 256 := by
  rw [← Nat.div_div_eq_div_mul, Nat.add_mul_div_left _ _ (by omega), Nat.div_eq_of_lt hA, Nat.zero_add]
  have : ∃ t, 4294967296 = 256 ^ s * (256 * t) := by
    have h : ∀ s : Fin 4, 4294967296 = 256 ^ s.val * (256 * 256 ^ (3 - s.val)) := by decide
    exact ⟨_, h ⟨s, hs⟩⟩
  obtain ⟨t, ht⟩ := this
  rw [ht, Nat.mul_assoc, Nat.add_mul_div_left _ _ (Nat.pow_pos (by omega)), Nat.mul_assoc, Nat.add_mul_mod_self_left]

theorem dig_val (n : List Int) (hn : wfl n) (at' : Nat) : (n.getD (at' / 4) 0).toNat / 256 ^ (at' % 4) % 256 = (val n).toNat / 256 ^ at' % 256 := by
  have hs : at' % 4 < 4 := Nat.mod_lt _ (by omega)
  rcases Nat.lt_or_ge (at' / 4) n.length with h | h
  · have e := val_split n (at' / 4)
    have hl : (n.take (at' / 4)).length = at' / 4 := by simp; omega
    have h1 := val_lt (hn.take (at' / 4))
    have h2 := val_nonneg (hn.take (at' / 4))
    have h3 := val_nonneg (hn.drop (at' / 4 + 1))
    have h4 := hn.get (at' / 4)
    have h5 := pw_pos (at' / 4)
    rw [hl] at e h1
    obtain ⟨A, hA⟩ : ∃ A : Nat, val (n.take (at' / 4)) = A := ⟨_, (Int.toNat_of_nonneg h2).symm⟩
    obtain ⟨R, hR⟩ : ∃ A : Nat, val (n.drop (at' / 4 + 1)) = A := ⟨_, (Int.toNat_of_nonneg h3).symm⟩
    obtain ⟨x, hx⟩ : ∃ A : Nat, n.getD (at' / 4) 0 = A := ⟨_, (Int.toNat_of_nonneg h4.1).symm⟩
    have hp : pw (at' / 4) = ((4294967296 ^ (at' / 4) : Nat) : Int) := by unfold pw; rw [Int.natCast_pow]; rfl
    rw [hA, hR, hx, hp] at e
    rw [hA, hp] at h1
    have e2 : (val n).toNat = A + 4294967296 ^ (at' / 4) * (x + 4294967296 * R) := by
      have : val n = ((A + 4294967296 ^ (at' / 4) * (x + 4294967296 * R) : Nat) : Int) := by rw [e]; simp only [Int.natCast_add, Int.natCast_mul]; rfl
      rw [this, Int.toNat_natCast]
    have e3 : 256 ^ at' = 4294967296 ^ (at' / 4) * 256 ^ (at' % 4) := by
      have : (4294967296 : Nat) = 256 ^ 4 := rfl
      rw [this, ← Nat.pow_mul, ← Nat.pow_add, Nat.div_add_mod]
    rw [hx, Int.toNat_natCast, e2, e3, dig_nat _ _ _ _ _ (by omega) hs]
  · have e0 : n.getD (at' / 4) 0 = 0 := by rw [List.getD_eq_getElem?_getD, List.getElem?_eq_none h]; rfl
    have h1 := val_lt hn
    have h2 := val_nonneg hn
    have h3 : (val n).toNat < 256 ^ at' := by
      have e1 : pw n.length = ((256 ^ (4 * n.length) : Nat) : Int) := by unfold pw; rw [Nat.pow_mul, Int.natCast_pow]; rfl
      have : 256 ^ (4 * n.length) ≤ 256 ^ at' := Nat.pow_le_pow_right (by omega) (by omega)
      omega
    rw [e0, Nat.div_eq_of_lt h3]
    simp

theorem shr32 (x : Int) (h : 0 ≤ x) (m : Int) (k : Nat) (hm : m = 8 * k) (hk : k ≤ 4) : x / 2 ^ min m.toNat (IntKind.bits .u32) = ((x.toNat / 256 ^ k : Nat) : Int) := by
  subst hm
  obtain ⟨n, rfl⟩ : ∃ n : Nat, x = n := ⟨x.toNat, by omega⟩
  have e : (8 * (k : Int)).toNat = 8 * k := by omega
  rw [e, Nat.min_eq_left (by simp [IntKind.bits]; omega), Int.pow_mul, Int.toNat_natCast]
  push_cast
  rfl

def toldBytes : AW.Told := ⟨fun _ => false, fun r i => if r == 1 && i == 2 then [11] else [], fun _ => .done⟩

theorem be_set (size v k : Nat) (h : k < size) {d : Int} (hd : d = ((v / 256 ^ (size - 1 - k) % 256 : Nat) : Int)) :
    ((be size v).take k ++ List.replicate (size - k) 0).set k d = (be size v).take (k + 1) ++ List.replicate (size - (k + 1)) 0 := by
  rw [be_take h, ← hd, show size - k = (size - (k + 1)) + 1 by omega, List.replicate_succ, List.set_append_right _ _ (by simp [be_length]; omega), List.append_assoc]
  simp [be_length, show min k size = k by omega]
theorem be_skip (size v k : Nat) (h : k < size) (hd : v / 256 ^ (size - 1 - k) % 256 = 0) :
    (be size v).take k ++ List.replicate (size - k) 0 = (be size v).take (k + 1) ++ List.replicate (size - (k + 1)) 0 := by
  rw [be_take h, hd, show size - k = (size - (k + 1)) + 1 by omega, List.replicate_succ, List.append_assoc]
  rfl

theorem k_bytes (n : List Int) (size : Nat) (hn : wfl n) (hbn : bad n = false) (hs : 1 ≤ size ∧ size ≤ 1024) (hv : val n < dpw size) :
    Imm Tryd.prog 27 [.d (nat n), i64 size] (fun r => r = .tup [.d (byt (be size (val n).toNat)), i64 0]) := by
  have w1 : IntKind.i64.wrap (8 * (size : Int)) = 8 * size := wrap_i64 (by omega) (by omega)
  have h2 := val_nonneg hn
  have hbits : blen (val n).toNat ≤ 8 * size := by
    rw [blen_le, Nat.pow_mul]
    have : dpw size = ((256 ^ size : Nat) : Int) := by unfold dpw; push_cast; rfl
    have e : (2 ^ 8 : Nat) = 256 := rfl
    rw [e]
    omega
  (refine Imm.of_awp toldBytes [4] Tryd.func27 rfl (by decide) (Nat.le_of_ble_eq_true rfl) ?_; intro _w0 _S0 _E0 _B0; ((conv=>whnf);repeat'((first|(show(_=true→_)∧(_=false→_);first|refine gT ?_|refine gF ?_|refine gS ?_ ?_<;>(intro _h;try contradiction))|(show(_=false→_)∧(_=true→_);first|refine gU ?_|refine gV ?_|refine gZ ?_ ?_<;>(intro _h;try contradiction))|(intro _h;try contradiction)|(show _∧_;refine gA ?_)|fail);all_goals conv=>whnf)))
  refine acallI (f35 [n]) rfl fun r hr => ?_
  rw [show [n].any bad = false by simp [hbn]] at hr
  subst hr
  ((conv=>whnf);repeat'((first|(show(_=true→_)∧(_=false→_);first|refine gT ?_|refine gF ?_|refine gS ?_ ?_<;>(intro _h;try contradiction))|(show(_=false→_)∧(_=true→_);first|refine gU ?_|refine gV ?_|refine gZ ?_ ?_<;>(intro _h;try contradiction))|(intro _h;try contradiction)|(show _∧_;refine gA ?_)|fail);all_goals conv=>whnf))
  refine acallI (f24 n hn) rfl fun r hr => ?_
  rw [if_neg (by simp [hbn])] at hr
  subst hr
  ((conv=>whnf);repeat'((first|(show(_=true→_)∧(_=false→_);first|refine gT ?_|refine gF ?_|refine gS ?_ ?_<;>(intro _h;try contradiction))|(show(_=false→_)∧(_=true→_);first|refine gU ?_|refine gV ?_|refine gZ ?_ ?_<;>(intro _h;try contradiction))|(intro _h;try contradiction)|(show _∧_;refine gA ?_)|fail);all_goals conv=>whnf))
  have hbl : n.length ≤ 256 := by
    unfold bad at hbn
    simp at hbn
    omega
  have hlen : ∀ k, (List.take k (be size (val n).toNat) ++ List.replicate (size - k) 0).length = min k size + (size - k) := fun k => by simp [be_length]
  refine aloop (T := toldBytes) (ι := Nat) (fun k => [(0, .d (nat n)), (1, i64 size), (6, .own 0), (31, i64 size), (32, i64 k)]) (fun k => [(0, .row .u8 5 ((be size (val n).toNat).take k ++ List.replicate (size - k) 0))]) 59 1
    (fun k => size - k) (fun k => k ≤ size)
    ⟨0, [1], rfl, by omega, by (refine ⟨rfl, rfl, ?_, ?_⟩ <;> repeat' (first | exact True.intro | rfl | decide | (refine And.intro ?_ ?_))); simp; rfl⟩ ?_
  intro k hk
  have hlk := hlen k
  rcases Nat.lt_or_ge k size with hks | hks
  · have e1 : IntKind.i64.wrap (IntKind.i64.wrap ((size : Int) - 1) - k) = (size - 1 - k : Nat) := by
      rw [wrap_i64 (n := (size : Int) - 1) (by omega) (by omega), wrap_i64 (by omega) (by omega)]; omega
    have e2 : IntKind.i64.wrap ((IntKind.i64.wrap (IntKind.i64.wrap ((size : Int) - 1) - k)).tdiv 4) = ((size - 1 - k) / 4 : Nat) := by
      rw [e1, Int.tdiv_eq_ediv_of_nonneg (by omega), wrap_i64 (by omega) (by omega)]; omega
    have e3 : IntKind.i64.wrap (8 * (IntKind.i64.wrap (IntKind.i64.wrap ((size : Int) - 1) - k)).tmod 4) = 8 * ((size - 1 - k) % 4 : Nat) := by
      rw [e1, Int.tmod_eq_emod_of_nonneg (by omega), wrap_i64 (by omega) (by omega)]; omega
    have hd := dig_val n hn (size - 1 - k)
    have hg := hn.get ((size - 1 - k) / 4)
    ((conv=>whnf);repeat'((first|(show(_=true→_)∧(_=false→_);first|refine gT ?_|refine gF ?_|refine gS ?_ ?_<;>(intro _h;try contradiction))|(show(_=false→_)∧(_=true→_);first|refine gU ?_|refine gV ?_|refine gZ ?_ ?_<;>(intro _h;try contradiction))|(intro _h;try contradiction)|(show _∧_;refine gA ?_)|fail);all_goals conv=>whnf))
    · refine ⟨k + 1, [0], by omega, by omega, rfl, ?_⟩
      (refine ⟨rfl, rfl, ?_, ?_⟩ <;> repeat' (first | exact True.intro | rfl | decide | (refine And.intro ?_ ?_)))
      · exact di (by rw [wrap_i64 (by omega) (by omega)]; omega)
      · show some (Ob.row .u8 _ _) = some (Ob.row .u8 _ _)
        rw [e2, Int.toNat_natCast, Int.toNat_natCast, shr32 _ hg.1 _ ((size - 1 - k) % 4) e3 (by omega)]
        congr 2
        refine be_set size _ k hks ?_
        rw [← hd]
        generalize (n.getD ((size - 1 - k) / 4) 0).toNat / 256 ^ ((size - 1 - k) % 4) = q
        simp [IntKind.wrap, IntKind.bits, IntKind.signed]
    · refine ⟨k + 1, [0], by omega, by omega, rfl, ?_⟩
      have e0 : n.getD ((size - 1 - k) / 4) 0 = 0 := by rw [List.getD_eq_getElem?_getD, List.getElem?_eq_none (by omega)]; rfl
      rw [e0] at hd
      (refine ⟨rfl, rfl, ?_, ?_⟩ <;> repeat' (first | exact True.intro | rfl | decide | (refine And.intro ?_ ?_)))
      · exact di (by rw [wrap_i64 (by omega) (by omega)]; omega)
      · show some (Ob.row .u8 _ _) = some (Ob.row .u8 _ _)
        congr 2
        exact be_skip size _ k hks (by rw [← hd]; simp)
  · have hk' : k = size := by omega
    ((conv=>whnf);repeat'((first|(show(_=true→_)∧(_=false→_);first|refine gT ?_|refine gF ?_|refine gS ?_ ?_<;>(intro _h;try contradiction))|(show(_=false→_)∧(_=true→_);first|refine gU ?_|refine gV ?_|refine gZ ?_ ?_<;>(intro _h;try contradiction))|(intro _h;try contradiction)|(show _∧_;refine gA ?_)|fail);all_goals conv=>whnf))
    refine Ends.imm rfl ?_
    rw [hk', List.take_of_length_le (by rw [be_length]; omega)]
    simp

/-- The number that bytes are, the highest first. -/
def bn (m : List Int) : Int := dval m.reverse

/-- What isn't right of a modulus. -/
def notMod (m : List Int) : Int := if sized m.length = false then 21 else if m.getD 0 0 < 128 ∨ m.getD (m.length - 1) 0 % 2 = 0 then 22 else 0

/-- A key of a right modulus. -/
structure Key (m n : List Int) (n0 : Int) (rr : List Int) : Prop where
  ring : Ring n n0 rr
  len : m.length = 4 * n.length
  val : val n = bn m
  wf : wfd m
  right : notMod m = 0

theorem sized_spec {n : Nat} : sized n = true ↔ 64 ≤ n ∧ n ≤ 512 ∧ n % 64 = 0 := by simp [sized, and_assoc]

theorem bn_odd (m : List Int) (h : 0 < m.length) : bn m % 2 = m.getD (m.length - 1) 0 % 2 := by
  unfold bn
  rw [dvstep]
  have : m.reverse.getD 0 0 = m.getD (m.length - 1) 0 := by
    rw [List.getD_eq_getElem?_getD, List.getD_eq_getElem?_getD, List.getElem?_reverse h]; rfl
  rw [this]
  omega
theorem val_odd (n : List Int) : val n % 2 = n.getD 0 0 % 2 := by
  rw [val_step]
  omega
theorem bn_high (m : List Int) (hm : wfd m) (h : 0 < m.length) : m.getD 0 0 ≤ bn m := by
  unfold bn
  obtain ⟨x, t, rfl⟩ : ∃ x t, m = x :: t := by cases m with
    | nil => simp at h
    | cons x t => exact ⟨x, t, rfl⟩
  rw [List.reverse_cons, dval_snoc]
  have h1 := dval_nonneg hm.cons.2.reverse
  have h2 := dpw_pos t.reverse.length
  have h3 := hm.cons.1
  have : x * 1 ≤ x * dpw t.reverse.length := Int.mul_le_mul_of_nonneg_left (by omega) h3.1
  simp only [List.getD_cons_zero]
  rw [Int.mul_comm] at this
  rw [Int.mul_comm x] at this
  omega

theorem k_make (m : List Int) (hm : wfd m) (hl : m.length ≤ LIM) : Imm Tryd.prog 17 [.d (byt m)] (fun r => if notMod m ≠ 0 then r = .tup [.d .nilp, i64 (notMod m)] else ∃ n n0 rr, r = .tup [.d (keyD m n n0 rr), i64 0] ∧ Key m n n0 rr) := by
  unfold LIM at hl
  (refine Imm.of_awp told0 [2] Tryd.func17 rfl (by decide) (Nat.le_of_ble_eq_true rfl) ?_; intro _w0 _S0 _E0 _B0; ((conv=>whnf);repeat'((first|(show(_=true→_)∧(_=false→_);first|refine nTt ?_|refine nFf ?_|refine gS ?_ ?_<;>(intro _h;try contradiction))|(show(_=false→_)∧(_=true→_);first|refine nU ?_|refine nV ?_|refine gZ ?_ ?_<;>(intro _h;try contradiction))|(intro _h;try contradiction)|(show _∧_;refine gA ?_)|fail);all_goals conv=>whnf)))
  refine acallI (k_sized m.length (by unfold LIM; omega)) rfl fun r hr => ?_
  subst hr
  cases hsz : sized m.length with
  | false =>
    ((conv=>whnf);repeat'((first|(show(_=true→_)∧(_=false→_);first|refine gT ?_|refine gF ?_|refine gS ?_ ?_<;>(intro _h;try contradiction))|(show(_=false→_)∧(_=true→_);first|refine gU ?_|refine gV ?_|refine gZ ?_ ?_<;>(intro _h;try contradiction))|(intro _h;try contradiction)|(show _∧_;refine gA ?_)|fail);all_goals conv=>whnf))
    refine Ends.imm rfl ?_
    have : notMod m = 21 := by simp [notMod, hsz]
    rw [this, if_pos (by omega)]
  | true =>
    have ⟨h1, h2, h3⟩ := sized_spec.1 hsz
    have e1 : IntKind.i64.wrap ((m.length : Int) - 1) = (m.length - 1 : Nat) := by rw [wrap_i64 (by omega) (by omega)]; omega
    have e2 : IntKind.i64.wrap ((m.length : Int).tdiv 4) = (m.length / 4 : Nat) := by rw [Int.tdiv_eq_ediv_of_nonneg (by omega), wrap_i64 (by omega) (by omega)]; omega
    have g1 := hm.get 0
    have g2 := hm.get (m.length - 1)
    have e3 : (m.getD (m.length - 1) 0).tmod 2 = m.getD (m.length - 1) 0 % 2 := Int.tmod_eq_emod_of_nonneg g2.1
    have e4 : m.length = 4 * (m.length / 4) := by omega
    ((conv=>whnf);repeat'((first|(show(_=true→_)∧(_=false→_);first|refine gT ?_|refine gF ?_|refine gS ?_ ?_<;>(intro _h;try contradiction))|(show(_=false→_)∧(_=true→_);first|refine gU ?_|refine gV ?_|refine gZ ?_ ?_<;>(intro _h;try contradiction))|(intro _h;try contradiction)|(show _∧_;refine gA ?_)|fail);all_goals conv=>whnf))
    · rw [e1, Int.toNat_natCast, e3] at _h
      refine Ends.imm rfl ?_
      have : notMod m = 22 := by
        unfold notMod
        rw [hsz, if_neg (by simp), if_pos (.inr _h)]
      rw [this, if_pos (by omega)]
    · rename_i hn1
      rw [e1, Int.toNat_natCast, e3] at _h
      have hn0 : notMod m = 0 := by
        unfold notMod
        rw [hsz, if_neg (by simp), if_neg (fun h => h.elim hn1 _h)]
      refine acallI (k_from m (m.length / 4) hm (by omega) (by omega)) (by rw [← e2]; rfl) fun r hr => ?_
      obtain ⟨n, rfl, hnl, hnw, hnv⟩ := hr
      ((conv=>whnf);repeat'((first|(show(_=true→_)∧(_=false→_);first|refine gT ?_|refine gF ?_|refine gS ?_ ?_<;>(intro _h;try contradiction))|(show(_=false→_)∧(_=true→_);first|refine gU ?_|refine gV ?_|refine gZ ?_ ?_<;>(intro _h;try contradiction))|(intro _h;try contradiction)|(show _∧_;refine gA ?_)|fail);all_goals conv=>whnf))
      have hodd : ¬ n.getD 0 0 % 2 = 0 := by
        rw [← val_odd, hnv]
        show ¬ bn m % 2 = 0
        rw [bn_odd m (by omega)]
        exact _h
      have hbig : 1 < val n := by
        rw [hnv]
        have := bn_high m hm (by omega)
        show 1 < bn m
        have : ¬ m.getD 0 0 < 128 := hn1
        omega
      refine acallI (f11 n hnw) rfl fun r hr => ?_
      rw [if_neg (by omega), if_neg (by omega)] at hr
      obtain ⟨n0, rr, rfl, hR⟩ := hr
      ((conv=>whnf);repeat'((first|(show(_=true→_)∧(_=false→_);first|refine gT ?_|refine gF ?_|refine gS ?_ ?_<;>(intro _h;try contradiction))|(show(_=false→_)∧(_=true→_);first|refine gU ?_|refine gV ?_|refine gZ ?_ ?_<;>(intro _h;try contradiction))|(intro _h;try contradiction)|(show _∧_;refine gA ?_)|fail);all_goals conv=>whnf))
      refine acallI (k_clone m (fun h => by subst h; simp at h1) (by omega)) rfl fun r hr => ?_
      subst hr
      ((conv=>whnf);repeat'((first|(show(_=true→_)∧(_=false→_);first|refine gT ?_|refine gF ?_|refine gS ?_ ?_<;>(intro _h;try contradiction))|(show(_=false→_)∧(_=true→_);first|refine gU ?_|refine gV ?_|refine gZ ?_ ?_<;>(intro _h;try contradiction))|(intro _h;try contradiction)|(show _∧_;refine gA ?_)|fail);all_goals conv=>whnf))
      refine Ends.imm rfl ?_
      rw [if_neg (by omega)]
      exact ⟨n, n0, rr, rfl, hR, by omega, hnv, hm, hn0⟩
    · refine Ends.imm rfl ?_
      have : notMod m = 22 := by
        unfold notMod
        rw [hsz, if_neg (by simp), if_pos (.inl _h)]
      rw [this, if_pos (by omega)]

theorem Key.pos {m n : List Int} {n0 : Int} {rr : List Int} (h : Key m n n0 rr) : 1 < bn m ∧ 16 ≤ n.length ∧ n.length ≤ 128 ∧ sized m.length = true := by
  have h1 := h.ring.h1
  have h2 := h.right
  have h3 := h.len
  unfold notMod at h2
  have hs : sized m.length = true := by
    cases hs : sized m.length with
    | true => rfl
    | false => rw [hs] at h2; simp at h2
  have := sized_spec.1 hs
  rw [h.val] at h1
  exact ⟨h1, by omega, by omega, hs⟩

/-- What a power comes to. -/
def powV (m block exp : List Int) : AVal :=
  if block.length ≠ m.length then .tup [.nls (byt []), i64 24]
  else if bn m ≤ bn block then .tup [.nls (byt []), i64 13]
  else if 1024 < exp.length then .tup [.nls (byt []), i64 11]
  else .tup [.d (byt (be m.length (bn block ^ ev exp % bn m).toNat)), i64 0]

theorem k_power (m n : List Int) (n0 : Int) (rr : List Int) (h : Key m n n0 rr) (block exp : List Int) (hb : wfd block) (he : wfd exp) :
    Imm Tryd.prog 48 [.d (keyD m n n0 rr), .d (byt block), .d (byt exp)] (fun r => r = powV m block exp) := by
  obtain ⟨h1, h2, h3, hs⟩ := h.pos
  have hl := h.len
  have e2 : IntKind.i64.wrap ((m.length : Int).tdiv 4) = (n.length : Nat) := by rw [Int.tdiv_eq_ediv_of_nonneg (by omega), wrap_i64 (by omega) (by omega)]; omega
  (refine Imm.of_awp told0 [] Tryd.func48 rfl (by decide) (Nat.le_of_ble_eq_true rfl) ?_; intro _w0 _S0 _E0 _B0; ((conv=>whnf);repeat'((first|(show(_=true→_)∧(_=false→_);first|refine nTt ?_|refine nFf ?_|refine gS ?_ ?_<;>(intro _h;try contradiction))|(show(_=false→_)∧(_=true→_);first|refine nU ?_|refine nV ?_|refine gZ ?_ ?_<;>(intro _h;try contradiction))|(intro _h;try contradiction)|(show _∧_;refine gA ?_)|fail);all_goals conv=>whnf)))
  refine acallI (k_size m n n0 rr) rfl fun r hr => ?_
  subst hr
  by_cases hbl : block.length = m.length
  · have hbl' : (block.length : Int) = m.length := by omega
    ((conv=>whnf);repeat'((first|(show(_=true→_)∧(_=false→_);first|refine gT ?_|refine gF ?_|refine gS ?_ ?_<;>(intro _h;try contradiction))|(show(_=false→_)∧(_=true→_);first|refine gU ?_|refine gV ?_|refine gZ ?_ ?_<;>(intro _h;try contradiction))|(intro _h;try contradiction)|(show _∧_;refine gA ?_)|fail);all_goals conv=>whnf))
    refine acallI (k_size m n n0 rr) rfl fun r hr => ?_
    subst hr
    ((conv=>whnf);repeat'((first|(show(_=true→_)∧(_=false→_);first|refine gT ?_|refine gF ?_|refine gS ?_ ?_<;>(intro _h;try contradiction))|(show(_=false→_)∧(_=true→_);first|refine gU ?_|refine gV ?_|refine gZ ?_ ?_<;>(intro _h;try contradiction))|(intro _h;try contradiction)|(show _∧_;refine gA ?_)|fail);all_goals conv=>whnf))
    refine acallI (k_from block n.length hb (by omega) (by omega)) (by rw [← e2]; rfl) fun r hr => ?_
    obtain ⟨x, rfl, hxl, hxw, hxv⟩ := hr
    ((conv=>whnf);repeat'((first|(show(_=true→_)∧(_=false→_);first|refine gT ?_|refine gF ?_|refine gS ?_ ?_<;>(intro _h;try contradiction))|(show(_=false→_)∧(_=true→_);first|refine gU ?_|refine gV ?_|refine gZ ?_ ?_<;>(intro _h;try contradiction))|(intro _h;try contradiction)|(show _∧_;refine gA ?_)|fail);all_goals conv=>whnf))
    refine acallI (f18 n n0 rr x exp h.ring hxw he) rfl fun r hr => ?_
    have hne : notEl n x = decide (bn m ≤ bn block) := by
      unfold notEl
      rw [h.val, hxv, hxl, decide_eq_false (fun h => h rfl)]
      exact Bool.false_or _
    cases hge : decide (bn m ≤ bn block) with
    | true =>
      have hge' := of_decide_eq_true hge
      rw [hne, hge, if_pos rfl] at hr
      subst hr
      ((conv=>whnf);repeat'((first|(show(_=true→_)∧(_=false→_);first|refine gT ?_|refine gF ?_|refine gS ?_ ?_<;>(intro _h;try contradiction))|(show(_=false→_)∧(_=true→_);first|refine gU ?_|refine gV ?_|refine gZ ?_ ?_<;>(intro _h;try contradiction))|(intro _h;try contradiction)|(show _∧_;refine gA ?_)|fail);all_goals conv=>whnf))
      refine Ends.imm rfl ?_
      unfold powV
      rw [if_neg (by omega), if_pos hge']
    | false =>
      have hge' := of_decide_eq_false hge
      rw [hne, hge, if_neg (by simp)] at hr
      by_cases hel : 1024 < exp.length
      · rw [if_pos hel] at hr
        subst hr
        ((conv=>whnf);repeat'((first|(show(_=true→_)∧(_=false→_);first|refine gT ?_|refine gF ?_|refine gS ?_ ?_<;>(intro _h;try contradiction))|(show(_=false→_)∧(_=true→_);first|refine gU ?_|refine gV ?_|refine gZ ?_ ?_<;>(intro _h;try contradiction))|(intro _h;try contradiction)|(show _∧_;refine gA ?_)|fail);all_goals conv=>whnf))
        refine Ends.imm rfl ?_
        unfold powV
        rw [if_neg (by omega), if_neg hge', if_pos hel]
      · rw [if_neg hel] at hr
        obtain ⟨z, rfl, hzl, hzw, hzv⟩ := hr
        ((conv=>whnf);repeat'((first|(show(_=true→_)∧(_=false→_);first|refine gT ?_|refine gF ?_|refine gS ?_ ?_<;>(intro _h;try contradiction))|(show(_=false→_)∧(_=true→_);first|refine gU ?_|refine gV ?_|refine gZ ?_ ?_<;>(intro _h;try contradiction))|(intro _h;try contradiction)|(show _∧_;refine gA ?_)|fail);all_goals conv=>whnf))
        refine acallI (k_size m n n0 rr) rfl fun r hr => ?_
        subst hr
        ((conv=>whnf);repeat'((first|(show(_=true→_)∧(_=false→_);first|refine gT ?_|refine gF ?_|refine gS ?_ ?_<;>(intro _h;try contradiction))|(show(_=false→_)∧(_=true→_);first|refine gU ?_|refine gV ?_|refine gZ ?_ ?_<;>(intro _h;try contradiction))|(intro _h;try contradiction)|(show _∧_;refine gA ?_)|fail);all_goals conv=>whnf))
        have ev1 : val z = bn block ^ ev exp % bn m := by rw [hzv, h.val, hxv]; rfl
        refine acallI (k_bytes z m.length hzw ?_ (by omega) ?_) rfl fun r hr => ?_
        · unfold bad
          rw [hzl, decide_eq_false (by omega), decide_eq_false (by omega)]
          rfl
        · rw [ev1]
          have a1 := Int.emod_lt_of_pos (bn block ^ ev exp) (show 0 < bn m by omega)
          have a2 := dval_lt h.wf.reverse
          rw [List.length_reverse] at a2
          have a3 : bn m < dpw m.length := a2
          omega
        · subst hr
          ((conv=>whnf);repeat'((first|(show(_=true→_)∧(_=false→_);first|refine gT ?_|refine gF ?_|refine gS ?_ ?_<;>(intro _h;try contradiction))|(show(_=false→_)∧(_=true→_);first|refine gU ?_|refine gV ?_|refine gZ ?_ ?_<;>(intro _h;try contradiction))|(intro _h;try contradiction)|(show _∧_;refine gA ?_)|fail);all_goals conv=>whnf))
          refine Ends.imm rfl ?_
          unfold powV
          rw [if_neg (by omega), if_neg hge', if_neg hel, ev1]
  · have hbl' : ¬ (block.length : Int) = m.length := by omega
    ((conv=>whnf);repeat'((first|(show(_=true→_)∧(_=false→_);first|refine gT ?_|refine gF ?_|refine gS ?_ ?_<;>(intro _h;try contradiction))|(show(_=false→_)∧(_=true→_);first|refine gU ?_|refine gV ?_|refine gZ ?_ ?_<;>(intro _h;try contradiction))|(intro _h;try contradiction)|(show _∧_;refine gA ?_)|fail);all_goals conv=>whnf))
    refine Ends.imm rfl ?_
    unfold powV
    rw [if_pos (by omega)]

theorem powV_form (m block exp : List Int) : (∃ e, powV m block exp = .tup [.nls (byt []), i64 e]) ∨ ∃ zs, powV m block exp = .tup [.d (byt zs), i64 0] := by
  unfold powV
  repeat' split
  · exact .inl ⟨_, rfl⟩
  · exact .inl ⟨_, rfl⟩
  · exact .inl ⟨_, rfl⟩
  · exact .inr ⟨_, rfl⟩

theorem aev_global {P : Program} {s : AState} {ty : TypeId} {g : Nat} {d : D} (h : Globs.gl g = some d) : aev P s ty (.global g) = .d (.ptr d) := by
  simp only [aev, h]

/-- The exponent of all keys. -/
def EXP : D := .agg [.int .u8 1, .int .u8 0, .int .u8 1]

theorem k_open (hG : Globs.gl 0 = some EXP) (m n : List Int) (n0 : Int) (rr : List Int) (h : Key m n n0 rr) (sig : List Int) (hs : wfd sig) :
    Imm Tryd.prog 18 [.d (keyD m n n0 rr), .d (byt sig)] (fun r => r = powV m sig [1, 0, 1]) := by
  (refine Imm.of_awp told0 [] Tryd.func18 rfl (by decide) (Nat.le_of_ble_eq_true rfl) ?_; intro _w0 _S0 _E0 _B0; ((conv=>whnf);repeat'((first|(show(_=true→_)∧(_=false→_);first|refine nTt ?_|refine nFf ?_|refine gS ?_ ?_<;>(intro _h;try contradiction))|(show(_=false→_)∧(_=true→_);first|refine nU ?_|refine nV ?_|refine gZ ?_ ?_<;>(intro _h;try contradiction))|(intro _h;try contradiction)|(show _∧_;refine gA ?_)|fail);all_goals conv=>whnf)))
  rw [aev_global hG]
  ((conv=>whnf);repeat'((first|(show(_=true→_)∧(_=false→_);first|refine nTt ?_|refine nFf ?_|refine gS ?_ ?_<;>(intro _h;try contradiction))|(show(_=false→_)∧(_=true→_);first|refine nU ?_|refine nV ?_|refine gZ ?_ ?_<;>(intro _h;try contradiction))|(intro _h;try contradiction)|(show _∧_;refine gA ?_)|fail);all_goals conv=>whnf))
  refine acallI (k_power m n n0 rr h sig [1, 0, 1] hs (fun x hx => by simp at hx; omega)) rfl fun r hr => ?_
  rcases powV_form m sig [1, 0, 1] with ⟨e, he⟩ | ⟨zs, he⟩ <;> rw [he] at hr <;> subst hr
  · ((conv=>whnf);repeat'((first|(show(_=true→_)∧(_=false→_);first|refine nTt ?_|refine nFf ?_|refine gS ?_ ?_<;>(intro _h;try contradiction))|(show(_=false→_)∧(_=true→_);first|refine nU ?_|refine nV ?_|refine gZ ?_ ?_<;>(intro _h;try contradiction))|(intro _h;try contradiction)|(show _∧_;refine gA ?_)|fail);all_goals conv=>whnf))
    exact Ends.imm rfl he.symm
  · ((conv=>whnf);repeat'((first|(show(_=true→_)∧(_=false→_);first|refine nTt ?_|refine nFf ?_|refine gS ?_ ?_<;>(intro _h;try contradiction))|(show(_=false→_)∧(_=true→_);first|refine nU ?_|refine nV ?_|refine gZ ?_ ?_<;>(intro _h;try contradiction))|(intro _h;try contradiction)|(show _∧_;refine gA ?_)|fail);all_goals conv=>whnf))
    exact Ends.imm rfl he.symm

theorem k_close (m secret block : List Int) (hm : wfd m) (hs : wfd secret) (hb : wfd block) (hl : m.length ≤ LIM) :
    Imm Tryd.prog 21 [.d (byt m), .d (byt secret), .d (byt block)] (fun r => r = if notMod m ≠ 0 then .tup [.nls (byt []), i64 (notMod m)] else powV m block secret) := by
  (refine Imm.of_awp told0 [] Tryd.func21 rfl (by decide) (Nat.le_of_ble_eq_true rfl) ?_; intro _w0 _S0 _E0 _B0; ((conv=>whnf);repeat'((first|(show(_=true→_)∧(_=false→_);first|refine nTt ?_|refine nFf ?_|refine gS ?_ ?_<;>(intro _h;try contradiction))|(show(_=false→_)∧(_=true→_);first|refine nU ?_|refine nV ?_|refine gZ ?_ ?_<;>(intro _h;try contradiction))|(intro _h;try contradiction)|(show _∧_;refine gA ?_)|fail);all_goals conv=>whnf)))
  refine acallI (k_make m hm hl) rfl fun r hr => ?_
  by_cases hn : notMod m ≠ 0
  · rw [if_pos hn] at hr
    subst hr
    ((conv=>whnf);repeat'((first|(show(_=true→_)∧(_=false→_);first|refine gT ?_|refine gF ?_|refine gS ?_ ?_<;>(intro _h;try contradiction))|(show(_=false→_)∧(_=true→_);first|refine gU ?_|refine gV ?_|refine gZ ?_ ?_<;>(intro _h;try contradiction))|(intro _h;try contradiction)|(show _∧_;refine gA ?_)|fail);all_goals conv=>whnf))
    exact Ends.imm rfl (by rw [if_pos hn])
  · rw [if_neg hn] at hr
    obtain ⟨n, n0, rr, rfl, hk⟩ := hr
    ((conv=>whnf);repeat'((first|(show(_=true→_)∧(_=false→_);first|refine gT ?_|refine gF ?_|refine gS ?_ ?_<;>(intro _h;try contradiction))|(show(_=false→_)∧(_=true→_);first|refine gU ?_|refine gV ?_|refine gZ ?_ ?_<;>(intro _h;try contradiction))|(intro _h;try contradiction)|(show _∧_;refine gA ?_)|fail);all_goals conv=>whnf))
    refine acallI (k_power m n n0 rr hk block secret hb hs) rfl fun r hr => ?_
    rw [if_neg hn]
    rcases powV_form m block secret with ⟨e, he⟩ | ⟨zs, he⟩ <;> rw [he] at hr <;> subst hr
    · ((conv=>whnf);repeat'((first|(show(_=true→_)∧(_=false→_);first|refine gT ?_|refine gF ?_|refine gS ?_ ?_<;>(intro _h;try contradiction))|(show(_=false→_)∧(_=true→_);first|refine gU ?_|refine gV ?_|refine gZ ?_ ?_<;>(intro _h;try contradiction))|(intro _h;try contradiction)|(show _∧_;refine gA ?_)|fail);all_goals conv=>whnf))
      exact Ends.imm rfl he.symm
    · ((conv=>whnf);repeat'((first|(show(_=true→_)∧(_=false→_);first|refine gT ?_|refine gF ?_|refine gS ?_ ?_<;>(intro _h;try contradiction))|(show(_=false→_)∧(_=true→_);first|refine gU ?_|refine gV ?_|refine gZ ?_ ?_<;>(intro _h;try contradiction))|(intro _h;try contradiction)|(show _∧_;refine gA ?_)|fail);all_goals conv=>whnf))
      exact Ends.imm rfl he.symm

/-- A square, again and again. -/
def sq (x n : Int) : Nat → Int
  | 0 => x
  | k + 1 => sq x n k * sq x n k % n
def toldROpen : AW.Told := told0

end Go.Proofs.YtniaeiikdgbnfaaDoor.R
