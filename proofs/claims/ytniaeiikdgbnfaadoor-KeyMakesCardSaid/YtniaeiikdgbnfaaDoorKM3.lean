/- Parts R4, M2, R5, R6, R7, M3, R8, R9, R10, R11, R12, R13, R14, R15. No condition of its own. -/
import Derived.Test.YtniaeiikdgbnfaaDoorKM2
import Derived.Shelf.RegionOpen
import Derived.WalkKit
import Derived.TacticsInMore
import Derived.LoopIn
import Derived.OwnWalkIn

namespace Go.Proofs.YtniaeiikdgbnfaaDoor.R
open Go Go.RowKit Go.Proofs Go.Proofs.YtniaeiikdgbnfaaDoor.AW
set_option linter.unusedSectionVars false
variable [Globs]
set_option maxRecDepth 100000
set_option linter.unusedSimpArgs false
set_option linter.unusedVariables false
set_option maxHeartbeats 4000000

theorem f48 (x : Int) : Imm Tryd.prog 127 [u32 x] (fun r => r = bool false) := by
  (refine Imm.of_awp told0 [] Tryd.func127 rfl (by decide) (Nat.le_of_ble_eq_true rfl) ?_; intro _w0 _S0 _E0 _B0; ((conv => whnf); repeat' (first | (refine And.intro ?_ ?_; (focus (first | rfl | decide | assumption | omega | decide +kernel | exact ⟨rfl, rfl⟩ | exact ⟨rfl, rfl, rfl, rfl⟩ | exact fun h => Bool.noConfusion h | exact fun _ => rfl | exact Nat.le_of_ble_eq_true rfl | (simp only [List.length_map, List.length_append, List.length_replicate, List.length_take, List.length_drop, List.length_set, List.length_cons, List.length_nil]; omega))); (conv => whnf)) | ((refine And.intro ?_ ?_ <;> intro _h); all_goals ((first | replace _h := of_decide_eq_true _h | replace _h := of_decide_eq_false _h | skip); (try simp only [Bool.not_eq_true', Bool.not_eq_false', Bool.not_true, Bool.not_false, decide_eq_true_eq, decide_eq_false_iff_not] at _h); (try (guard_hyp _h : True; clear _h)); first | done | contradiction | exact absurd ((Eq.symm _h).trans (show _ = true by assumption)) (by decide) | exact absurd ((Eq.symm _h).trans (show _ = false by assumption)) (by decide) | (conv => whnf))) | (intro _h; ((first | replace _h := of_decide_eq_true _h | replace _h := of_decide_eq_false _h | skip); (try simp only [Bool.not_eq_true', Bool.not_eq_false', Bool.not_true, Bool.not_false, decide_eq_true_eq, decide_eq_false_iff_not] at _h); (try (guard_hyp _h : True; clear _h)); first | done | contradiction | exact absurd ((Eq.symm _h).trans (show _ = true by assumption)) (by decide) | exact absurd ((Eq.symm _h).trans (show _ = false by assumption)) (by decide) | (conv => whnf))))))
  exact Ends.imm rfl (by simp)

/-- The order of two numbers. -/
def sgn (x y : Int) : Int := if x < y then -1 else if y < x then 1 else 0

theorem f36 (x y : Int) : Imm Tryd.prog 113 [u32 x, u32 y] (fun r => r = i64 (sgn x y)) := by
  (refine Imm.of_awp told0 [] Tryd.func113 rfl (by decide) (Nat.le_of_ble_eq_true rfl) ?_; intro _w0 _S0 _E0 _B0; ((conv => whnf); repeat' (first | (refine And.intro ?_ ?_; (focus (first | rfl | decide | assumption | omega | decide +kernel | exact ⟨rfl, rfl⟩ | exact ⟨rfl, rfl, rfl, rfl⟩ | exact fun h => Bool.noConfusion h | exact fun _ => rfl | exact Nat.le_of_ble_eq_true rfl | (simp only [List.length_map, List.length_append, List.length_replicate, List.length_take, List.length_drop, List.length_set, List.length_cons, List.length_nil]; omega))); (conv => whnf)) | ((refine And.intro ?_ ?_ <;> intro _h); all_goals ((first | replace _h := of_decide_eq_true _h | replace _h := of_decide_eq_false _h | skip); (try simp only [Bool.not_eq_true', Bool.not_eq_false', Bool.not_true, Bool.not_false, decide_eq_true_eq, decide_eq_false_iff_not] at _h); (try (guard_hyp _h : True; clear _h)); first | done | contradiction | exact absurd ((Eq.symm _h).trans (show _ = true by assumption)) (by decide) | exact absurd ((Eq.symm _h).trans (show _ = false by assumption)) (by decide) | (conv => whnf))) | (intro _h; ((first | replace _h := of_decide_eq_true _h | replace _h := of_decide_eq_false _h | skip); (try simp only [Bool.not_eq_true', Bool.not_eq_false', Bool.not_true, Bool.not_false, decide_eq_true_eq, decide_eq_false_iff_not] at _h); (try (guard_hyp _h : True; clear _h)); first | done | contradiction | exact absurd ((Eq.symm _h).trans (show _ = true by assumption)) (by decide) | exact absurd ((Eq.symm _h).trans (show _ = false by assumption)) (by decide) | (conv => whnf))))))
  refine acallI (f48 x) rfl fun r hr => ?_
  subst hr
  ((conv => whnf); repeat' (first | (refine And.intro ?_ ?_; (focus (first | rfl | decide | assumption | omega | decide +kernel | exact ⟨rfl, rfl⟩ | exact ⟨rfl, rfl, rfl, rfl⟩ | exact fun h => Bool.noConfusion h | exact fun _ => rfl | exact Nat.le_of_ble_eq_true rfl | (simp only [List.length_map, List.length_append, List.length_replicate, List.length_take, List.length_drop, List.length_set, List.length_cons, List.length_nil]; omega))); (conv => whnf)) | ((refine And.intro ?_ ?_ <;> intro _h); all_goals ((first | replace _h := of_decide_eq_true _h | replace _h := of_decide_eq_false _h | skip); (try simp only [Bool.not_eq_true', Bool.not_eq_false', Bool.not_true, Bool.not_false, decide_eq_true_eq, decide_eq_false_iff_not] at _h); (try (guard_hyp _h : True; clear _h)); first | done | contradiction | exact absurd ((Eq.symm _h).trans (show _ = true by assumption)) (by decide) | exact absurd ((Eq.symm _h).trans (show _ = false by assumption)) (by decide) | (conv => whnf))) | (intro _h; ((first | replace _h := of_decide_eq_true _h | replace _h := of_decide_eq_false _h | skip); (try simp only [Bool.not_eq_true', Bool.not_eq_false', Bool.not_true, Bool.not_false, decide_eq_true_eq, decide_eq_false_iff_not] at _h); (try (guard_hyp _h : True; clear _h)); first | done | contradiction | exact absurd ((Eq.symm _h).trans (show _ = true by assumption)) (by decide) | exact absurd ((Eq.symm _h).trans (show _ = false by assumption)) (by decide) | (conv => whnf)))))
  refine acallI (f48 y) rfl fun r hr => ?_
  subst hr
  ((conv => whnf); repeat' (first | (refine And.intro ?_ ?_; (focus (first | rfl | decide | assumption | omega | decide +kernel | exact ⟨rfl, rfl⟩ | exact ⟨rfl, rfl, rfl, rfl⟩ | exact fun h => Bool.noConfusion h | exact fun _ => rfl | exact Nat.le_of_ble_eq_true rfl | (simp only [List.length_map, List.length_append, List.length_replicate, List.length_take, List.length_drop, List.length_set, List.length_cons, List.length_nil]; omega))); (conv => whnf)) | ((refine And.intro ?_ ?_ <;> intro _h); all_goals ((first | replace _h := of_decide_eq_true _h | replace _h := of_decide_eq_false _h | skip); (try simp only [Bool.not_eq_true', Bool.not_eq_false', Bool.not_true, Bool.not_false, decide_eq_true_eq, decide_eq_false_iff_not] at _h); (try (guard_hyp _h : True; clear _h)); first | done | contradiction | exact absurd ((Eq.symm _h).trans (show _ = true by assumption)) (by decide) | exact absurd ((Eq.symm _h).trans (show _ = false by assumption)) (by decide) | (conv => whnf))) | (intro _h; ((first | replace _h := of_decide_eq_true _h | replace _h := of_decide_eq_false _h | skip); (try simp only [Bool.not_eq_true', Bool.not_eq_false', Bool.not_true, Bool.not_false, decide_eq_true_eq, decide_eq_false_iff_not] at _h); (try (guard_hyp _h : True; clear _h)); first | done | contradiction | exact absurd ((Eq.symm _h).trans (show _ = true by assumption)) (by decide) | exact absurd ((Eq.symm _h).trans (show _ = false by assumption)) (by decide) | (conv => whnf)))))
  · refine Ends.imm rfl (di ?_)
    unfold sgn; rw [if_pos (by assumption)]
  · refine Ends.imm rfl (di ?_)
    unfold sgn; rw [if_neg (by assumption), if_pos (by assumption)]
  · refine Ends.imm rfl (di ?_)
    unfold sgn; rw [if_neg (by assumption), if_neg (by assumption)]

theorem val_step (xs : List Int) : val xs = xs.getD 0 0 + 4294967296 * val xs.tail := by
  cases xs with
  | nil => simp [val]
  | cons x xs => simp [val]
theorem getD_tail (xs : List Int) (j : Nat) : xs.tail.getD j 0 = xs.getD (j + 1) 0 := by
  cases xs with
  | nil => simp
  | cons x xs => simp
theorem val_ext : ∀ (n : Nat) (xs ys : List Int), xs.length ≤ n → ys.length ≤ n → (∀ j, xs.getD j 0 = ys.getD j 0) → val xs = val ys
  | 0, xs, ys, h1, h2, _ => by
    rw [List.eq_nil_of_length_eq_zero (Nat.le_zero.1 h1), List.eq_nil_of_length_eq_zero (Nat.le_zero.1 h2)]
  | n + 1, xs, ys, h1, h2, h => by
    rw [val_step xs, val_step ys, h 0, val_ext n xs.tail ys.tail (by simp; omega) (by simp; omega) fun j => by rw [getD_tail, getD_tail, h]]
theorem wfl.tail {xs : List Int} (h : wfl xs) : wfl xs.tail := fun x hx => h x (List.mem_of_mem_tail hx)
theorem cmp_lt : ∀ (k : Nat) (xs ys : List Int), wfl xs → wfl ys → xs.getD k 0 < ys.getD k 0 → (∀ j, k < j → xs.getD j 0 = ys.getD j 0) → val xs < val ys
  | 0, xs, ys, hx, hy, h, he => by
    rw [val_step xs, val_step ys, val_ext (max xs.length ys.length) xs.tail ys.tail (by simp; omega) (by simp; omega) fun j => by rw [getD_tail, getD_tail, he _ (by omega)]]
    omega
  | k + 1, xs, ys, hx, hy, h, he => by
    have ih := cmp_lt k xs.tail ys.tail hx.tail hy.tail (by rw [getD_tail, getD_tail]; exact h) fun j hj => by rw [getD_tail, getD_tail, he _ (by omega)]
    rw [val_step xs, val_step ys]
    have := hx.get 0
    have := hy.get 0
    omega

theorem f23 (xs ys : List Int) (hx : wfl xs) (hy : wfl ys) (hbx : bad xs = false) (hby : bad ys = false) : Imm Tryd.prog 91 [.d (nat xs), .d (nat ys)] (fun r => r = i64 (sgn (val xs) (val ys))) := by
  (refine Imm.of_awp (⟨fun _ => false, fun r i => if r == 1 && i == 3 then [9] else [], fun _ => .done⟩ : AW.Told) [] Tryd.func91 rfl (by decide) (Nat.le_of_ble_eq_true rfl) ?_; intro _w0 _S0 _E0 _B0; ((conv => whnf); repeat' (first | (refine And.intro ?_ ?_; (focus (first | rfl | decide | assumption | omega | decide +kernel | exact ⟨rfl, rfl⟩ | exact ⟨rfl, rfl, rfl, rfl⟩ | exact fun h => Bool.noConfusion h | exact fun _ => rfl | exact Nat.le_of_ble_eq_true rfl | (simp only [List.length_map, List.length_append, List.length_replicate, List.length_take, List.length_drop, List.length_set, List.length_cons, List.length_nil]; omega))); (conv => whnf)) | ((refine And.intro ?_ ?_ <;> intro _h); all_goals ((first | replace _h := of_decide_eq_true _h | replace _h := of_decide_eq_false _h | skip); (try simp only [Bool.not_eq_true', Bool.not_eq_false', Bool.not_true, Bool.not_false, decide_eq_true_eq, decide_eq_false_iff_not] at _h); (try (guard_hyp _h : True; clear _h)); first | done | contradiction | exact absurd ((Eq.symm _h).trans (show _ = true by assumption)) (by decide) | exact absurd ((Eq.symm _h).trans (show _ = false by assumption)) (by decide) | (conv => whnf))) | (intro _h; ((first | replace _h := of_decide_eq_true _h | replace _h := of_decide_eq_false _h | skip); (try simp only [Bool.not_eq_true', Bool.not_eq_false', Bool.not_true, Bool.not_false, decide_eq_true_eq, decide_eq_false_iff_not] at _h); (try (guard_hyp _h : True; clear _h)); first | done | contradiction | exact absurd ((Eq.symm _h).trans (show _ = true by assumption)) (by decide) | exact absurd ((Eq.symm _h).trans (show _ = false by assumption)) (by decide) | (conv => whnf))))))
  refine acallI (f35 [xs, ys]) rfl fun r hr => ?_
  subst hr
  ((conv => whnf); repeat' (first | (refine And.intro ?_ ?_; (focus (first | rfl | decide | assumption | omega | decide +kernel | exact ⟨rfl, rfl⟩ | exact ⟨rfl, rfl, rfl, rfl⟩ | exact fun h => Bool.noConfusion h | exact fun _ => rfl | exact Nat.le_of_ble_eq_true rfl | (simp only [List.length_map, List.length_append, List.length_replicate, List.length_take, List.length_drop, List.length_set, List.length_cons, List.length_nil]; omega))); (conv => whnf)) | ((refine And.intro ?_ ?_ <;> intro _h); all_goals ((first | replace _h := of_decide_eq_true _h | replace _h := of_decide_eq_false _h | skip); (try simp only [Bool.not_eq_true', Bool.not_eq_false', Bool.not_true, Bool.not_false, decide_eq_true_eq, decide_eq_false_iff_not] at _h); (try (guard_hyp _h : True; clear _h)); first | done | contradiction | exact absurd ((Eq.symm _h).trans (show _ = true by assumption)) (by decide) | exact absurd ((Eq.symm _h).trans (show _ = false by assumption)) (by decide) | (conv => whnf))) | (intro _h; ((first | replace _h := of_decide_eq_true _h | replace _h := of_decide_eq_false _h | skip); (try simp only [Bool.not_eq_true', Bool.not_eq_false', Bool.not_true, Bool.not_false, decide_eq_true_eq, decide_eq_false_iff_not] at _h); (try (guard_hyp _h : True; clear _h)); first | done | contradiction | exact absurd ((Eq.symm _h).trans (show _ = true by assumption)) (by decide) | exact absurd ((Eq.symm _h).trans (show _ = false by assumption)) (by decide) | (conv => whnf)))))
  · simp [hbx, hby] at _h
  · have b1 := hbx
    have b2 := hby
    unfold bad at b1 b2
    simp at b1 b2
    refine aloop (T := told0) (ι := Nat) (fun k => [(0, .d (nat xs)), (1, .d (nat ys)), (5, i64 ((k : Int) - 1))]) (fun _ => []) 32 0
      (fun k => k) (fun k => k ≤ 256 ∧ ∀ j, k ≤ j → xs.getD j 0 = ys.getD j 0)
      ⟨max xs.length ys.length, [], rfl, ⟨by omega, fun j hj => ?_⟩, by
        (refine ⟨rfl, rfl, ?_, ?_⟩ <;> repeat' (first | exact True.intro | rfl | decide | (refine And.intro ?_ ?_)))
        refine di ?_
        rw [wrap_i64 (by omega) (by omega)]; omega⟩ ?_
    · rw [List.getD_eq_getElem?_getD, List.getD_eq_getElem?_getD, List.getElem?_eq_none (by omega), List.getElem?_eq_none (by omega)]
    · intro k ⟨hk, he⟩
      ((conv => whnf); repeat' (first | (refine And.intro ?_ ?_; (focus (first | rfl | decide | assumption | omega | decide +kernel | exact ⟨rfl, rfl⟩ | exact ⟨rfl, rfl, rfl, rfl⟩ | exact fun h => Bool.noConfusion h | exact fun _ => rfl | exact Nat.le_of_ble_eq_true rfl | (simp only [List.length_map, List.length_append, List.length_replicate, List.length_take, List.length_drop, List.length_set, List.length_cons, List.length_nil]; omega))); (conv => whnf)) | ((refine And.intro ?_ ?_ <;> intro _h); all_goals ((first | replace _h := of_decide_eq_true _h | replace _h := of_decide_eq_false _h | skip); (try simp only [Bool.not_eq_true', Bool.not_eq_false', Bool.not_true, Bool.not_false, decide_eq_true_eq, decide_eq_false_iff_not] at _h); (try (guard_hyp _h : True; clear _h)); first | done | contradiction | exact absurd ((Eq.symm _h).trans (show _ = true by assumption)) (by decide) | exact absurd ((Eq.symm _h).trans (show _ = false by assumption)) (by decide) | (conv => whnf))) | (intro _h; ((first | replace _h := of_decide_eq_true _h | replace _h := of_decide_eq_false _h | skip); (try simp only [Bool.not_eq_true', Bool.not_eq_false', Bool.not_true, Bool.not_false, decide_eq_true_eq, decide_eq_false_iff_not] at _h); (try (guard_hyp _h : True; clear _h)); first | done | contradiction | exact absurd ((Eq.symm _h).trans (show _ = true by assumption)) (by decide) | exact absurd ((Eq.symm _h).trans (show _ = false by assumption)) (by decide) | (conv => whnf)))))
      · refine acallI (f37 xs ((k : Int) - 1) (by omega)) rfl fun r hr => ?_
        subst hr
        ((conv => whnf); repeat' (first | (refine And.intro ?_ ?_; (focus (first | rfl | decide | assumption | omega | decide +kernel | exact ⟨rfl, rfl⟩ | exact ⟨rfl, rfl, rfl, rfl⟩ | exact fun h => Bool.noConfusion h | exact fun _ => rfl | exact Nat.le_of_ble_eq_true rfl | (simp only [List.length_map, List.length_append, List.length_replicate, List.length_take, List.length_drop, List.length_set, List.length_cons, List.length_nil]; omega))); (conv => whnf)) | ((refine And.intro ?_ ?_ <;> intro _h); all_goals ((first | replace _h := of_decide_eq_true _h | replace _h := of_decide_eq_false _h | skip); (try simp only [Bool.not_eq_true', Bool.not_eq_false', Bool.not_true, Bool.not_false, decide_eq_true_eq, decide_eq_false_iff_not] at _h); (try (guard_hyp _h : True; clear _h)); first | done | contradiction | exact absurd ((Eq.symm _h).trans (show _ = true by assumption)) (by decide) | exact absurd ((Eq.symm _h).trans (show _ = false by assumption)) (by decide) | (conv => whnf))) | (intro _h; ((first | replace _h := of_decide_eq_true _h | replace _h := of_decide_eq_false _h | skip); (try simp only [Bool.not_eq_true', Bool.not_eq_false', Bool.not_true, Bool.not_false, decide_eq_true_eq, decide_eq_false_iff_not] at _h); (try (guard_hyp _h : True; clear _h)); first | done | contradiction | exact absurd ((Eq.symm _h).trans (show _ = true by assumption)) (by decide) | exact absurd ((Eq.symm _h).trans (show _ = false by assumption)) (by decide) | (conv => whnf)))))
        refine acallI (f37 ys ((k : Int) - 1) (by omega)) rfl fun r hr => ?_
        subst hr
        ((conv => whnf); repeat' (first | (refine And.intro ?_ ?_; (focus (first | rfl | decide | assumption | omega | decide +kernel | exact ⟨rfl, rfl⟩ | exact ⟨rfl, rfl, rfl, rfl⟩ | exact fun h => Bool.noConfusion h | exact fun _ => rfl | exact Nat.le_of_ble_eq_true rfl | (simp only [List.length_map, List.length_append, List.length_replicate, List.length_take, List.length_drop, List.length_set, List.length_cons, List.length_nil]; omega))); (conv => whnf)) | ((refine And.intro ?_ ?_ <;> intro _h); all_goals ((first | replace _h := of_decide_eq_true _h | replace _h := of_decide_eq_false _h | skip); (try simp only [Bool.not_eq_true', Bool.not_eq_false', Bool.not_true, Bool.not_false, decide_eq_true_eq, decide_eq_false_iff_not] at _h); (try (guard_hyp _h : True; clear _h)); first | done | contradiction | exact absurd ((Eq.symm _h).trans (show _ = true by assumption)) (by decide) | exact absurd ((Eq.symm _h).trans (show _ = false by assumption)) (by decide) | (conv => whnf))) | (intro _h; ((first | replace _h := of_decide_eq_true _h | replace _h := of_decide_eq_false _h | skip); (try simp only [Bool.not_eq_true', Bool.not_eq_false', Bool.not_true, Bool.not_false, decide_eq_true_eq, decide_eq_false_iff_not] at _h); (try (guard_hyp _h : True; clear _h)); first | done | contradiction | exact absurd ((Eq.symm _h).trans (show _ = true by assumption)) (by decide) | exact absurd ((Eq.symm _h).trans (show _ = false by assumption)) (by decide) | (conv => whnf)))))
        refine acallI (f36 _ _) rfl fun r hr => ?_
        subst hr
        obtain ⟨m, rfl⟩ : ∃ m, k = m + 1 := ⟨k - 1, by omega⟩
        have em : ((m + 1 : Nat) : Int) - 1 = m := by omega
        rw [em, Int.toNat_natCast]
        ((conv => whnf); repeat' (first | (refine And.intro ?_ ?_; (focus (first | rfl | decide | assumption | omega | decide +kernel | exact ⟨rfl, rfl⟩ | exact ⟨rfl, rfl, rfl, rfl⟩ | exact fun h => Bool.noConfusion h | exact fun _ => rfl | exact Nat.le_of_ble_eq_true rfl | (simp only [List.length_map, List.length_append, List.length_replicate, List.length_take, List.length_drop, List.length_set, List.length_cons, List.length_nil]; omega))); (conv => whnf)) | ((refine And.intro ?_ ?_ <;> intro _h); all_goals ((first | replace _h := of_decide_eq_true _h | replace _h := of_decide_eq_false _h | skip); (try simp only [Bool.not_eq_true', Bool.not_eq_false', Bool.not_true, Bool.not_false, decide_eq_true_eq, decide_eq_false_iff_not] at _h); (try (guard_hyp _h : True; clear _h)); first | done | contradiction | exact absurd ((Eq.symm _h).trans (show _ = true by assumption)) (by decide) | exact absurd ((Eq.symm _h).trans (show _ = false by assumption)) (by decide) | (conv => whnf))) | (intro _h; ((first | replace _h := of_decide_eq_true _h | replace _h := of_decide_eq_false _h | skip); (try simp only [Bool.not_eq_true', Bool.not_eq_false', Bool.not_true, Bool.not_false, decide_eq_true_eq, decide_eq_false_iff_not] at _h); (try (guard_hyp _h : True; clear _h)); first | done | contradiction | exact absurd ((Eq.symm _h).trans (show _ = true by assumption)) (by decide) | exact absurd ((Eq.symm _h).trans (show _ = false by assumption)) (by decide) | (conv => whnf)))))
        · refine Ends.imm rfl (di ?_)
          have hgt : ∀ j, m < j → xs.getD j 0 = ys.getD j 0 := fun j hj => he j hj
          have l1 := cmp_lt m xs ys hx hy
          have l2 := cmp_lt m ys xs hy hx
          unfold sgn at _h ⊢
          rcases Int.lt_trichotomy (xs.getD m 0) (ys.getD m 0) with h1 | h1 | h1
          · have := l1 h1 hgt
            rw [if_pos h1, if_pos this]
          · rw [h1] at _h; simp at _h
          · have := l2 h1 fun j hj => (hgt j hj).symm
            rw [if_neg (by omega), if_pos h1, if_neg (by omega), if_pos this]
        · refine ⟨m, [], by omega, ⟨by omega, fun j hj => ?_⟩, rfl, ?_⟩
          · rcases Nat.lt_or_ge m j with h | h
            · exact he j h
            · have : j = m := by omega
              subst this
              unfold sgn at _h
              rcases Int.lt_trichotomy (xs.getD j 0) (ys.getD j 0) with h1 | h1 | h1
              · rw [if_pos h1] at _h; simp at _h
              · exact h1
              · rw [if_neg (by omega), if_pos h1] at _h; simp at _h
          · (refine ⟨rfl, rfl, ?_, ?_⟩ <;> repeat' (first | exact True.intro | rfl | decide | (refine And.intro ?_ ?_)))
            refine di ?_
            rw [wrap_i64 (by omega) (by omega)]
      · refine Ends.imm rfl (di ?_)
        have : k = 0 := by omega
        subst this
        rw [val_ext (max xs.length ys.length) xs ys (by omega) (by omega) fun j => he j (by omega)]
        simp [sgn]

/-- A ring, as the code has it. -/
abbrev ringD (n : List Int) (n0 : Int) (rr : List Int) : D := .ptr (.agg [nat n, .int .u32 n0, nat rr])

theorem mod_of {n x zs : List Int} {c : Int} (hz : wfl zs) (hzl : zs.length = x.length) (hv : val zs - pw x.length * c = val x - val n) : val zs = (val x - val n) % pw x.length := by
  rw [← hv, Int.sub_mul_emod_self_left]
  have h1 := val_lt hz
  rw [hzl] at h1
  exact (Int.emod_eq_of_lt (val_nonneg hz) h1).symm

/-- What 'less' gives. -/
def lessS (n x : List Int) (over : Bool) (z : List Int) : Prop :=
  z.length = n.length ∧ wfl z ∧ (if over = true ∨ val n ≤ val x then val z = (val x - val n) % pw n.length else z = x)

theorem f41 (n : List Int) (n0 : Int) (rr x : List Int) (over : Bool) (hn : wfl n) (hx : wfl x) (hbn : bad n = false) (hl : x.length = n.length) :
    Imm Tryd.prog 88 [.d (ringD n n0 rr), .d (nat x), bool over] (fun r => ∃ z, r = .d (nat z) ∧ lessS n x over z) := by
  have hbx : bad x = false := by unfold bad at hbn ⊢; rw [hl]; exact hbn
  (refine Imm.of_awp told0 [] Tryd.func88 rfl (by decide) (Nat.le_of_ble_eq_true rfl) ?_; intro _w0 _S0 _E0 _B0; ((conv => whnf); repeat' (first | (refine And.intro ?_ ?_; (focus (first | rfl | decide | assumption | omega | decide +kernel | exact ⟨rfl, rfl⟩ | exact ⟨rfl, rfl, rfl, rfl⟩ | exact fun h => Bool.noConfusion h | exact fun _ => rfl | exact Nat.le_of_ble_eq_true rfl | (simp only [List.length_map, List.length_append, List.length_replicate, List.length_take, List.length_drop, List.length_set, List.length_cons, List.length_nil]; omega))); (conv => whnf)) | ((refine And.intro ?_ ?_ <;> intro _h); all_goals ((first | replace _h := of_decide_eq_true _h | replace _h := of_decide_eq_false _h | skip); (try simp only [Bool.not_eq_true', Bool.not_eq_false', Bool.not_true, Bool.not_false, decide_eq_true_eq, decide_eq_false_iff_not] at _h); (try (guard_hyp _h : True; clear _h)); first | done | contradiction | exact absurd ((Eq.symm _h).trans (show _ = true by assumption)) (by decide) | exact absurd ((Eq.symm _h).trans (show _ = false by assumption)) (by decide) | (conv => whnf))) | (intro _h; ((first | replace _h := of_decide_eq_true _h | replace _h := of_decide_eq_false _h | skip); (try simp only [Bool.not_eq_true', Bool.not_eq_false', Bool.not_true, Bool.not_false, decide_eq_true_eq, decide_eq_false_iff_not] at _h); (try (guard_hyp _h : True; clear _h)); first | done | contradiction | exact absurd ((Eq.symm _h).trans (show _ = true by assumption)) (by decide) | exact absurd ((Eq.symm _h).trans (show _ = false by assumption)) (by decide) | (conv => whnf))))))
  refine acallI (f50 x n hx hn) rfl fun r hr => ?_
  rw [if_neg (by simp [hbx, hbn, hl])] at hr
  obtain ⟨zs, c, rfl, hzl, hz, hc, hv⟩ := hr
  ((conv => whnf); repeat' (first | (refine And.intro ?_ ?_; (focus (first | rfl | decide | assumption | omega | decide +kernel | exact ⟨rfl, rfl⟩ | exact ⟨rfl, rfl, rfl, rfl⟩ | exact fun h => Bool.noConfusion h | exact fun _ => rfl | exact Nat.le_of_ble_eq_true rfl | (simp only [List.length_map, List.length_append, List.length_replicate, List.length_take, List.length_drop, List.length_set, List.length_cons, List.length_nil]; omega))); (conv => whnf)) | ((refine And.intro ?_ ?_ <;> intro _h); all_goals ((first | replace _h := of_decide_eq_true _h | replace _h := of_decide_eq_false _h | skip); (try simp only [Bool.not_eq_true', Bool.not_eq_false', Bool.not_true, Bool.not_false, decide_eq_true_eq, decide_eq_false_iff_not] at _h); (try (guard_hyp _h : True; clear _h)); first | done | contradiction | exact absurd ((Eq.symm _h).trans (show _ = true by assumption)) (by decide) | exact absurd ((Eq.symm _h).trans (show _ = false by assumption)) (by decide) | (conv => whnf))) | (intro _h; ((first | replace _h := of_decide_eq_true _h | replace _h := of_decide_eq_false _h | skip); (try simp only [Bool.not_eq_true', Bool.not_eq_false', Bool.not_true, Bool.not_false, decide_eq_true_eq, decide_eq_false_iff_not] at _h); (try (guard_hyp _h : True; clear _h)); first | done | contradiction | exact absurd ((Eq.symm _h).trans (show _ = true by assumption)) (by decide) | exact absurd ((Eq.symm _h).trans (show _ = false by assumption)) (by decide) | (conv => whnf)))))
  all_goals refine Ends.imm rfl ?_
  · refine ⟨zs, rfl, by rw [hzl, hl], hz, ?_⟩
    have : c = 0 := by omega
    subst this
    rw [if_pos (.inr (by have := val_nonneg hz; omega)), ← hl, mod_of hz hzl hv]
  · refine ⟨x, rfl, hl, hx, ?_⟩
    rw [if_neg]
    have h1 := val_lt hz
    rw [hzl] at h1
    have : over = false := by assumption
    subst this
    subst c
    simp; omega
  · refine ⟨zs, rfl, by rw [hzl, hl], hz, ?_⟩
    rw [if_pos (.inl (by assumption)), ← hl, mod_of hz hzl hv]

theorem dbl {n x zs z : List Int} {c : Int} (hn : wfl n) (hx : wfl x) (hl : x.length = n.length) (hv : val x < val n) (hzl : zs.length = x.length) (hz : wfl zs) (hc : c = 0 ∨ c = 1)
    (hvz : val zs + pw x.length * c = val x + val x) (hz1 : z.length = n.length) (hz2 : wfl z)
    (hz3 : if (decide (c = 1)) = true ∨ val n ≤ val zs then val z = (val zs - val n) % pw n.length else z = zs) : val z = (2 * val x) % val n := by
  have h0 := val_nonneg hx
  have h1 := val_lt hz
  have h2 := val_nonneg hz
  have h3 := val_lt hn
  rw [hzl, hl] at h1
  rw [hl] at hvz
  by_cases hbig : val n ≤ 2 * val x
  · have e1 : (2 * val x) % val n = 2 * val x - val n := by
      rw [← Int.sub_emod_right, Int.emod_eq_of_lt] <;> omega
    rw [if_pos] at hz3
    · rw [hz3, e1]
      have : val zs - val n = 2 * val x - val n - pw n.length * c := by omega
      rw [this, Int.sub_mul_emod_self_left, Int.emod_eq_of_lt] <;> omega
    · rcases hc with rfl | rfl
      · right; omega
      · left; simp
  · have hc0 : c = 0 := by
      rcases hc with h | h
      · exact h
      · subst h; have := pw_pos n.length; omega
    subst hc0
    rw [if_neg (by simp; omega)] at hz3
    rw [hz3, Int.emod_eq_of_lt] <;> omega

theorem f28 (n : List Int) (n0 : Int) (rr x : List Int) (hn : wfl n) (hx : wfl x) (hbn : bad n = false) (hl : x.length = n.length) (hv : val x < val n) :
    Imm Tryd.prog 58 [.d (ringD n n0 rr), .d (nat x)] (fun r => ∃ z, r = .d (nat z) ∧ z.length = n.length ∧ wfl z ∧ val z = (2 * val x) % val n) := by
  have hbx : bad x = false := by unfold bad at hbn ⊢; rw [hl]; exact hbn
  (refine Imm.of_awp told0 [] Tryd.func58 rfl (by decide) (Nat.le_of_ble_eq_true rfl) ?_; intro _w0 _S0 _E0 _B0; ((conv => whnf); repeat' (first | (refine And.intro ?_ ?_; (focus (first | rfl | decide | assumption | omega | decide +kernel | exact ⟨rfl, rfl⟩ | exact ⟨rfl, rfl, rfl, rfl⟩ | exact fun h => Bool.noConfusion h | exact fun _ => rfl | exact Nat.le_of_ble_eq_true rfl | (simp only [List.length_map, List.length_append, List.length_replicate, List.length_take, List.length_drop, List.length_set, List.length_cons, List.length_nil]; omega))); (conv => whnf)) | ((refine And.intro ?_ ?_ <;> intro _h); all_goals ((first | replace _h := of_decide_eq_true _h | replace _h := of_decide_eq_false _h | skip); (try simp only [Bool.not_eq_true', Bool.not_eq_false', Bool.not_true, Bool.not_false, decide_eq_true_eq, decide_eq_false_iff_not] at _h); (try (guard_hyp _h : True; clear _h)); first | done | contradiction | exact absurd ((Eq.symm _h).trans (show _ = true by assumption)) (by decide) | exact absurd ((Eq.symm _h).trans (show _ = false by assumption)) (by decide) | (conv => whnf))) | (intro _h; ((first | replace _h := of_decide_eq_true _h | replace _h := of_decide_eq_false _h | skip); (try simp only [Bool.not_eq_true', Bool.not_eq_false', Bool.not_true, Bool.not_false, decide_eq_true_eq, decide_eq_false_iff_not] at _h); (try (guard_hyp _h : True; clear _h)); first | done | contradiction | exact absurd ((Eq.symm _h).trans (show _ = true by assumption)) (by decide) | exact absurd ((Eq.symm _h).trans (show _ = false by assumption)) (by decide) | (conv => whnf))))))
  refine acallI (f40 x x hx hx) rfl fun r hr => ?_
  rw [if_neg (by simp [hbx])] at hr
  obtain ⟨zs, c, rfl, hzl, hz, hc, hvz⟩ := hr
  ((conv => whnf); repeat' (first | (refine And.intro ?_ ?_; (focus (first | rfl | decide | assumption | omega | decide +kernel | exact ⟨rfl, rfl⟩ | exact ⟨rfl, rfl, rfl, rfl⟩ | exact fun h => Bool.noConfusion h | exact fun _ => rfl | exact Nat.le_of_ble_eq_true rfl | (simp only [List.length_map, List.length_append, List.length_replicate, List.length_take, List.length_drop, List.length_set, List.length_cons, List.length_nil]; omega))); (conv => whnf)) | ((refine And.intro ?_ ?_ <;> intro _h); all_goals ((first | replace _h := of_decide_eq_true _h | replace _h := of_decide_eq_false _h | skip); (try simp only [Bool.not_eq_true', Bool.not_eq_false', Bool.not_true, Bool.not_false, decide_eq_true_eq, decide_eq_false_iff_not] at _h); (try (guard_hyp _h : True; clear _h)); first | done | contradiction | exact absurd ((Eq.symm _h).trans (show _ = true by assumption)) (by decide) | exact absurd ((Eq.symm _h).trans (show _ = false by assumption)) (by decide) | (conv => whnf))) | (intro _h; ((first | replace _h := of_decide_eq_true _h | replace _h := of_decide_eq_false _h | skip); (try simp only [Bool.not_eq_true', Bool.not_eq_false', Bool.not_true, Bool.not_false, decide_eq_true_eq, decide_eq_false_iff_not] at _h); (try (guard_hyp _h : True; clear _h)); first | done | contradiction | exact absurd ((Eq.symm _h).trans (show _ = true by assumption)) (by decide) | exact absurd ((Eq.symm _h).trans (show _ = false by assumption)) (by decide) | (conv => whnf)))))
  refine acallI (f41 n n0 rr zs (decide (c = 1)) hn hz hbn (by omega)) rfl fun r hr => ?_
  obtain ⟨z, rfl, hz1, hz2, hz3⟩ := hr
  ((conv => whnf); repeat' (first | (refine And.intro ?_ ?_; (focus (first | rfl | decide | assumption | omega | decide +kernel | exact ⟨rfl, rfl⟩ | exact ⟨rfl, rfl, rfl, rfl⟩ | exact fun h => Bool.noConfusion h | exact fun _ => rfl | exact Nat.le_of_ble_eq_true rfl | (simp only [List.length_map, List.length_append, List.length_replicate, List.length_take, List.length_drop, List.length_set, List.length_cons, List.length_nil]; omega))); (conv => whnf)) | ((refine And.intro ?_ ?_ <;> intro _h); all_goals ((first | replace _h := of_decide_eq_true _h | replace _h := of_decide_eq_false _h | skip); (try simp only [Bool.not_eq_true', Bool.not_eq_false', Bool.not_true, Bool.not_false, decide_eq_true_eq, decide_eq_false_iff_not] at _h); (try (guard_hyp _h : True; clear _h)); first | done | contradiction | exact absurd ((Eq.symm _h).trans (show _ = true by assumption)) (by decide) | exact absurd ((Eq.symm _h).trans (show _ = false by assumption)) (by decide) | (conv => whnf))) | (intro _h; ((first | replace _h := of_decide_eq_true _h | replace _h := of_decide_eq_false _h | skip); (try simp only [Bool.not_eq_true', Bool.not_eq_false', Bool.not_true, Bool.not_false, decide_eq_true_eq, decide_eq_false_iff_not] at _h); (try (guard_hyp _h : True; clear _h)); first | done | contradiction | exact absurd ((Eq.symm _h).trans (show _ = true by assumption)) (by decide) | exact absurd ((Eq.symm _h).trans (show _ = false by assumption)) (by decide) | (conv => whnf)))))
  refine Ends.imm rfl ⟨z, rfl, hz1, hz2, ?_⟩
  exact dbl hn hx hl hv hzl hz hc hvz hz1 hz2 hz3

/-- A copy: new, and the caller's own. -/
theorem f27 (xs : List Int) (hne : xs ≠ []) (hl : xs.length ≤ 1000000) : CSpec Tryd.prog 57 [.d (nat xs)] [] 0 (fun st nx r => st = [(0, .row .u32 79 xs)] ∧ nx = 1 ∧ r = .own 0) := by
  refine CSpec.ends (CSpec.of_awp told0 [] Tryd.func57 rfl (by decide) (Nat.le_of_ble_eq_true rfl) fun _w0 _S0 _E0 _B0 => ?_)
  ((conv => whnf); repeat' (first | (refine And.intro ?_ ?_; (focus (first | rfl | decide | assumption | omega | decide +kernel | exact ⟨rfl, rfl⟩ | exact ⟨rfl, rfl, rfl, rfl⟩ | exact fun h => Bool.noConfusion h | exact fun _ => rfl | exact Nat.le_of_ble_eq_true rfl | (simp only [List.length_map, List.length_append, List.length_replicate, List.length_take, List.length_drop, List.length_set, List.length_cons, List.length_nil]; omega))); (conv => whnf)) | ((refine And.intro ?_ ?_ <;> intro _h); all_goals ((first | replace _h := of_decide_eq_true _h | replace _h := of_decide_eq_false _h | skip); (try simp only [Bool.not_eq_true', Bool.not_eq_false', Bool.not_true, Bool.not_false, decide_eq_true_eq, decide_eq_false_iff_not] at _h); (try (guard_hyp _h : True; clear _h)); first | done | contradiction | exact absurd ((Eq.symm _h).trans (show _ = true by assumption)) (by decide) | exact absurd ((Eq.symm _h).trans (show _ = false by assumption)) (by decide) | (conv => whnf))) | (intro _h; ((first | replace _h := of_decide_eq_true _h | replace _h := of_decide_eq_false _h | skip); (try simp only [Bool.not_eq_true', Bool.not_eq_false', Bool.not_true, Bool.not_false, decide_eq_true_eq, decide_eq_false_iff_not] at _h); (try (guard_hyp _h : True; clear _h)); first | done | contradiction | exact absurd ((Eq.symm _h).trans (show _ = true by assumption)) (by decide) | exact absurd ((Eq.symm _h).trans (show _ = false by assumption)) (by decide) | (conv => whnf)))))
  refine ⟨fun h => absurd h hne, ?_⟩
  ((conv => whnf); repeat' (first | (refine And.intro ?_ ?_; (focus (first | rfl | decide | assumption | omega | decide +kernel | exact ⟨rfl, rfl⟩ | exact ⟨rfl, rfl, rfl, rfl⟩ | exact fun h => Bool.noConfusion h | exact fun _ => rfl | exact Nat.le_of_ble_eq_true rfl | (simp only [List.length_map, List.length_append, List.length_replicate, List.length_take, List.length_drop, List.length_set, List.length_cons, List.length_nil]; omega))); (conv => whnf)) | ((refine And.intro ?_ ?_ <;> intro _h); all_goals ((first | replace _h := of_decide_eq_true _h | replace _h := of_decide_eq_false _h | skip); (try simp only [Bool.not_eq_true', Bool.not_eq_false', Bool.not_true, Bool.not_false, decide_eq_true_eq, decide_eq_false_iff_not] at _h); (try (guard_hyp _h : True; clear _h)); first | done | contradiction | exact absurd ((Eq.symm _h).trans (show _ = true by assumption)) (by decide) | exact absurd ((Eq.symm _h).trans (show _ = false by assumption)) (by decide) | (conv => whnf))) | (intro _h; ((first | replace _h := of_decide_eq_true _h | replace _h := of_decide_eq_false _h | skip); (try simp only [Bool.not_eq_true', Bool.not_eq_false', Bool.not_true, Bool.not_false, decide_eq_true_eq, decide_eq_false_iff_not] at _h); (try (guard_hyp _h : True; clear _h)); first | done | contradiction | exact absurd ((Eq.symm _h).trans (show _ = true by assumption)) (by decide) | exact absurd ((Eq.symm _h).trans (show _ = false by assumption)) (by decide) | (conv => whnf)))))
  refine ⟨by show (0 + xs.length) * 4 ≤ 140737488355328; omega, ?_⟩
  ((conv => whnf); repeat' (first | (refine And.intro ?_ ?_; (focus (first | rfl | decide | assumption | omega | decide +kernel | exact ⟨rfl, rfl⟩ | exact ⟨rfl, rfl, rfl, rfl⟩ | exact fun h => Bool.noConfusion h | exact fun _ => rfl | exact Nat.le_of_ble_eq_true rfl | (simp only [List.length_map, List.length_append, List.length_replicate, List.length_take, List.length_drop, List.length_set, List.length_cons, List.length_nil]; omega))); (conv => whnf)) | ((refine And.intro ?_ ?_ <;> intro _h); all_goals ((first | replace _h := of_decide_eq_true _h | replace _h := of_decide_eq_false _h | skip); (try simp only [Bool.not_eq_true', Bool.not_eq_false', Bool.not_true, Bool.not_false, decide_eq_true_eq, decide_eq_false_iff_not] at _h); (try (guard_hyp _h : True; clear _h)); first | done | contradiction | exact absurd ((Eq.symm _h).trans (show _ = true by assumption)) (by decide) | exact absurd ((Eq.symm _h).trans (show _ = false by assumption)) (by decide) | (conv => whnf))) | (intro _h; ((first | replace _h := of_decide_eq_true _h | replace _h := of_decide_eq_false _h | skip); (try simp only [Bool.not_eq_true', Bool.not_eq_false', Bool.not_true, Bool.not_false, decide_eq_true_eq, decide_eq_false_iff_not] at _h); (try (guard_hyp _h : True; clear _h)); first | done | contradiction | exact absurd ((Eq.symm _h).trans (show _ = true by assumption)) (by decide) | exact absurd ((Eq.symm _h).trans (show _ = false by assumption)) (by decide) | (conv => whnf)))))
  exact ⟨[0], [(0, .row .u32 79 xs)], .own 0, ⟨rfl, ⟨⟨by decide, rfl⟩, trivial⟩, rfl⟩, rfl, rfl, rfl⟩

theorem f46 (xs : List Int) (hne : xs ≠ []) (hl : xs.length ≤ 1000000) : CSpec Tryd.prog 94 [.d (nat xs)] [] 0 (fun st nx r => st = [(0, .row .u32 79 xs)] ∧ nx = 1 ∧ r = .own 0) := by
  refine CSpec.ends (CSpec.of_awp told0 [] Tryd.func94 rfl (by decide) (Nat.le_of_ble_eq_true rfl) fun _w0 _S0 _E0 _B0 => ?_)
  ((conv => whnf); repeat' (first | (refine And.intro ?_ ?_; (focus (first | rfl | decide | assumption | omega | decide +kernel | exact ⟨rfl, rfl⟩ | exact ⟨rfl, rfl, rfl, rfl⟩ | exact fun h => Bool.noConfusion h | exact fun _ => rfl | exact Nat.le_of_ble_eq_true rfl | (simp only [List.length_map, List.length_append, List.length_replicate, List.length_take, List.length_drop, List.length_set, List.length_cons, List.length_nil]; omega))); (conv => whnf)) | ((refine And.intro ?_ ?_ <;> intro _h); all_goals ((first | replace _h := of_decide_eq_true _h | replace _h := of_decide_eq_false _h | skip); (try simp only [Bool.not_eq_true', Bool.not_eq_false', Bool.not_true, Bool.not_false, decide_eq_true_eq, decide_eq_false_iff_not] at _h); (try (guard_hyp _h : True; clear _h)); first | done | contradiction | exact absurd ((Eq.symm _h).trans (show _ = true by assumption)) (by decide) | exact absurd ((Eq.symm _h).trans (show _ = false by assumption)) (by decide) | (conv => whnf))) | (intro _h; ((first | replace _h := of_decide_eq_true _h | replace _h := of_decide_eq_false _h | skip); (try simp only [Bool.not_eq_true', Bool.not_eq_false', Bool.not_true, Bool.not_false, decide_eq_true_eq, decide_eq_false_iff_not] at _h); (try (guard_hyp _h : True; clear _h)); first | done | contradiction | exact absurd ((Eq.symm _h).trans (show _ = true by assumption)) (by decide) | exact absurd ((Eq.symm _h).trans (show _ = false by assumption)) (by decide) | (conv => whnf)))))
  refine ⟨fun h => absurd h hne, ?_⟩
  ((conv => whnf); repeat' (first | (refine And.intro ?_ ?_; (focus (first | rfl | decide | assumption | omega | decide +kernel | exact ⟨rfl, rfl⟩ | exact ⟨rfl, rfl, rfl, rfl⟩ | exact fun h => Bool.noConfusion h | exact fun _ => rfl | exact Nat.le_of_ble_eq_true rfl | (simp only [List.length_map, List.length_append, List.length_replicate, List.length_take, List.length_drop, List.length_set, List.length_cons, List.length_nil]; omega))); (conv => whnf)) | ((refine And.intro ?_ ?_ <;> intro _h); all_goals ((first | replace _h := of_decide_eq_true _h | replace _h := of_decide_eq_false _h | skip); (try simp only [Bool.not_eq_true', Bool.not_eq_false', Bool.not_true, Bool.not_false, decide_eq_true_eq, decide_eq_false_iff_not] at _h); (try (guard_hyp _h : True; clear _h)); first | done | contradiction | exact absurd ((Eq.symm _h).trans (show _ = true by assumption)) (by decide) | exact absurd ((Eq.symm _h).trans (show _ = false by assumption)) (by decide) | (conv => whnf))) | (intro _h; ((first | replace _h := of_decide_eq_true _h | replace _h := of_decide_eq_false _h | skip); (try simp only [Bool.not_eq_true', Bool.not_eq_false', Bool.not_true, Bool.not_false, decide_eq_true_eq, decide_eq_false_iff_not] at _h); (try (guard_hyp _h : True; clear _h)); first | done | contradiction | exact absurd ((Eq.symm _h).trans (show _ = true by assumption)) (by decide) | exact absurd ((Eq.symm _h).trans (show _ = false by assumption)) (by decide) | (conv => whnf)))))
  refine ⟨by show (0 + xs.length) * 4 ≤ 140737488355328; omega, ?_⟩
  ((conv => whnf); repeat' (first | (refine And.intro ?_ ?_; (focus (first | rfl | decide | assumption | omega | decide +kernel | exact ⟨rfl, rfl⟩ | exact ⟨rfl, rfl, rfl, rfl⟩ | exact fun h => Bool.noConfusion h | exact fun _ => rfl | exact Nat.le_of_ble_eq_true rfl | (simp only [List.length_map, List.length_append, List.length_replicate, List.length_take, List.length_drop, List.length_set, List.length_cons, List.length_nil]; omega))); (conv => whnf)) | ((refine And.intro ?_ ?_ <;> intro _h); all_goals ((first | replace _h := of_decide_eq_true _h | replace _h := of_decide_eq_false _h | skip); (try simp only [Bool.not_eq_true', Bool.not_eq_false', Bool.not_true, Bool.not_false, decide_eq_true_eq, decide_eq_false_iff_not] at _h); (try (guard_hyp _h : True; clear _h)); first | done | contradiction | exact absurd ((Eq.symm _h).trans (show _ = true by assumption)) (by decide) | exact absurd ((Eq.symm _h).trans (show _ = false by assumption)) (by decide) | (conv => whnf))) | (intro _h; ((first | replace _h := of_decide_eq_true _h | replace _h := of_decide_eq_false _h | skip); (try simp only [Bool.not_eq_true', Bool.not_eq_false', Bool.not_true, Bool.not_false, decide_eq_true_eq, decide_eq_false_iff_not] at _h); (try (guard_hyp _h : True; clear _h)); first | done | contradiction | exact absurd ((Eq.symm _h).trans (show _ = true by assumption)) (by decide) | exact absurd ((Eq.symm _h).trans (show _ = false by assumption)) (by decide) | (conv => whnf)))))
  exact ⟨[0], [(0, .row .u32 79 xs)], .own 0, ⟨rfl, ⟨⟨by decide, rfl⟩, trivial⟩, rfl⟩, rfl, rfl, rfl⟩

end Go.Proofs.YtniaeiikdgbnfaaDoor.R
namespace Go.Proofs.YtniaeiikdgbnfaaDoor.R
set_option linter.unusedVariables false

theorem vstep (xs : List Int) : val xs = xs.getD 0 0 + 4294967296 * val xs.tail := by
  cases xs with
  | nil => simp [val]
  | cons x xs => simp [val]

/-- The lowest limb goes out. -/
theorem mont_zero {us1 us2 n : List Int} {c n0 : Int} {w : Nat} (hu : wfl us2) (h : val us2 + pw (w + 1) * c = val us1 + (us1.getD 0 0 * n0) % 4294967296 * val n) (hinv : (n.getD 0 0 * n0 + 1) % 4294967296 = 0) : us2.getD 0 0 = 0 := by
  have h0 := hu.get 0
  have e1 := vstep us2
  have e2 := vstep us1
  have e3 := vstep n
  have e4 : (us1.getD 0 0 * n0) % 4294967296 = us1.getD 0 0 * n0 - 4294967296 * ((us1.getD 0 0 * n0) / 4294967296) := by omega
  have e5 : n.getD 0 0 * n0 + 1 = 4294967296 * ((n.getD 0 0 * n0 + 1) / 4294967296) := by omega
  rw [e4] at h
  rw [pw_succ] at h
  generalize us1.getD 0 0 * n0 / 4294967296 = k at *
  generalize (n.getD 0 0 * n0 + 1) / 4294967296 = e at *
  generalize us2.getD 0 0 = u at *
  generalize us1.getD 0 0 = t at *
  generalize n.getD 0 0 = m at *
  generalize val us2.tail = a at *
  generalize val us1.tail = b at *
  generalize val n.tail = d at *
  have : u = 4294967296 * (t * e - k * m + b + (t * n0 - 4294967296 * k) * d - a - pw w * c) := by grind
  omega

theorem mont_round {l us1 us3 : List Int} {p c1 c2 x q B N : Int} {w : Nat} (hl3 : us3.length = w) (r1 : val us1 + pw (w + 1) * c1 = val l + x * B) (r2 : val (0 :: us3) + pw (w + 1) * c2 = val us1 + q * N) :
    4294967296 * (val (us3 ++ [((p + c1) % 4294967296 + c2) % 4294967296]) + pw (w + 1) * ((p + c1) / 4294967296 + ((p + c1) % 4294967296 + c2) / 4294967296)) = val l + pw (w + 1) * p + x * B + q * N := by
  rw [val_snoc, hl3]
  simp only [val, pw_succ] at *
  have e1 : (p + c1) % 4294967296 = p + c1 - 4294967296 * ((p + c1) / 4294967296) := by omega
  generalize (p + c1) / 4294967296 = k1 at *
  rw [e1]
  have e2 : (p + c1 - 4294967296 * k1 + c2) % 4294967296 = p + c1 - 4294967296 * k1 + c2 - 4294967296 * ((p + c1 - 4294967296 * k1 + c2) / 4294967296) := by omega
  generalize (p + c1 - 4294967296 * k1 + c2) / 4294967296 = k2 at *
  rw [e2]
  grind

theorem mont_inv {T T' A B N Q x q : Int} (i : Nat) (h : pw i * T = A * B + Q * N) (hr : 4294967296 * T' = T + x * B + q * N) : pw (i + 1) * T' = (A + pw i * x) * B + (Q + pw i * q) * N := by
  rw [pw_succ]
  grind

theorem mont_bound {Q q : Int} (i : Nat) (h : 0 ≤ Q ∧ Q < pw i) (hq : 0 ≤ q ∧ q < 4294967296) : 0 ≤ Q + pw i * q ∧ Q + pw i * q < pw (i + 1) := by
  have hp := pw_pos i
  have h1 : 0 ≤ pw i * q := Int.mul_nonneg (by omega) hq.1
  have h2 : pw i * q ≤ pw i * 4294967295 := Int.mul_le_mul_of_nonneg_left (by omega) (by omega)
  rw [pw_succ]
  omega

/-- At the end: less than twice the modulus. -/
theorem mont_end {T A B N Q : Int} (w : Nat) (h : pw w * T = A * B + Q * N) (hA : 0 ≤ A ∧ A < pw w) (hQ : 0 ≤ Q ∧ Q < pw w) (hB : 0 ≤ B ∧ B < N) : T < 2 * N := by
  have hp := pw_pos w
  have h1 : A * B ≤ pw w * B := Int.mul_le_mul_of_nonneg_right (by omega) hB.1
  have h2 : Q * N ≤ pw w * N := Int.mul_le_mul_of_nonneg_right (by omega) (by omega)
  have h3 : pw w * B < pw w * N := Int.mul_lt_mul_of_pos_left hB.2 hp
  have h4 : pw w * T < pw w * (2 * N) := by rw [h, show pw w * (2 * N) = pw w * N + pw w * N by grind]; omega
  exact Int.lt_of_mul_lt_mul_left h4 (by omega)

theorem mont_less {l n z : List Int} {p A B Q : Int} {w : Nat} (hl : wfl l) (hll : l.length = w) (hn : wfl n) (hnl : n.length = w) (hz : wfl z) (hzl : z.length = w) (hp : 0 ≤ p)
    (h : pw w * (val l + pw w * p) = A * B + Q * val n) (hA : 0 ≤ A ∧ A < pw w) (hQ : 0 ≤ Q ∧ Q < pw w) (hB : 0 ≤ B ∧ B < val n)
    (hs : if (!decide (p = 0)) = true ∨ val n ≤ val l then val z = (val l - val n) % pw w else z = l) :
    val z < val n ∧ ∃ Q', pw w * val z = A * B + Q' * val n := by
  have hT := mont_end w h hA hQ hB
  have h0 := val_nonneg hl
  have hN := val_lt hn
  rw [hnl] at hN
  have hpw := pw_pos w
  by_cases hc : (!decide (p = 0)) = true ∨ val n ≤ val l
  · rw [if_pos hc] at hs
    have hge : val n ≤ val l + pw w * p := by
      have : 0 ≤ pw w * p := Int.mul_nonneg (by omega) hp
      rcases hc with hc | hc
      · have hp1 : 1 ≤ p := by simp at hc; omega
        have : pw w * 1 ≤ pw w * p := Int.mul_le_mul_of_nonneg_left hp1 (by omega)
        omega
      · omega
    have e : val l - val n = (val l + pw w * p - val n) - pw w * p := by omega
    rw [e, Int.sub_mul_emod_self_left, Int.emod_eq_of_lt (by omega) (by omega)] at hs
    refine ⟨by omega, Q - pw w, ?_⟩
    rw [hs]
    grind
  · rw [if_neg hc] at hs
    have hp0 : p = 0 := by
      rcases Decidable.em (p = 0) with h | h
      · exact h
      · exact (hc (.inl (by simp [h]))).elim
    subst hp0
    subst hs
    refine ⟨by omega, Q, by simpa using h⟩

end Go.Proofs.YtniaeiikdgbnfaaDoor.R
namespace Go.Proofs.YtniaeiikdgbnfaaDoor.R
open Go Go.RowKit Go.Proofs Go.Proofs.YtniaeiikdgbnfaaDoor.AW
set_option linter.unusedSectionVars false
variable [Globs]
set_option maxRecDepth 100000
set_option linter.unusedSimpArgs false
set_option linter.unusedVariables false
set_option maxHeartbeats 4000000

/-- A row's product, a limb further. -/
theorem row_limb {a b d x : Int} (p : Int) {y t c : Int} (h : a + p * c = b + x * d) :
    a + p * ((x * y + t + c) % 4294967296) + p * 4294967296 * ((x * y + t + c) / 4294967296) = b + p * t + x * (d + p * y) := by
  have e : (x * y + t + c) % 4294967296 + 4294967296 * ((x * y + t + c) / 4294967296) = x * y + t + c := by omega
  have : p * ((x * y + t + c) % 4294967296) + p * 4294967296 * ((x * y + t + c) / 4294967296) = p * (x * y + t + c) := by rw [Int.mul_assoc, ← Int.mul_add, e]
  rw [Int.mul_add, Int.mul_add] at this
  have e2 : x * (d + p * y) = x * d + p * (x * y) := by rw [Int.mul_add, ← Int.mul_assoc, ← Int.mul_assoc, Int.mul_comm x p]
  omega

theorem set_row {us ts : List Int} {i : Nat} (h : us.length = i) (hi : i < ts.length) {v : Int} : (us ++ ts.drop i).set i v = us ++ [v] ++ ts.drop (i + 1) := by
  have e : (ts.drop i).set 0 v = v :: ts.drop (i + 1) := by rw [List.drop_eq_getElem_cons hi]; rfl
  rw [List.set_append_right _ _ (by omega), h, Nat.sub_self, e]
  simp
theorem wrap_u32 {n : Int} (h1 : 0 ≤ n) (h2 : n ≤ 4294967295) : IntKind.u32.wrap n = n := wrap_in.2 ⟨h1, h2⟩

theorem wrap_mod (n : Int) : IntKind.u32.wrap n = n % 4294967296 := by simp [IntKind.wrap, IntKind.bits, IntKind.signed]

/-- What a row's product leaves. -/
def rowS (ts ys us : List Int) (x c : Int) : Prop :=
  us.length = ys.length ∧ wfl us ∧ (0 ≤ c ∧ c < 4294967296) ∧ val us + pw ys.length * c = val (ts.take ys.length) + x * val ys

theorem f44 (ts ys : List Int) (x : Int) (ht : wfl ts) (hy : wfl ys) (hx : 0 ≤ x ∧ x < 4294967296) (hl : ys.length ≤ ts.length) (hs : ts.length ≤ 1000000) :
    CSpec Tryd.prog 92 [.own 0, u32 x, .d (nat ys)] [(0, .row .u32 79 ts)] 1 (fun st nx r => ∃ us c, st = [(0, .row .u32 79 (us ++ ts.drop ys.length))] ∧ nx = 1 ∧ r = u32 c ∧ rowS ts ys us x c) := by
  refine CSpec.ends (CSpec.of_awp told0 [] Tryd.func92 rfl (by decide) (Nat.le_of_ble_eq_true rfl) fun _w0 _S0 _E0 _B0 => ?_)
  ((conv => whnf); repeat' (first | (refine And.intro ?_ ?_; (focus (first | rfl | decide | assumption | omega | decide +kernel | exact ⟨rfl, rfl⟩ | exact ⟨rfl, rfl, rfl, rfl⟩ | exact fun h => Bool.noConfusion h | exact fun _ => rfl | exact Nat.le_of_ble_eq_true rfl | (simp only [List.length_map, List.length_append, List.length_replicate, List.length_take, List.length_drop, List.length_set, List.length_cons, List.length_nil]; omega))); (conv => whnf)) | ((refine And.intro ?_ ?_ <;> intro _h); all_goals ((first | replace _h := of_decide_eq_true _h | replace _h := of_decide_eq_false _h | skip); (try simp only [Bool.not_eq_true', Bool.not_eq_false', Bool.not_true, Bool.not_false, decide_eq_true_eq, decide_eq_false_iff_not] at _h); (try (guard_hyp _h : True; clear _h)); first | done | contradiction | exact absurd ((Eq.symm _h).trans (show _ = true by assumption)) (by decide) | exact absurd ((Eq.symm _h).trans (show _ = false by assumption)) (by decide) | (conv => whnf))) | (intro _h; ((first | replace _h := of_decide_eq_true _h | replace _h := of_decide_eq_false _h | skip); (try simp only [Bool.not_eq_true', Bool.not_eq_false', Bool.not_true, Bool.not_false, decide_eq_true_eq, decide_eq_false_iff_not] at _h); (try (guard_hyp _h : True; clear _h)); first | done | contradiction | exact absurd ((Eq.symm _h).trans (show _ = true by assumption)) (by decide) | exact absurd ((Eq.symm _h).trans (show _ = false by assumption)) (by decide) | (conv => whnf)))))
  refine aloop (T := told0) (ι := Nat × List Int × Int) (fun p => [(0, .own 0), (1, u32 x), (13, .d (nat ys)), (14, i64 ys.length), (15, i64 p.1), (7, u32 p.2.2)]) (fun p => [(0, .row .u32 79 (p.2.1 ++ ts.drop p.1))]) 52 1
    (fun p => ys.length - p.1) (fun p => p.1 ≤ ys.length ∧ p.2.1.length = p.1 ∧ wfl p.2.1 ∧ (0 ≤ p.2.2 ∧ p.2.2 < 4294967296) ∧ val p.2.1 + pw p.1 * p.2.2 = val (ts.take p.1) + x * val (ys.take p.1))
    ⟨(0, [], 0), [0], rfl, ⟨by omega, rfl, by simp [wfl], by decide, by simp [val]⟩, by (refine ⟨rfl, rfl, ?_, ?_⟩ <;> repeat' (first | exact True.intro | rfl | decide | (refine And.intro ?_ ?_)))⟩ ?_
  intro ⟨i, us, c⟩ ⟨hi, hul, hu, hc, hv⟩
  dsimp only at hi hul hu hc hv ⊢
  ((conv => whnf); repeat' (first | (refine And.intro ?_ ?_; (focus (first | rfl | decide | assumption | omega | decide +kernel | exact ⟨rfl, rfl⟩ | exact ⟨rfl, rfl, rfl, rfl⟩ | exact fun h => Bool.noConfusion h | exact fun _ => rfl | exact Nat.le_of_ble_eq_true rfl | (simp only [List.length_map, List.length_append, List.length_replicate, List.length_take, List.length_drop, List.length_set, List.length_cons, List.length_nil]; omega))); (conv => whnf)) | ((refine And.intro ?_ ?_ <;> intro _h); all_goals ((first | replace _h := of_decide_eq_true _h | replace _h := of_decide_eq_false _h | skip); (try simp only [Bool.not_eq_true', Bool.not_eq_false', Bool.not_true, Bool.not_false, decide_eq_true_eq, decide_eq_false_iff_not] at _h); (try (guard_hyp _h : True; clear _h)); first | done | contradiction | exact absurd ((Eq.symm _h).trans (show _ = true by assumption)) (by decide) | exact absurd ((Eq.symm _h).trans (show _ = false by assumption)) (by decide) | (conv => whnf))) | (intro _h; ((first | replace _h := of_decide_eq_true _h | replace _h := of_decide_eq_false _h | skip); (try simp only [Bool.not_eq_true', Bool.not_eq_false', Bool.not_true, Bool.not_false, decide_eq_true_eq, decide_eq_false_iff_not] at _h); (try (guard_hyp _h : True; clear _h)); first | done | contradiction | exact absurd ((Eq.symm _h).trans (show _ = true by assumption)) (by decide) | exact absurd ((Eq.symm _h).trans (show _ = false by assumption)) (by decide) | (conv => whnf)))))
  · have hyi := hy.get i
    have hti := ht.get i
    have et : (us ++ ts.drop i).getD (i : Int).toNat 0 = ts.getD i 0 := by
      rw [Int.toNat_natCast, List.getD_eq_getElem?_getD, List.getElem?_append_right (by omega), List.getElem?_drop, ← List.getD_eq_getElem?_getD, hul]
      congr 1; omega
    generalize hy0 : ys.getD i 0 = y at *
    generalize ht0 : ts.getD i 0 = t at *
    have p0 : 0 ≤ x * y := Int.mul_nonneg hx.1 hyi.1
    have p1 : x * y ≤ 4294967295 * 4294967295 := Int.mul_le_mul (by omega) (by omega) hyi.1 (by omega)
    refine acallI (f52 x y hx hyi) (by rw [← hy0]; rfl) fun r hr => ?_
    subst hr
    ((conv => whnf); repeat' (first | (refine And.intro ?_ ?_; (focus (first | rfl | decide | assumption | omega | decide +kernel | exact ⟨rfl, rfl⟩ | exact ⟨rfl, rfl, rfl, rfl⟩ | exact fun h => Bool.noConfusion h | exact fun _ => rfl | exact Nat.le_of_ble_eq_true rfl | (simp only [List.length_map, List.length_append, List.length_replicate, List.length_take, List.length_drop, List.length_set, List.length_cons, List.length_nil]; omega))); (conv => whnf)) | ((refine And.intro ?_ ?_ <;> intro _h); all_goals ((first | replace _h := of_decide_eq_true _h | replace _h := of_decide_eq_false _h | skip); (try simp only [Bool.not_eq_true', Bool.not_eq_false', Bool.not_true, Bool.not_false, decide_eq_true_eq, decide_eq_false_iff_not] at _h); (try (guard_hyp _h : True; clear _h)); first | done | contradiction | exact absurd ((Eq.symm _h).trans (show _ = true by assumption)) (by decide) | exact absurd ((Eq.symm _h).trans (show _ = false by assumption)) (by decide) | (conv => whnf))) | (intro _h; ((first | replace _h := of_decide_eq_true _h | replace _h := of_decide_eq_false _h | skip); (try simp only [Bool.not_eq_true', Bool.not_eq_false', Bool.not_true, Bool.not_false, decide_eq_true_eq, decide_eq_false_iff_not] at _h); (try (guard_hyp _h : True; clear _h)); first | done | contradiction | exact absurd ((Eq.symm _h).trans (show _ = true by assumption)) (by decide) | exact absurd ((Eq.symm _h).trans (show _ = false by assumption)) (by decide) | (conv => whnf)))))
    refine acallI (f45 (x * y % 4294967296) t 0 (by omega) hti (by omega)) (by rw [← et]; rfl) fun r hr => ?_
    subst hr
    ((conv => whnf); repeat' (first | (refine And.intro ?_ ?_; (focus (first | rfl | decide | assumption | omega | decide +kernel | exact ⟨rfl, rfl⟩ | exact ⟨rfl, rfl, rfl, rfl⟩ | exact fun h => Bool.noConfusion h | exact fun _ => rfl | exact Nat.le_of_ble_eq_true rfl | (simp only [List.length_map, List.length_append, List.length_replicate, List.length_take, List.length_drop, List.length_set, List.length_cons, List.length_nil]; omega))); (conv => whnf)) | ((refine And.intro ?_ ?_ <;> intro _h); all_goals ((first | replace _h := of_decide_eq_true _h | replace _h := of_decide_eq_false _h | skip); (try simp only [Bool.not_eq_true', Bool.not_eq_false', Bool.not_true, Bool.not_false, decide_eq_true_eq, decide_eq_false_iff_not] at _h); (try (guard_hyp _h : True; clear _h)); first | done | contradiction | exact absurd ((Eq.symm _h).trans (show _ = true by assumption)) (by decide) | exact absurd ((Eq.symm _h).trans (show _ = false by assumption)) (by decide) | (conv => whnf))) | (intro _h; ((first | replace _h := of_decide_eq_true _h | replace _h := of_decide_eq_false _h | skip); (try simp only [Bool.not_eq_true', Bool.not_eq_false', Bool.not_true, Bool.not_false, decide_eq_true_eq, decide_eq_false_iff_not] at _h); (try (guard_hyp _h : True; clear _h)); first | done | contradiction | exact absurd ((Eq.symm _h).trans (show _ = true by assumption)) (by decide) | exact absurd ((Eq.symm _h).trans (show _ = false by assumption)) (by decide) | (conv => whnf)))))
    refine acallI (f45 _ c 0 (by omega) hc (by omega)) rfl fun r hr => ?_
    subst hr
    ((conv => whnf); repeat' (first | (refine And.intro ?_ ?_; (focus (first | rfl | decide | assumption | omega | decide +kernel | exact ⟨rfl, rfl⟩ | exact ⟨rfl, rfl, rfl, rfl⟩ | exact fun h => Bool.noConfusion h | exact fun _ => rfl | exact Nat.le_of_ble_eq_true rfl | (simp only [List.length_map, List.length_append, List.length_replicate, List.length_take, List.length_drop, List.length_set, List.length_cons, List.length_nil]; omega))); (conv => whnf)) | ((refine And.intro ?_ ?_ <;> intro _h); all_goals ((first | replace _h := of_decide_eq_true _h | replace _h := of_decide_eq_false _h | skip); (try simp only [Bool.not_eq_true', Bool.not_eq_false', Bool.not_true, Bool.not_false, decide_eq_true_eq, decide_eq_false_iff_not] at _h); (try (guard_hyp _h : True; clear _h)); first | done | contradiction | exact absurd ((Eq.symm _h).trans (show _ = true by assumption)) (by decide) | exact absurd ((Eq.symm _h).trans (show _ = false by assumption)) (by decide) | (conv => whnf))) | (intro _h; ((first | replace _h := of_decide_eq_true _h | replace _h := of_decide_eq_false _h | skip); (try simp only [Bool.not_eq_true', Bool.not_eq_false', Bool.not_true, Bool.not_false, decide_eq_true_eq, decide_eq_false_iff_not] at _h); (try (guard_hyp _h : True; clear _h)); first | done | contradiction | exact absurd ((Eq.symm _h).trans (show _ = true by assumption)) (by decide) | exact absurd ((Eq.symm _h).trans (show _ = false by assumption)) (by decide) | (conv => whnf)))))
    generalize hp : x * y = p at *
    have e1 : (((p % 4294967296 + t + 0) % 4294967296 + c + 0) % 4294967296) = (p + t + c) % 4294967296 := by omega
    have e2 : IntKind.u32.wrap (IntKind.u32.wrap (p / 4294967296 + (p % 4294967296 + t + 0) / 4294967296) + ((p % 4294967296 + t + 0) % 4294967296 + c + 0) / 4294967296) = (p + t + c) / 4294967296 := by
      rw [wrap_u32 (n := p / 4294967296 + (p % 4294967296 + t + 0) / 4294967296) (by omega) (by omega), wrap_u32 (by omega) (by omega)]; omega
    refine ⟨(i + 1, us ++ [(p + t + c) % 4294967296], (p + t + c) / 4294967296), [0], by dsimp only; omega, ⟨by dsimp only; omega, by simp [hul], ?_, by dsimp only; omega, ?_⟩, rfl, ?_⟩
    · exact hu.append (wfl.one (by omega))
    · dsimp only
      rw [val_snoc, hul, take_snoc (by omega), take_snoc (by omega), val_snoc, val_snoc, List.length_take, List.length_take, Nat.min_eq_left (by omega), Nat.min_eq_left (by omega), pw_succ, hy0, ht0, ← hp]
      exact row_limb (pw i) hv
    · (refine ⟨rfl, rfl, ?_, ?_⟩ <;> repeat' (first | exact True.intro | rfl | decide | (refine And.intro ?_ ?_)))
      · refine di ?_
        rw [wrap_i64 (by omega) (by omega)]; rfl
      · exact di e2
      · show some (Ob.row .u32 79 ((us ++ ts.drop i).set (i : Int).toNat _)) = some (Ob.row .u32 79 _)
        rw [e1, Int.toNat_natCast, set_row hul (by omega)]
  · have hie : i = ys.length := by omega
    subst hie
    refine ⟨[0], [(0, .row .u32 79 (us ++ ts.drop ys.length))], u32 c, ⟨rfl, ⟨⟨by decide, rfl⟩, trivial⟩, rfl⟩, us, c, rfl, rfl, rfl, hul, hu, hc, ?_⟩
    rw [hv, List.take_of_length_le (Nat.le_refl ys.length)]

theorem mono {P : Program} {f : FuncId} {args : List AVal} {st : List (Nat × Ob)} {m : Nat} {K K' : List (Nat × Ob) → Nat → AVal → Prop} (h : CSpec P f args st m K) (hk : ∀ st nx r, K st nx r → K' st nx r) : CSpec P f args st m K' :=
  ⟨h.1, fun w β S vs h1 h2 h3 => Calls.mono (h.2 w β S vs h1 h2 h3) fun _ _ ⟨v, st', nx', r, β', S', a1, a2, a3, a4, a5, a6, a7, a8⟩ => ⟨v, st', nx', r, β', S', a1, a2, a3, a4, a5, a6, a7, hk _ _ _ a8⟩⟩

theorem f44' (l t ys : List Int) (x : Int) (hl : wfl l) (ht : wfl t) (hy : wfl ys) (hx : 0 ≤ x ∧ x < 4294967296) (hll : l.length = ys.length) (hs : l.length + t.length ≤ 1000000) :
    CSpec Tryd.prog 92 [.own 0, u32 x, .d (nat ys)] [(0, .row .u32 79 (l ++ t))] 1 (fun st nx r => ∃ us c, st = [(0, .row .u32 79 (us ++ t))] ∧ nx = 1 ∧ r = u32 c ∧ us.length = ys.length ∧ wfl us ∧ (0 ≤ c ∧ c < 4294967296) ∧ val us + pw ys.length * c = val l + x * val ys) := by
  refine mono (f44 (l ++ t) ys x (hl.append ht) hy hx (by simp; omega) (by simp; omega)) fun st nx r ⟨us, c, h1, h2, h3, h4, h5, h6, h7⟩ => ⟨us, c, ?_, h2, h3, h4, h5, h6, ?_⟩
  · rw [h1, ← hll, List.drop_left]
  · rw [h7, ← hll, List.take_left]

theorem get_mid {us : List Int} {w : Nat} (h : us.length = w) (p : Int) (t : List Int) : (us ++ p :: t).getD (w : Int).toNat 0 = p := by
  rw [Int.toNat_natCast, List.getD_eq_getElem?_getD, List.getElem?_append_right (by omega), h]
  simp
theorem get_mid1 {us : List Int} {w : Nat} (h : us.length = w) (p q : Int) (t : List Int) : (us ++ p :: q :: t).getD ((w + 1 : Nat) : Int).toNat 0 = q := by
  rw [Int.toNat_natCast, List.getD_eq_getElem?_getD, List.getElem?_append_right (by omega), h, Nat.add_sub_cancel_left]
  simp
theorem set_mid {us : List Int} {w : Nat} (h : us.length = w) (p v : Int) (t : List Int) : (us ++ p :: t).set (w : Int).toNat v = us ++ v :: t := by
  rw [Int.toNat_natCast, List.set_append_right _ _ (by omega), h, Nat.sub_self]; rfl
theorem set_mid1 {us : List Int} {w : Nat} (h : us.length = w) (p q v : Int) (t : List Int) : (us ++ p :: q :: t).set ((w + 1 : Nat) : Int).toNat v = us ++ p :: v :: t := by
  rw [Int.toNat_natCast, List.set_append_right _ _ (by omega), h, Nat.add_sub_cancel_left]; rfl

def told34 : AW.Told := ⟨fun g => g == 92, fun r i => if r == 16 && i == 10 then [99] else [], fun r => if r == 10 then .take 0 (.take 1 (.take 2 (.take 3 (.take 4 (.take 5 (.take 6 (.take 7 (.take 8 (.take 9 (.take 10 (.take 11 (.take 12 (.one 13 (.take 14 .done))))))))))))))
  else if r == 16 then .take 0 (.take 1 (.take 2 (.take 3 (.take 5 (.take 6 (.take 7 (.take 8 (.take 9 (.one 4 (.one 10 (.take 11 .done))))))))))) else .done⟩

theorem shift {us3 : List Int} {w : Nat} (u p q : Int) (hw : us3.length + 1 = w) :
    (((((u :: us3) ++ [p, q]).drop 1).take (((u :: us3) ++ [p, q]).length - 1)).take ((u :: us3) ++ [p, q]).length ++ ((u :: us3) ++ [p, q]).drop ((((u :: us3) ++ [p, q]).drop 1).take (((u :: us3) ++ [p, q]).length - 1)).length).set (w + 1) 0 =
      us3 ++ [p] ++ [q, 0] := by
  have e1 : (((u :: us3) ++ [p, q]).drop 1).take (((u :: us3) ++ [p, q]).length - 1) = us3 ++ [p, q] := by
    have : ((u :: us3) ++ [p, q]).drop 1 = us3 ++ [p, q] := rfl
    rw [this, List.take_of_length_le (by simp)]
  rw [e1, List.take_of_length_le (by simp)]
  have e2 : ((u :: us3) ++ [p, q]).drop (us3 ++ [p, q]).length = [q] := by
    have : (u :: us3) ++ [p, q] = (u :: us3 ++ [p]) ++ [q] := by simp
    rw [this]
    exact List.drop_left' (by simp)
  rw [e2, List.set_append_right _ _ (by simp; omega)]
  have : w + 1 - (us3 ++ [p, q]).length = 0 := by simp; omega
  rw [this]
  simp

theorem val_zero : ∀ k, val (List.replicate k 0) = 0
  | 0 => rfl
  | k + 1 => by simp [List.replicate_succ, val, val_zero k]

/-- The code's short product of elements. -/
theorem f34 (n : List Int) (n0 : Int) (rr a b : List Int) (hn : wfl n) (hn0 : 0 ≤ n0 ∧ n0 < 4294967296) (ha : wfl a) (hb : wfl b) (hbn : bad n = false) (hla : a.length = n.length) (hlb : b.length = n.length) (hinv : (n.getD 0 0 * n0 + 1) % 4294967296 = 0) (hbv : val b < val n) :
    Imm Tryd.prog 60 [.d (ringD n n0 rr), .d (nat a), .d (nat b)] (fun r => ∃ z, r = .d (nat z) ∧ z.length = n.length ∧ wfl z ∧ val z < val n ∧ ∃ Q, pw n.length * val z = val a * val b + Q * val n) := by
  have hbl := hbn
  unfold bad at hbl
  simp at hbl
  have hw : IntKind.i64.wrap ((n.length : Int) + 2) = ((n.length + 2 : Nat) : Int) := by rw [wrap_i64 (by omega) (by omega)]; rfl
  have hw1 : IntKind.i64.wrap ((n.length : Int) + 1) = ((n.length + 1 : Nat) : Int) := by rw [wrap_i64 (by omega) (by omega)]; rfl
  (refine Imm.of_awp told34 [] Tryd.func60 rfl (by decide) (Nat.le_of_ble_eq_true rfl) ?_; intro _w0 _S0 _E0 _B0; ((conv => whnf); repeat' (first | (refine And.intro ?_ ?_; (focus (first | rfl | decide | assumption | omega | decide +kernel | exact ⟨rfl, rfl⟩ | exact ⟨rfl, rfl, rfl, rfl⟩ | exact fun h => Bool.noConfusion h | exact fun _ => rfl | exact Nat.le_of_ble_eq_true rfl | (simp only [List.length_map, List.length_append, List.length_replicate, List.length_take, List.length_drop, List.length_set, List.length_cons, List.length_nil]; omega))); (conv => whnf)) | ((refine And.intro ?_ ?_ <;> intro _h); all_goals ((first | replace _h := of_decide_eq_true _h | replace _h := of_decide_eq_false _h | skip); (try simp only [Bool.not_eq_true', Bool.not_eq_false', Bool.not_true, Bool.not_false, decide_eq_true_eq, decide_eq_false_iff_not] at _h); (try (guard_hyp _h : True; clear _h)); first | done | contradiction | exact absurd ((Eq.symm _h).trans (show _ = true by assumption)) (by decide) | exact absurd ((Eq.symm _h).trans (show _ = false by assumption)) (by decide) | (conv => whnf))) | (intro _h; ((first | replace _h := of_decide_eq_true _h | replace _h := of_decide_eq_false _h | skip); (try simp only [Bool.not_eq_true', Bool.not_eq_false', Bool.not_true, Bool.not_false, decide_eq_true_eq, decide_eq_false_iff_not] at _h); (try (guard_hyp _h : True; clear _h)); first | done | contradiction | exact absurd ((Eq.symm _h).trans (show _ = true by assumption)) (by decide) | exact absurd ((Eq.symm _h).trans (show _ = false by assumption)) (by decide) | (conv => whnf))))))
  rw [hw]
  ((conv => whnf); repeat' (first | (refine And.intro ?_ ?_; (focus (first | rfl | decide | assumption | omega | decide +kernel | exact ⟨rfl, rfl⟩ | exact ⟨rfl, rfl, rfl, rfl⟩ | exact fun h => Bool.noConfusion h | exact fun _ => rfl | exact Nat.le_of_ble_eq_true rfl | (simp only [List.length_map, List.length_append, List.length_replicate, List.length_take, List.length_drop, List.length_set, List.length_cons, List.length_nil]; omega))); (conv => whnf)) | ((refine And.intro ?_ ?_ <;> intro _h); all_goals ((first | replace _h := of_decide_eq_true _h | replace _h := of_decide_eq_false _h | skip); (try simp only [Bool.not_eq_true', Bool.not_eq_false', Bool.not_true, Bool.not_false, decide_eq_true_eq, decide_eq_false_iff_not] at _h); (try (guard_hyp _h : True; clear _h)); first | done | contradiction | exact absurd ((Eq.symm _h).trans (show _ = true by assumption)) (by decide) | exact absurd ((Eq.symm _h).trans (show _ = false by assumption)) (by decide) | (conv => whnf))) | (intro _h; ((first | replace _h := of_decide_eq_true _h | replace _h := of_decide_eq_false _h | skip); (try simp only [Bool.not_eq_true', Bool.not_eq_false', Bool.not_true, Bool.not_false, decide_eq_true_eq, decide_eq_false_iff_not] at _h); (try (guard_hyp _h : True; clear _h)); first | done | contradiction | exact absurd ((Eq.symm _h).trans (show _ = true by assumption)) (by decide) | exact absurd ((Eq.symm _h).trans (show _ = false by assumption)) (by decide) | (conv => whnf)))))
  refine aloop (T := told34) (ι := Nat × List Int × Int × Int) (fun x => [(0, .d (ringD n n0 rr)), (2, .d (nat b)), (7, i64 n.length), (8, .own 0), (22, .d (nat a)), (23, i64 a.length), (24, i64 x.1)]) (fun x => [(0, .row .u32 79 (x.2.1 ++ [x.2.2.1, 0]))]) 106 1
    (fun x => a.length - x.1) (fun x => x.1 ≤ a.length ∧ x.2.1.length = n.length ∧ wfl x.2.1 ∧ (0 ≤ x.2.2.1 ∧ x.2.2.1 < 4294967296) ∧ (0 ≤ x.2.2.2 ∧ x.2.2.2 < pw x.1) ∧ pw x.1 * (val x.2.1 + pw n.length * x.2.2.1) = val (a.take x.1) * val b + x.2.2.2 * val n)
    ⟨(0, List.replicate n.length 0, 0, 0), [0], rfl, ⟨by omega, by simp, ?_, by dsimp only; omega, ⟨by dsimp only; omega, pw_pos 0⟩, ?_⟩, ?_⟩ ?_
  · intro y hy; simp at hy; omega
  · simp [val, val_zero]
  · (refine ⟨rfl, rfl, ?_, ?_⟩ <;> repeat' (first | exact True.intro | rfl | decide | (refine And.intro ?_ ?_)))
    show some (Ob.row .u32 79 (List.replicate ((n.length + 2 : Nat) : Int).toNat 0)) = some (.row .u32 79 (List.replicate n.length 0 ++ [0, 0]))
    rw [Int.toNat_natCast, show List.replicate (n.length + 2) (0 : Int) = List.replicate n.length 0 ++ List.replicate 2 0 by rw [List.replicate_append_replicate]]; rfl
  intro ⟨i, l, p, Q⟩ ⟨hi, hll, hl, hp, hQ, hv⟩
  dsimp only at hi hll hl hp hQ hv ⊢
  have hai := ha.get i
  ((conv => whnf); repeat' (first | (refine And.intro ?_ ?_; (focus (first | rfl | decide | assumption | omega | decide +kernel | exact ⟨rfl, rfl⟩ | exact ⟨rfl, rfl, rfl, rfl⟩ | exact fun h => Bool.noConfusion h | exact fun _ => rfl | exact Nat.le_of_ble_eq_true rfl | (simp only [List.length_map, List.length_append, List.length_replicate, List.length_take, List.length_drop, List.length_set, List.length_cons, List.length_nil]; omega))); (conv => whnf)) | ((refine And.intro ?_ ?_ <;> intro _h); all_goals ((first | replace _h := of_decide_eq_true _h | replace _h := of_decide_eq_false _h | skip); (try simp only [Bool.not_eq_true', Bool.not_eq_false', Bool.not_true, Bool.not_false, decide_eq_true_eq, decide_eq_false_iff_not] at _h); (try (guard_hyp _h : True; clear _h)); first | done | contradiction | exact absurd ((Eq.symm _h).trans (show _ = true by assumption)) (by decide) | exact absurd ((Eq.symm _h).trans (show _ = false by assumption)) (by decide) | (conv => whnf))) | (intro _h; ((first | replace _h := of_decide_eq_true _h | replace _h := of_decide_eq_false _h | skip); (try simp only [Bool.not_eq_true', Bool.not_eq_false', Bool.not_true, Bool.not_false, decide_eq_true_eq, decide_eq_false_iff_not] at _h); (try (guard_hyp _h : True; clear _h)); first | done | contradiction | exact absurd ((Eq.symm _h).trans (show _ = true by assumption)) (by decide) | exact absurd ((Eq.symm _h).trans (show _ = false by assumption)) (by decide) | (conv => whnf)))))
  · refine acall [0] (f44' l [p, 0] b (a.getD i 0) hl (by intro y hy; simp at hy; omega) hb hai (by omega) (by simp; omega)) rfl ⟨⟨by decide, rfl⟩, trivial⟩ rfl (fun h => absurd h (by decide)) fun st' nx' r hr => ?_
    obtain ⟨us, c, rfl, rfl, rfl, hul, hu, hc, hv1⟩ := hr
    have el : us.length = n.length := by omega
    ((conv => whnf); repeat' (first | (refine And.intro ?_ ?_; (focus (first | rfl | decide | assumption | omega | decide +kernel | exact ⟨rfl, rfl⟩ | exact ⟨rfl, rfl, rfl, rfl⟩ | exact fun h => Bool.noConfusion h | exact fun _ => rfl | exact Nat.le_of_ble_eq_true rfl | (simp only [List.length_map, List.length_append, List.length_replicate, List.length_take, List.length_drop, List.length_set, List.length_cons, List.length_nil]; omega))); (conv => whnf)) | ((refine And.intro ?_ ?_ <;> intro _h); all_goals ((first | replace _h := of_decide_eq_true _h | replace _h := of_decide_eq_false _h | skip); (try simp only [Bool.not_eq_true', Bool.not_eq_false', Bool.not_true, Bool.not_false, decide_eq_true_eq, decide_eq_false_iff_not] at _h); (try (guard_hyp _h : True; clear _h)); first | done | contradiction | exact absurd ((Eq.symm _h).trans (show _ = true by assumption)) (by decide) | exact absurd ((Eq.symm _h).trans (show _ = false by assumption)) (by decide) | (conv => whnf))) | (intro _h; ((first | replace _h := of_decide_eq_true _h | replace _h := of_decide_eq_false _h | skip); (try simp only [Bool.not_eq_true', Bool.not_eq_false', Bool.not_true, Bool.not_false, decide_eq_true_eq, decide_eq_false_iff_not] at _h); (try (guard_hyp _h : True; clear _h)); first | done | contradiction | exact absurd ((Eq.symm _h).trans (show _ = true by assumption)) (by decide) | exact absurd ((Eq.symm _h).trans (show _ = false by assumption)) (by decide) | (conv => whnf)))))
    rw [get_mid el]
    refine acallI (f45 p c 0 hp hc (by omega)) rfl fun r hr => ?_
    subst hr
    ((conv => whnf); repeat' (first | (refine And.intro ?_ ?_; (focus (first | rfl | decide | assumption | omega | decide +kernel | exact ⟨rfl, rfl⟩ | exact ⟨rfl, rfl, rfl, rfl⟩ | exact fun h => Bool.noConfusion h | exact fun _ => rfl | exact Nat.le_of_ble_eq_true rfl | (simp only [List.length_map, List.length_append, List.length_replicate, List.length_take, List.length_drop, List.length_set, List.length_cons, List.length_nil]; omega))); (conv => whnf)) | ((refine And.intro ?_ ?_ <;> intro _h); all_goals ((first | replace _h := of_decide_eq_true _h | replace _h := of_decide_eq_false _h | skip); (try simp only [Bool.not_eq_true', Bool.not_eq_false', Bool.not_true, Bool.not_false, decide_eq_true_eq, decide_eq_false_iff_not] at _h); (try (guard_hyp _h : True; clear _h)); first | done | contradiction | exact absurd ((Eq.symm _h).trans (show _ = true by assumption)) (by decide) | exact absurd ((Eq.symm _h).trans (show _ = false by assumption)) (by decide) | (conv => whnf))) | (intro _h; ((first | replace _h := of_decide_eq_true _h | replace _h := of_decide_eq_false _h | skip); (try simp only [Bool.not_eq_true', Bool.not_eq_false', Bool.not_true, Bool.not_false, decide_eq_true_eq, decide_eq_false_iff_not] at _h); (try (guard_hyp _h : True; clear _h)); first | done | contradiction | exact absurd ((Eq.symm _h).trans (show _ = true by assumption)) (by decide) | exact absurd ((Eq.symm _h).trans (show _ = false by assumption)) (by decide) | (conv => whnf)))))
    rw [set_mid el, Int.add_zero]
    ((conv => whnf); repeat' (first | (refine And.intro ?_ ?_; (focus (first | rfl | decide | assumption | omega | decide +kernel | exact ⟨rfl, rfl⟩ | exact ⟨rfl, rfl, rfl, rfl⟩ | exact fun h => Bool.noConfusion h | exact fun _ => rfl | exact Nat.le_of_ble_eq_true rfl | (simp only [List.length_map, List.length_append, List.length_replicate, List.length_take, List.length_drop, List.length_set, List.length_cons, List.length_nil]; omega))); (conv => whnf)) | ((refine And.intro ?_ ?_ <;> intro _h); all_goals ((first | replace _h := of_decide_eq_true _h | replace _h := of_decide_eq_false _h | skip); (try simp only [Bool.not_eq_true', Bool.not_eq_false', Bool.not_true, Bool.not_false, decide_eq_true_eq, decide_eq_false_iff_not] at _h); (try (guard_hyp _h : True; clear _h)); first | done | contradiction | exact absurd ((Eq.symm _h).trans (show _ = true by assumption)) (by decide) | exact absurd ((Eq.symm _h).trans (show _ = false by assumption)) (by decide) | (conv => whnf))) | (intro _h; ((first | replace _h := of_decide_eq_true _h | replace _h := of_decide_eq_false _h | skip); (try simp only [Bool.not_eq_true', Bool.not_eq_false', Bool.not_true, Bool.not_false, decide_eq_true_eq, decide_eq_false_iff_not] at _h); (try (guard_hyp _h : True; clear _h)); first | done | contradiction | exact absurd ((Eq.symm _h).trans (show _ = true by assumption)) (by decide) | exact absurd ((Eq.symm _h).trans (show _ = false by assumption)) (by decide) | (conv => whnf)))))
    rw [hw1]
    ((conv => whnf); repeat' (first | (refine And.intro ?_ ?_; (focus (first | rfl | decide | assumption | omega | decide +kernel | exact ⟨rfl, rfl⟩ | exact ⟨rfl, rfl, rfl, rfl⟩ | exact fun h => Bool.noConfusion h | exact fun _ => rfl | exact Nat.le_of_ble_eq_true rfl | (simp only [List.length_map, List.length_append, List.length_replicate, List.length_take, List.length_drop, List.length_set, List.length_cons, List.length_nil]; omega))); (conv => whnf)) | ((refine And.intro ?_ ?_ <;> intro _h); all_goals ((first | replace _h := of_decide_eq_true _h | replace _h := of_decide_eq_false _h | skip); (try simp only [Bool.not_eq_true', Bool.not_eq_false', Bool.not_true, Bool.not_false, decide_eq_true_eq, decide_eq_false_iff_not] at _h); (try (guard_hyp _h : True; clear _h)); first | done | contradiction | exact absurd ((Eq.symm _h).trans (show _ = true by assumption)) (by decide) | exact absurd ((Eq.symm _h).trans (show _ = false by assumption)) (by decide) | (conv => whnf))) | (intro _h; ((first | replace _h := of_decide_eq_true _h | replace _h := of_decide_eq_false _h | skip); (try simp only [Bool.not_eq_true', Bool.not_eq_false', Bool.not_true, Bool.not_false, decide_eq_true_eq, decide_eq_false_iff_not] at _h); (try (guard_hyp _h : True; clear _h)); first | done | contradiction | exact absurd ((Eq.symm _h).trans (show _ = true by assumption)) (by decide) | exact absurd ((Eq.symm _h).trans (show _ = false by assumption)) (by decide) | (conv => whnf)))))
    rw [get_mid1 el, set_mid1 el, Int.zero_add, wrap_u32 (n := (p + c) / 4294967296) (by omega) (by omega)]
    ((conv => whnf); repeat' (first | (refine And.intro ?_ ?_; (focus (first | rfl | decide | assumption | omega | decide +kernel | exact ⟨rfl, rfl⟩ | exact ⟨rfl, rfl, rfl, rfl⟩ | exact fun h => Bool.noConfusion h | exact fun _ => rfl | exact Nat.le_of_ble_eq_true rfl | (simp only [List.length_map, List.length_append, List.length_replicate, List.length_take, List.length_drop, List.length_set, List.length_cons, List.length_nil]; omega))); (conv => whnf)) | ((refine And.intro ?_ ?_ <;> intro _h); all_goals ((first | replace _h := of_decide_eq_true _h | replace _h := of_decide_eq_false _h | skip); (try simp only [Bool.not_eq_true', Bool.not_eq_false', Bool.not_true, Bool.not_false, decide_eq_true_eq, decide_eq_false_iff_not] at _h); (try (guard_hyp _h : True; clear _h)); first | done | contradiction | exact absurd ((Eq.symm _h).trans (show _ = true by assumption)) (by decide) | exact absurd ((Eq.symm _h).trans (show _ = false by assumption)) (by decide) | (conv => whnf))) | (intro _h; ((first | replace _h := of_decide_eq_true _h | replace _h := of_decide_eq_false _h | skip); (try simp only [Bool.not_eq_true', Bool.not_eq_false', Bool.not_true, Bool.not_false, decide_eq_true_eq, decide_eq_false_iff_not] at _h); (try (guard_hyp _h : True; clear _h)); first | done | contradiction | exact absurd ((Eq.symm _h).trans (show _ = true by assumption)) (by decide) | exact absurd ((Eq.symm _h).trans (show _ = false by assumption)) (by decide) | (conv => whnf)))))
    have e0 : IntKind.u32.wrap ((us ++ [(p + c) % 4294967296, (p + c) / 4294967296]).getD (0 : Int).toNat 0 * n0) = (us.getD 0 0 * n0) % 4294967296 := by
      rw [wrap_mod]
      congr 2
      show (us ++ _).getD 0 0 = _
      rw [List.getD_eq_getElem?_getD, List.getElem?_append_left (by omega), ← List.getD_eq_getElem?_getD]
    refine acall [0] (f44' us [(p + c) % 4294967296, (p + c) / 4294967296] n ((us.getD 0 0 * n0) % 4294967296) hu (by intro y hy; simp at hy; omega) hn (by omega) el (by simp; omega)) rfl ⟨⟨by decide, rfl⟩, trivial⟩ (by rw [← e0]; rfl) (fun h => absurd h (by decide)) fun st' nx' r hr => ?_
    obtain ⟨us2, c2, rfl, rfl, rfl, hul2, hu2, hc2, hv2⟩ := hr
    ((conv => whnf); repeat' (first | (refine And.intro ?_ ?_; (focus (first | rfl | decide | assumption | omega | decide +kernel | exact ⟨rfl, rfl⟩ | exact ⟨rfl, rfl, rfl, rfl⟩ | exact fun h => Bool.noConfusion h | exact fun _ => rfl | exact Nat.le_of_ble_eq_true rfl | (simp only [List.length_map, List.length_append, List.length_replicate, List.length_take, List.length_drop, List.length_set, List.length_cons, List.length_nil]; omega))); (conv => whnf)) | ((refine And.intro ?_ ?_ <;> intro _h); all_goals ((first | replace _h := of_decide_eq_true _h | replace _h := of_decide_eq_false _h | skip); (try simp only [Bool.not_eq_true', Bool.not_eq_false', Bool.not_true, Bool.not_false, decide_eq_true_eq, decide_eq_false_iff_not] at _h); (try (guard_hyp _h : True; clear _h)); first | done | contradiction | exact absurd ((Eq.symm _h).trans (show _ = true by assumption)) (by decide) | exact absurd ((Eq.symm _h).trans (show _ = false by assumption)) (by decide) | (conv => whnf))) | (intro _h; ((first | replace _h := of_decide_eq_true _h | replace _h := of_decide_eq_false _h | skip); (try simp only [Bool.not_eq_true', Bool.not_eq_false', Bool.not_true, Bool.not_false, decide_eq_true_eq, decide_eq_false_iff_not] at _h); (try (guard_hyp _h : True; clear _h)); first | done | contradiction | exact absurd ((Eq.symm _h).trans (show _ = true by assumption)) (by decide) | exact absurd ((Eq.symm _h).trans (show _ = false by assumption)) (by decide) | (conv => whnf)))))
    rw [get_mid hul2]
    refine acallI (f45 ((p + c) % 4294967296) c2 0 (by omega) hc2 (by omega)) rfl fun r hr => ?_
    subst hr
    ((conv => whnf); repeat' (first | (refine And.intro ?_ ?_; (focus (first | rfl | decide | assumption | omega | decide +kernel | exact ⟨rfl, rfl⟩ | exact ⟨rfl, rfl, rfl, rfl⟩ | exact fun h => Bool.noConfusion h | exact fun _ => rfl | exact Nat.le_of_ble_eq_true rfl | (simp only [List.length_map, List.length_append, List.length_replicate, List.length_take, List.length_drop, List.length_set, List.length_cons, List.length_nil]; omega))); (conv => whnf)) | ((refine And.intro ?_ ?_ <;> intro _h); all_goals ((first | replace _h := of_decide_eq_true _h | replace _h := of_decide_eq_false _h | skip); (try simp only [Bool.not_eq_true', Bool.not_eq_false', Bool.not_true, Bool.not_false, decide_eq_true_eq, decide_eq_false_iff_not] at _h); (try (guard_hyp _h : True; clear _h)); first | done | contradiction | exact absurd ((Eq.symm _h).trans (show _ = true by assumption)) (by decide) | exact absurd ((Eq.symm _h).trans (show _ = false by assumption)) (by decide) | (conv => whnf))) | (intro _h; ((first | replace _h := of_decide_eq_true _h | replace _h := of_decide_eq_false _h | skip); (try simp only [Bool.not_eq_true', Bool.not_eq_false', Bool.not_true, Bool.not_false, decide_eq_true_eq, decide_eq_false_iff_not] at _h); (try (guard_hyp _h : True; clear _h)); first | done | contradiction | exact absurd ((Eq.symm _h).trans (show _ = true by assumption)) (by decide) | exact absurd ((Eq.symm _h).trans (show _ = false by assumption)) (by decide) | (conv => whnf)))))
    rw [set_mid hul2, Int.add_zero]
    ((conv => whnf); repeat' (first | (refine And.intro ?_ ?_; (focus (first | rfl | decide | assumption | omega | decide +kernel | exact ⟨rfl, rfl⟩ | exact ⟨rfl, rfl, rfl, rfl⟩ | exact fun h => Bool.noConfusion h | exact fun _ => rfl | exact Nat.le_of_ble_eq_true rfl | (simp only [List.length_map, List.length_append, List.length_replicate, List.length_take, List.length_drop, List.length_set, List.length_cons, List.length_nil]; omega))); (conv => whnf)) | ((refine And.intro ?_ ?_ <;> intro _h); all_goals ((first | replace _h := of_decide_eq_true _h | replace _h := of_decide_eq_false _h | skip); (try simp only [Bool.not_eq_true', Bool.not_eq_false', Bool.not_true, Bool.not_false, decide_eq_true_eq, decide_eq_false_iff_not] at _h); (try (guard_hyp _h : True; clear _h)); first | done | contradiction | exact absurd ((Eq.symm _h).trans (show _ = true by assumption)) (by decide) | exact absurd ((Eq.symm _h).trans (show _ = false by assumption)) (by decide) | (conv => whnf))) | (intro _h; ((first | replace _h := of_decide_eq_true _h | replace _h := of_decide_eq_false _h | skip); (try simp only [Bool.not_eq_true', Bool.not_eq_false', Bool.not_true, Bool.not_false, decide_eq_true_eq, decide_eq_false_iff_not] at _h); (try (guard_hyp _h : True; clear _h)); first | done | contradiction | exact absurd ((Eq.symm _h).trans (show _ = true by assumption)) (by decide) | exact absurd ((Eq.symm _h).trans (show _ = false by assumption)) (by decide) | (conv => whnf)))))
    rw [hw1]
    ((conv => whnf); repeat' (first | (refine And.intro ?_ ?_; (focus (first | rfl | decide | assumption | omega | decide +kernel | exact ⟨rfl, rfl⟩ | exact ⟨rfl, rfl, rfl, rfl⟩ | exact fun h => Bool.noConfusion h | exact fun _ => rfl | exact Nat.le_of_ble_eq_true rfl | (simp only [List.length_map, List.length_append, List.length_replicate, List.length_take, List.length_drop, List.length_set, List.length_cons, List.length_nil]; omega))); (conv => whnf)) | ((refine And.intro ?_ ?_ <;> intro _h); all_goals ((first | replace _h := of_decide_eq_true _h | replace _h := of_decide_eq_false _h | skip); (try simp only [Bool.not_eq_true', Bool.not_eq_false', Bool.not_true, Bool.not_false, decide_eq_true_eq, decide_eq_false_iff_not] at _h); (try (guard_hyp _h : True; clear _h)); first | done | contradiction | exact absurd ((Eq.symm _h).trans (show _ = true by assumption)) (by decide) | exact absurd ((Eq.symm _h).trans (show _ = false by assumption)) (by decide) | (conv => whnf))) | (intro _h; ((first | replace _h := of_decide_eq_true _h | replace _h := of_decide_eq_false _h | skip); (try simp only [Bool.not_eq_true', Bool.not_eq_false', Bool.not_true, Bool.not_false, decide_eq_true_eq, decide_eq_false_iff_not] at _h); (try (guard_hyp _h : True; clear _h)); first | done | contradiction | exact absurd ((Eq.symm _h).trans (show _ = true by assumption)) (by decide) | exact absurd ((Eq.symm _h).trans (show _ = false by assumption)) (by decide) | (conv => whnf)))))
    rw [get_mid1 hul2, set_mid1 hul2, wrap_u32 (n := (p + c) / 4294967296 + ((p + c) % 4294967296 + c2) / 4294967296) (by omega) (by omega)]
    ((conv => whnf); repeat' (first | (refine And.intro ?_ ?_; (focus (first | rfl | decide | assumption | omega | decide +kernel | exact ⟨rfl, rfl⟩ | exact ⟨rfl, rfl, rfl, rfl⟩ | exact fun h => Bool.noConfusion h | exact fun _ => rfl | exact Nat.le_of_ble_eq_true rfl | (simp only [List.length_map, List.length_append, List.length_replicate, List.length_take, List.length_drop, List.length_set, List.length_cons, List.length_nil]; omega))); (conv => whnf)) | ((refine And.intro ?_ ?_ <;> intro _h); all_goals ((first | replace _h := of_decide_eq_true _h | replace _h := of_decide_eq_false _h | skip); (try simp only [Bool.not_eq_true', Bool.not_eq_false', Bool.not_true, Bool.not_false, decide_eq_true_eq, decide_eq_false_iff_not] at _h); (try (guard_hyp _h : True; clear _h)); first | done | contradiction | exact absurd ((Eq.symm _h).trans (show _ = true by assumption)) (by decide) | exact absurd ((Eq.symm _h).trans (show _ = false by assumption)) (by decide) | (conv => whnf))) | (intro _h; ((first | replace _h := of_decide_eq_true _h | replace _h := of_decide_eq_false _h | skip); (try simp only [Bool.not_eq_true', Bool.not_eq_false', Bool.not_true, Bool.not_false, decide_eq_true_eq, decide_eq_false_iff_not] at _h); (try (guard_hyp _h : True; clear _h)); first | done | contradiction | exact absurd ((Eq.symm _h).trans (show _ = true by assumption)) (by decide) | exact absurd ((Eq.symm _h).trans (show _ = false by assumption)) (by decide) | (conv => whnf)))))
    obtain ⟨w', hw'⟩ : ∃ w', n.length = w' + 1 := ⟨n.length - 1, by have := List.length_pos_iff.2 hbl.1; omega⟩
    have hz := mont_zero (w := w') hu2 (by rw [← hw']; exact hv2) hinv
    obtain ⟨u0, us3, rfl⟩ : ∃ u us3, us2 = u :: us3 := by
      cases us2 with
      | nil => simp at hul2; omega
      | cons u us3 => exact ⟨u, us3, rfl⟩
    have hz0 : u0 = 0 := by simpa using hz
    subst hz0
    have hl3 : us3.length = w' := by simp at hul2; omega
    have hq : 0 ≤ (us.getD 0 0 * n0) % 4294967296 ∧ (us.getD 0 0 * n0) % 4294967296 < 4294967296 := by omega
    refine ⟨(i + 1, us3 ++ [((p + c) % 4294967296 + c2) % 4294967296], (p + c) / 4294967296 + ((p + c) % 4294967296 + c2) / 4294967296, Q + pw i * ((us.getD 0 0 * n0) % 4294967296)), [0], by dsimp only; omega,
      ⟨by dsimp only; omega, by simp [hl3, hw'], ?_, by dsimp only; omega, mont_bound i hQ hq, ?_⟩, rfl, ?_⟩
    · exact hu2.cons.2.append (wfl.one (by omega))
    · dsimp only
      have hr1 : val us + pw (w' + 1) * c = val l + a.getD i 0 * val b := by rw [← hw', ← hlb]; exact hv1
      have hr2 : val (0 :: us3) + pw (w' + 1) * c2 = val us + (us.getD 0 0 * n0) % 4294967296 * val n := by rw [← hw']; exact hv2
      have hr := mont_round (w := w') hl3 hr1 hr2 (p := p)
      rw [take_snoc (by omega), val_snoc (a.take i), List.length_take, Nat.min_eq_left (by omega)]
      rw [hw'] at hv ⊢
      exact mont_inv i hv hr
    · (refine ⟨rfl, rfl, ?_, ?_⟩ <;> repeat' (first | exact True.intro | rfl | decide | (refine And.intro ?_ ?_)))
      · refine di ?_
        rw [wrap_i64 (by omega) (by omega)]; rfl
      · exact congrArg (fun x => some (Ob.row .u32 79 x)) (shift 0 _ _ (by omega))
  · have hia : i = a.length := by omega
    subst hia
    have hne : l ≠ [] := by intro h; subst h; simp at hll; exact hbl.1 (List.eq_nil_of_length_eq_zero hll.symm)
    refine acallP [] [] (f46 l hne (by omega)) rfl trivial trivial ?_ (fun _ => rfl) fun st' nx' r ⟨e1, e2, e3⟩ => ?_
    · show [AVal.d (nat l)] = [if 0 + ((n.length : Int).toNat - 0) ≤ (l ++ [p, 0]).length then AVal.d (D.ints .u32 (((l ++ [p, 0]).drop 0).take ((n.length : Int).toNat - 0))) else .any]
      rw [if_pos (by simp; omega), List.drop_zero, Int.toNat_natCast, Nat.sub_zero, ← hll, List.take_left]
    subst e1; subst e2; subst e3
    refine ⟨rfl, rfl, ?_⟩
    ((conv => whnf); repeat' (first | (refine And.intro ?_ ?_; (focus (first | rfl | decide | assumption | omega | decide +kernel | exact ⟨rfl, rfl⟩ | exact ⟨rfl, rfl, rfl, rfl⟩ | exact fun h => Bool.noConfusion h | exact fun _ => rfl | exact Nat.le_of_ble_eq_true rfl | (simp only [List.length_map, List.length_append, List.length_replicate, List.length_take, List.length_drop, List.length_set, List.length_cons, List.length_nil]; omega))); (conv => whnf)) | ((refine And.intro ?_ ?_ <;> intro _h); all_goals ((first | replace _h := of_decide_eq_true _h | replace _h := of_decide_eq_false _h | skip); (try simp only [Bool.not_eq_true', Bool.not_eq_false', Bool.not_true, Bool.not_false, decide_eq_true_eq, decide_eq_false_iff_not] at _h); (try (guard_hyp _h : True; clear _h)); first | done | contradiction | exact absurd ((Eq.symm _h).trans (show _ = true by assumption)) (by decide) | exact absurd ((Eq.symm _h).trans (show _ = false by assumption)) (by decide) | (conv => whnf))) | (intro _h; ((first | replace _h := of_decide_eq_true _h | replace _h := of_decide_eq_false _h | skip); (try simp only [Bool.not_eq_true', Bool.not_eq_false', Bool.not_true, Bool.not_false, decide_eq_true_eq, decide_eq_false_iff_not] at _h); (try (guard_hyp _h : True; clear _h)); first | done | contradiction | exact absurd ((Eq.symm _h).trans (show _ = true by assumption)) (by decide) | exact absurd ((Eq.symm _h).trans (show _ = false by assumption)) (by decide) | (conv => whnf)))))
    rw [get_mid hll]
    refine acallI (f41 n n0 rr l (!decide (p = 0)) hn hl hbn hll) rfl fun r hr => ?_
    obtain ⟨z, rfl, hz1, hz2, hz3⟩ := hr
    ((conv => whnf); repeat' (first | (refine And.intro ?_ ?_; (focus (first | rfl | decide | assumption | omega | decide +kernel | exact ⟨rfl, rfl⟩ | exact ⟨rfl, rfl, rfl, rfl⟩ | exact fun h => Bool.noConfusion h | exact fun _ => rfl | exact Nat.le_of_ble_eq_true rfl | (simp only [List.length_map, List.length_append, List.length_replicate, List.length_take, List.length_drop, List.length_set, List.length_cons, List.length_nil]; omega))); (conv => whnf)) | ((refine And.intro ?_ ?_ <;> intro _h); all_goals ((first | replace _h := of_decide_eq_true _h | replace _h := of_decide_eq_false _h | skip); (try simp only [Bool.not_eq_true', Bool.not_eq_false', Bool.not_true, Bool.not_false, decide_eq_true_eq, decide_eq_false_iff_not] at _h); (try (guard_hyp _h : True; clear _h)); first | done | contradiction | exact absurd ((Eq.symm _h).trans (show _ = true by assumption)) (by decide) | exact absurd ((Eq.symm _h).trans (show _ = false by assumption)) (by decide) | (conv => whnf))) | (intro _h; ((first | replace _h := of_decide_eq_true _h | replace _h := of_decide_eq_false _h | skip); (try simp only [Bool.not_eq_true', Bool.not_eq_false', Bool.not_true, Bool.not_false, decide_eq_true_eq, decide_eq_false_iff_not] at _h); (try (guard_hyp _h : True; clear _h)); first | done | contradiction | exact absurd ((Eq.symm _h).trans (show _ = true by assumption)) (by decide) | exact absurd ((Eq.symm _h).trans (show _ = false by assumption)) (by decide) | (conv => whnf)))))
    refine Ends.imm rfl ⟨z, rfl, hz1, hz2, ?_⟩
    rw [List.take_of_length_le (Nat.le_refl _)] at hv
    rw [hla] at hv hQ
    refine mont_less hl hll hn rfl hz2 hz1 hp.1 hv ⟨val_nonneg ha, ?_⟩ hQ ⟨val_nonneg hb, hbv⟩ hz3
    rw [← hla]; exact val_lt ha


/-- What is no element. -/
def notEl (n x : List Int) : Bool := decide (x.length ≠ n.length) || decide (val n ≤ val x)

theorem sgn_nonneg (x y : Int) : 0 ≤ sgn x y ↔ y ≤ x := by
  unfold sgn
  split
  · omega
  · split <;> omega

theorem f43 (n : List Int) (n0 : Int) (rr x : List Int) (hn : wfl n) (hx : wfl x) (hbn : bad n = false) : Imm Tryd.prog 90 [.d (nat x), .d (.ptr (ringD n n0 rr))] (fun r => r = bool (notEl n x)) := by
  (refine Imm.of_awp told0 [] Tryd.func90 rfl (by decide) (Nat.le_of_ble_eq_true rfl) ?_; intro _w0 _S0 _E0 _B0; ((conv => whnf); repeat' (first | (refine And.intro ?_ ?_; (focus (first | rfl | decide | assumption | omega | decide +kernel | exact ⟨rfl, rfl⟩ | exact ⟨rfl, rfl, rfl, rfl⟩ | exact fun h => Bool.noConfusion h | exact fun _ => rfl | exact Nat.le_of_ble_eq_true rfl | (simp only [List.length_map, List.length_append, List.length_replicate, List.length_take, List.length_drop, List.length_set, List.length_cons, List.length_nil]; omega))); (conv => whnf)) | ((refine And.intro ?_ ?_ <;> intro _h); all_goals ((first | replace _h := of_decide_eq_true _h | replace _h := of_decide_eq_false _h | skip); (try simp only [Bool.not_eq_true', Bool.not_eq_false', Bool.not_true, Bool.not_false, decide_eq_true_eq, decide_eq_false_iff_not] at _h); (try (guard_hyp _h : True; clear _h)); first | done | contradiction | exact absurd ((Eq.symm _h).trans (show _ = true by assumption)) (by decide) | exact absurd ((Eq.symm _h).trans (show _ = false by assumption)) (by decide) | (conv => whnf))) | (intro _h; ((first | replace _h := of_decide_eq_true _h | replace _h := of_decide_eq_false _h | skip); (try simp only [Bool.not_eq_true', Bool.not_eq_false', Bool.not_true, Bool.not_false, decide_eq_true_eq, decide_eq_false_iff_not] at _h); (try (guard_hyp _h : True; clear _h)); first | done | contradiction | exact absurd ((Eq.symm _h).trans (show _ = true by assumption)) (by decide) | exact absurd ((Eq.symm _h).trans (show _ = false by assumption)) (by decide) | (conv => whnf))))))
  · have hl : x.length = n.length := by omega
    refine acallI (f23 x n hx hn (by unfold bad at hbn ⊢; rw [hl]; exact hbn) hbn) rfl fun r hr => ?_
    subst hr
    ((conv => whnf); repeat' (first | (refine And.intro ?_ ?_; (focus (first | rfl | decide | assumption | omega | decide +kernel | exact ⟨rfl, rfl⟩ | exact ⟨rfl, rfl, rfl, rfl⟩ | exact fun h => Bool.noConfusion h | exact fun _ => rfl | exact Nat.le_of_ble_eq_true rfl | (simp only [List.length_map, List.length_append, List.length_replicate, List.length_take, List.length_drop, List.length_set, List.length_cons, List.length_nil]; omega))); (conv => whnf)) | ((refine And.intro ?_ ?_ <;> intro _h); all_goals ((first | replace _h := of_decide_eq_true _h | replace _h := of_decide_eq_false _h | skip); (try simp only [Bool.not_eq_true', Bool.not_eq_false', Bool.not_true, Bool.not_false, decide_eq_true_eq, decide_eq_false_iff_not] at _h); (try (guard_hyp _h : True; clear _h)); first | done | contradiction | exact absurd ((Eq.symm _h).trans (show _ = true by assumption)) (by decide) | exact absurd ((Eq.symm _h).trans (show _ = false by assumption)) (by decide) | (conv => whnf))) | (intro _h; ((first | replace _h := of_decide_eq_true _h | replace _h := of_decide_eq_false _h | skip); (try simp only [Bool.not_eq_true', Bool.not_eq_false', Bool.not_true, Bool.not_false, decide_eq_true_eq, decide_eq_false_iff_not] at _h); (try (guard_hyp _h : True; clear _h)); first | done | contradiction | exact absurd ((Eq.symm _h).trans (show _ = true by assumption)) (by decide) | exact absurd ((Eq.symm _h).trans (show _ = false by assumption)) (by decide) | (conv => whnf)))))
    refine Ends.imm rfl ?_
    unfold bool notEl
    congr 2
    rw [show decide (x.length ≠ n.length) = false by simp [hl], Bool.false_or, decide_eq_decide]
    exact sgn_nonneg _ _
  · refine Ends.imm rfl ?_
    unfold bool notEl
    congr 2
    rw [show decide (x.length ≠ n.length) = true by simp; omega, Bool.true_or]

def told33 : AW.Told := ⟨fun _ => false, fun r i => if r == 1 && i == 1 then [2] else [], fun _ => .done⟩

theorem f33 (n : List Int) (n0 : Int) (rr : List Int) (xss : List (List Int)) (hn : wfl n) (hxs : ∀ x ∈ xss, wfl x) (hbn : bad n = false) :
    Imm Tryd.prog 59 [.d (ringD n n0 rr), .d (.sl 1 (xss.map nat))] (fun r => r = bool (!xss.any (notEl n))) := by
  (refine Imm.of_awp told33 [] Tryd.func59 rfl (by decide) (Nat.le_of_ble_eq_true rfl) ?_; intro _w0 _S0 _E0 _B0; ((conv => whnf); repeat' (first | (refine And.intro ?_ ?_; (focus (first | rfl | decide | assumption | omega | decide +kernel | exact ⟨rfl, rfl⟩ | exact ⟨rfl, rfl, rfl, rfl⟩ | exact fun h => Bool.noConfusion h | exact fun _ => rfl | exact Nat.le_of_ble_eq_true rfl | (simp only [List.length_map, List.length_append, List.length_replicate, List.length_take, List.length_drop, List.length_set, List.length_cons, List.length_nil]; omega))); (conv => whnf)) | ((refine And.intro ?_ ?_ <;> intro _h); all_goals ((first | replace _h := of_decide_eq_true _h | replace _h := of_decide_eq_false _h | skip); (try simp only [Bool.not_eq_true', Bool.not_eq_false', Bool.not_true, Bool.not_false, decide_eq_true_eq, decide_eq_false_iff_not] at _h); (try (guard_hyp _h : True; clear _h)); first | done | contradiction | exact absurd ((Eq.symm _h).trans (show _ = true by assumption)) (by decide) | exact absurd ((Eq.symm _h).trans (show _ = false by assumption)) (by decide) | (conv => whnf))) | (intro _h; ((first | replace _h := of_decide_eq_true _h | replace _h := of_decide_eq_false _h | skip); (try simp only [Bool.not_eq_true', Bool.not_eq_false', Bool.not_true, Bool.not_false, decide_eq_true_eq, decide_eq_false_iff_not] at _h); (try (guard_hyp _h : True; clear _h)); first | done | contradiction | exact absurd ((Eq.symm _h).trans (show _ = true by assumption)) (by decide) | exact absurd ((Eq.symm _h).trans (show _ = false by assumption)) (by decide) | (conv => whnf))))))
  refine acallI (f42 90 [.ptr (ringD n n0 rr)] (notEl n) xss rfl fun x hx => f43 n n0 rr x hn (hxs x hx) hbn) rfl fun r hr => ?_
  subst hr
  ((conv => whnf); repeat' (first | (refine And.intro ?_ ?_; (focus (first | rfl | decide | assumption | omega | decide +kernel | exact ⟨rfl, rfl⟩ | exact ⟨rfl, rfl, rfl, rfl⟩ | exact fun h => Bool.noConfusion h | exact fun _ => rfl | exact Nat.le_of_ble_eq_true rfl | (simp only [List.length_map, List.length_append, List.length_replicate, List.length_take, List.length_drop, List.length_set, List.length_cons, List.length_nil]; omega))); (conv => whnf)) | ((refine And.intro ?_ ?_ <;> intro _h); all_goals ((first | replace _h := of_decide_eq_true _h | replace _h := of_decide_eq_false _h | skip); (try simp only [Bool.not_eq_true', Bool.not_eq_false', Bool.not_true, Bool.not_false, decide_eq_true_eq, decide_eq_false_iff_not] at _h); (try (guard_hyp _h : True; clear _h)); first | done | contradiction | exact absurd ((Eq.symm _h).trans (show _ = true by assumption)) (by decide) | exact absurd ((Eq.symm _h).trans (show _ = false by assumption)) (by decide) | (conv => whnf))) | (intro _h; ((first | replace _h := of_decide_eq_true _h | replace _h := of_decide_eq_false _h | skip); (try simp only [Bool.not_eq_true', Bool.not_eq_false', Bool.not_true, Bool.not_false, decide_eq_true_eq, decide_eq_false_iff_not] at _h); (try (guard_hyp _h : True; clear _h)); first | done | contradiction | exact absurd ((Eq.symm _h).trans (show _ = true by assumption)) (by decide) | exact absurd ((Eq.symm _h).trans (show _ = false by assumption)) (by decide) | (conv => whnf)))))
  exact Ends.imm rfl rfl

/-- What is odd divides no power of 2 out. -/
theorem odd_cancel {n : List Int} {n0 : Int} (hinv : (n.getD 0 0 * n0 + 1) % 4294967296 = 0) : ∃ u v : Int, u * 4294967296 + v * val n = 1 := by
  have e3 := val_step n
  generalize n.getD 0 0 = m at *
  have e5 : m * n0 + 1 = 4294967296 * ((m * n0 + 1) / 4294967296) := by omega
  generalize (m * n0 + 1) / 4294967296 = e at *
  refine ⟨e + n0 * val n.tail, -n0, ?_⟩
  rw [e3]
  grind

theorem pw_cancel {n : List Int} {n0 : Int} (hinv : (n.getD 0 0 * n0 + 1) % 4294967296 = 0) : ∀ w, ∃ u v : Int, u * pw w + v * val n = 1
  | 0 => ⟨1, 0, by simp [pw_zero]⟩
  | w + 1 => by
    obtain ⟨u, v, h⟩ := pw_cancel hinv w
    obtain ⟨u', v', h'⟩ := odd_cancel hinv
    refine ⟨u * u', v + u * pw w * v', ?_⟩
    rw [pw_succ]
    grind

/-- Equal by a power of 2, equal. -/
theorem cancel {n : List Int} {n0 : Int} (hinv : (n.getD 0 0 * n0 + 1) % 4294967296 = 0) {w : Nat} {x y Q : Int} (h : pw w * x = pw w * y + Q * val n) : ∃ Q', x = y + Q' * val n := by
  obtain ⟨u, v, e⟩ := pw_cancel hinv w
  refine ⟨u * Q + v * (x - y), ?_⟩
  grind

theorem mod_eq {N x y Q : Int} (h : x = y + Q * N) (h0 : 0 ≤ x) (h1 : x < N) : x = y % N := by
  have : y = x + -Q * N := by grind
  rw [this, Int.add_mul_emod_self_right, Int.emod_eq_of_lt h0 h1]

theorem times_val {n : List Int} {n0 R A B y z Q0 Q1 Q2 : Int} {w : Nat} (hinv : (n.getD 0 0 * n0 + 1) % 4294967296 = 0) (hz0 : 0 ≤ z) (hz1 : z < val n) (h0 : pw w * pw w = R + Q0 * val n)
    (h1 : pw w * y = A * R + Q1 * val n) (h2 : pw w * z = y * B + Q2 * val n) : z = (A * B) % val n := by
  have e : pw w * (pw w * z) = pw w * (pw w * (A * B)) + (Q1 * B + pw w * Q2 - A * B * Q0) * val n := by grind
  obtain ⟨Q3, e3⟩ := cancel hinv (by
    have : pw (w + w) * z = pw (w + w) * (A * B) + (Q1 * B + pw w * Q2 - A * B * Q0) * val n := by rw [pw_add]; grind
    exact this)
  exact mod_eq e3 hz0 hz1

/-- A ring that is right. -/
structure Ring (n : List Int) (n0 : Int) (rr : List Int) : Prop where
  hn : wfl n
  hbn : bad n = false
  hn0 : 0 ≤ n0 ∧ n0 < 4294967296
  hinv : (n.getD 0 0 * n0 + 1) % 4294967296 = 0
  hr : wfl rr
  hrl : rr.length = n.length
  hrv : val rr < val n
  h1 : 1 < val n
  hrr : ∃ Q, pw n.length * pw n.length = val rr + Q * val n

def told25 : AW.Told := ⟨fun _ => false, fun r i => if r == 1 && i == 4 then [11] else [], fun _ => .done⟩

theorem el_of {n x : List Int} (h : notEl n x = false) : x.length = n.length ∧ val x < val n := by
  unfold notEl at h
  simp at h
  omega

/-- What a product short of a factor is. -/
def shortS (n a b z : List Int) : Prop := z.length = n.length ∧ wfl z ∧ val z < val n ∧ ∃ Q, pw n.length * val z = val a * val b + Q * val n

theorem Ring.short {n : List Int} {n0 : Int} {rr a b : List Int} (h : Ring n n0 rr) (ha : wfl a) (hb : wfl b) (hla : a.length = n.length) (hlb : b.length = n.length) (hbv : val b < val n) :
    Imm Tryd.prog 60 [.d (ringD n n0 rr), .d (nat a), .d (nat b)] (fun r => ∃ z, r = .d (nat z) ∧ shortS n a b z) :=
  f34 n n0 rr a b h.hn h.hn0 ha hb h.hbn hla hlb h.hinv hbv

/-- A product. -/
theorem f22 (n : List Int) (n0 : Int) (rr a b : List Int) (h : Ring n n0 rr) (ha : wfl a) (hb : wfl b) :
    Imm Tryd.prog 26 [.d (ringD n n0 rr), .d (nat a), .d (nat b)] (fun r => if notEl n a || notEl n b then r = .tup [.nls (nat []), i64 13] else ∃ z, r = .tup [.d (nat z), i64 0] ∧ z.length = n.length ∧ wfl z ∧ val z = (val a * val b) % val n) := by
  (refine Imm.of_awp told25 [] Tryd.func26 rfl (by decide) (Nat.le_of_ble_eq_true rfl) ?_; intro _w0 _S0 _E0 _B0; ((conv => whnf); repeat' (first | (refine And.intro ?_ ?_; (focus (first | rfl | decide | assumption | omega | decide +kernel | exact ⟨rfl, rfl⟩ | exact ⟨rfl, rfl, rfl, rfl⟩ | exact fun h => Bool.noConfusion h | exact fun _ => rfl | exact Nat.le_of_ble_eq_true rfl | (simp only [List.length_map, List.length_append, List.length_replicate, List.length_take, List.length_drop, List.length_set, List.length_cons, List.length_nil]; omega))); (conv => whnf)) | ((refine And.intro ?_ ?_ <;> intro _h); all_goals ((first | replace _h := of_decide_eq_true _h | replace _h := of_decide_eq_false _h | skip); (try simp only [Bool.not_eq_true', Bool.not_eq_false', Bool.not_true, Bool.not_false, decide_eq_true_eq, decide_eq_false_iff_not] at _h); (try (guard_hyp _h : True; clear _h)); first | done | contradiction | exact absurd ((Eq.symm _h).trans (show _ = true by assumption)) (by decide) | exact absurd ((Eq.symm _h).trans (show _ = false by assumption)) (by decide) | (conv => whnf))) | (intro _h; ((first | replace _h := of_decide_eq_true _h | replace _h := of_decide_eq_false _h | skip); (try simp only [Bool.not_eq_true', Bool.not_eq_false', Bool.not_true, Bool.not_false, decide_eq_true_eq, decide_eq_false_iff_not] at _h); (try (guard_hyp _h : True; clear _h)); first | done | contradiction | exact absurd ((Eq.symm _h).trans (show _ = true by assumption)) (by decide) | exact absurd ((Eq.symm _h).trans (show _ = false by assumption)) (by decide) | (conv => whnf))))))
  refine acallI (f33 n n0 rr [a, b] h.hn (by intro x hx; simp at hx; rcases hx with rfl | rfl <;> assumption) h.hbn) rfl fun r hr => ?_
  subst hr
  ((conv => whnf); repeat' (first | (refine And.intro ?_ ?_; (focus (first | rfl | decide | assumption | omega | decide +kernel | exact ⟨rfl, rfl⟩ | exact ⟨rfl, rfl, rfl, rfl⟩ | exact fun h => Bool.noConfusion h | exact fun _ => rfl | exact Nat.le_of_ble_eq_true rfl | (simp only [List.length_map, List.length_append, List.length_replicate, List.length_take, List.length_drop, List.length_set, List.length_cons, List.length_nil]; omega))); (conv => whnf)) | ((refine And.intro ?_ ?_ <;> intro _h); all_goals ((first | replace _h := of_decide_eq_true _h | replace _h := of_decide_eq_false _h | skip); (try simp only [Bool.not_eq_true', Bool.not_eq_false', Bool.not_true, Bool.not_false, decide_eq_true_eq, decide_eq_false_iff_not] at _h); (try (guard_hyp _h : True; clear _h)); first | done | contradiction | exact absurd ((Eq.symm _h).trans (show _ = true by assumption)) (by decide) | exact absurd ((Eq.symm _h).trans (show _ = false by assumption)) (by decide) | (conv => whnf))) | (intro _h; ((first | replace _h := of_decide_eq_true _h | replace _h := of_decide_eq_false _h | skip); (try simp only [Bool.not_eq_true', Bool.not_eq_false', Bool.not_true, Bool.not_false, decide_eq_true_eq, decide_eq_false_iff_not] at _h); (try (guard_hyp _h : True; clear _h)); first | done | contradiction | exact absurd ((Eq.symm _h).trans (show _ = true by assumption)) (by decide) | exact absurd ((Eq.symm _h).trans (show _ = false by assumption)) (by decide) | (conv => whnf)))))
  · simp at _h
    refine Ends.imm rfl ?_
    rw [if_pos (by simp; omega)]
  · simp at _h
    obtain ⟨ha1, ha2⟩ := el_of _h.1
    obtain ⟨hb1, hb2⟩ := el_of _h.2
    refine acallI (h.short ha h.hr ha1 h.hrl h.hrv) rfl fun r hr => ?_
    obtain ⟨y, rfl, hy1, hy2, hy3, Q1, hy4⟩ := hr
    ((conv => whnf); repeat' (first | (refine And.intro ?_ ?_; (focus (first | rfl | decide | assumption | omega | decide +kernel | exact ⟨rfl, rfl⟩ | exact ⟨rfl, rfl, rfl, rfl⟩ | exact fun h => Bool.noConfusion h | exact fun _ => rfl | exact Nat.le_of_ble_eq_true rfl | (simp only [List.length_map, List.length_append, List.length_replicate, List.length_take, List.length_drop, List.length_set, List.length_cons, List.length_nil]; omega))); (conv => whnf)) | ((refine And.intro ?_ ?_ <;> intro _h); all_goals ((first | replace _h := of_decide_eq_true _h | replace _h := of_decide_eq_false _h | skip); (try simp only [Bool.not_eq_true', Bool.not_eq_false', Bool.not_true, Bool.not_false, decide_eq_true_eq, decide_eq_false_iff_not] at _h); (try (guard_hyp _h : True; clear _h)); first | done | contradiction | exact absurd ((Eq.symm _h).trans (show _ = true by assumption)) (by decide) | exact absurd ((Eq.symm _h).trans (show _ = false by assumption)) (by decide) | (conv => whnf))) | (intro _h; ((first | replace _h := of_decide_eq_true _h | replace _h := of_decide_eq_false _h | skip); (try simp only [Bool.not_eq_true', Bool.not_eq_false', Bool.not_true, Bool.not_false, decide_eq_true_eq, decide_eq_false_iff_not] at _h); (try (guard_hyp _h : True; clear _h)); first | done | contradiction | exact absurd ((Eq.symm _h).trans (show _ = true by assumption)) (by decide) | exact absurd ((Eq.symm _h).trans (show _ = false by assumption)) (by decide) | (conv => whnf)))))
    refine acallI (h.short hy2 hb hy1 hb1 hb2) rfl fun r hr => ?_
    obtain ⟨z, rfl, hz1, hz2, hz3, Q2, hz4⟩ := hr
    ((conv => whnf); repeat' (first | (refine And.intro ?_ ?_; (focus (first | rfl | decide | assumption | omega | decide +kernel | exact ⟨rfl, rfl⟩ | exact ⟨rfl, rfl, rfl, rfl⟩ | exact fun h => Bool.noConfusion h | exact fun _ => rfl | exact Nat.le_of_ble_eq_true rfl | (simp only [List.length_map, List.length_append, List.length_replicate, List.length_take, List.length_drop, List.length_set, List.length_cons, List.length_nil]; omega))); (conv => whnf)) | ((refine And.intro ?_ ?_ <;> intro _h); all_goals ((first | replace _h := of_decide_eq_true _h | replace _h := of_decide_eq_false _h | skip); (try simp only [Bool.not_eq_true', Bool.not_eq_false', Bool.not_true, Bool.not_false, decide_eq_true_eq, decide_eq_false_iff_not] at _h); (try (guard_hyp _h : True; clear _h)); first | done | contradiction | exact absurd ((Eq.symm _h).trans (show _ = true by assumption)) (by decide) | exact absurd ((Eq.symm _h).trans (show _ = false by assumption)) (by decide) | (conv => whnf))) | (intro _h; ((first | replace _h := of_decide_eq_true _h | replace _h := of_decide_eq_false _h | skip); (try simp only [Bool.not_eq_true', Bool.not_eq_false', Bool.not_true, Bool.not_false, decide_eq_true_eq, decide_eq_false_iff_not] at _h); (try (guard_hyp _h : True; clear _h)); first | done | contradiction | exact absurd ((Eq.symm _h).trans (show _ = true by assumption)) (by decide) | exact absurd ((Eq.symm _h).trans (show _ = false by assumption)) (by decide) | (conv => whnf)))))
    refine Ends.imm rfl ?_
    rw [if_neg (by simp [_h])]
    obtain ⟨Q0, hQ0⟩ := h.hrr
    exact ⟨z, rfl, hz1, hz2, times_val h.hinv (val_nonneg hz2) hz3 hQ0 hy4 hz4⟩


/-- A big-endian number. -/
def ev (bs : List Int) : Nat := bs.foldl (fun acc b => acc * 256 + b.toNat) 0
theorem ev_snoc (bs : List Int) (b : Int) : ev (bs ++ [b]) = ev bs * 256 + b.toNat := by simp [ev]

/-- 'o' stands for 'v' times the width's power. -/
def rep (n o : List Int) (v : Int) : Prop := o.length = n.length ∧ wfl o ∧ val o < val n ∧ ∃ Q, val o = pw n.length * v + Q * val n

theorem rep_short {n : List Int} {n0 : Int} (hinv : (n.getD 0 0 * n0 + 1) % 4294967296 = 0) {a b z : List Int} {x y : Int} (ha : rep n a x) (hb : rep n b y) (hz : shortS n a b z) : rep n z (x * y) := by
  obtain ⟨_, _, _, Q1, h1⟩ := ha
  obtain ⟨_, _, _, Q2, h2⟩ := hb
  obtain ⟨h3, h4, h5, Q3, h6⟩ := hz
  refine ⟨h3, h4, h5, ?_⟩
  have : pw n.length * val z = pw n.length * (pw n.length * (x * y)) + (pw n.length * x * Q2 + Q1 * val b + Q3) * val n := by rw [h6, h1, h2]; grind
  exact cancel hinv this

theorem rep_in {n : List Int} {n0 : Int} (hinv : (n.getD 0 0 * n0 + 1) % 4294967296 = 0) {a rr z : List Int} {Q0 : Int} (h0 : pw n.length * pw n.length = val rr + Q0 * val n) (hz : shortS n a rr z) : rep n z (val a) := by
  obtain ⟨h3, h4, h5, Q3, h6⟩ := hz
  refine ⟨h3, h4, h5, ?_⟩
  have : pw n.length * val z = pw n.length * (pw n.length * val a) + (Q3 - val a * Q0) * val n := by rw [h6]; grind
  exact cancel hinv this

theorem rep_out {n : List Int} {n0 : Int} (hinv : (n.getD 0 0 * n0 + 1) % 4294967296 = 0) {a one z : List Int} {x : Int} (ha : rep n a x) (h1 : val one = 1) (hz : shortS n a one z) : val z = x % val n := by
  obtain ⟨_, _, _, Q1, h2⟩ := ha
  obtain ⟨h3, h4, h5, Q3, h6⟩ := hz
  have : pw n.length * val z = pw n.length * x + (Q1 + Q3) * val n := by rw [h6, h1, h2]; grind
  obtain ⟨Q, hQ⟩ := cancel hinv this
  exact mod_eq hQ (val_nonneg h4) h5

/-- A 1, in limbs. -/
def oneL (w : Nat) : List Int := (List.replicate w 0).set 0 1
theorem oneL_len (w : Nat) : (oneL w).length = w := by simp [oneL]
theorem oneL_val {w : Nat} (h : 0 < w) : val (oneL w) = 1 := by
  cases w with
  | zero => omega
  | succ w => simp [oneL, List.replicate_succ, val, val_zero]
theorem oneL_wf (w : Nat) : wfl (oneL w) := by
  unfold oneL
  refine wfl.set (fun x hx => ?_) 0 (by omega)
  simp at hx; omega

theorem bit_u8 {c : Int} (h0 : 0 ≤ c) (h1 : c < 256) (m : Nat) (hm : m ≤ 7) : bitsK .and .u8 (c / 2 ^ (min (m : Int).toNat (IntKind.bits .u8))) 1 = (c / 2 ^ m) % 2 := by
  rw [Int.toNat_natCast, Nat.min_eq_left (by simp [IntKind.bits]; omega)]
  have hd : 0 ≤ c / 2 ^ m := Int.ediv_nonneg h0 (by exact Int.le_of_lt (Int.pow_pos (by omega)))
  have hd2 : c / 2 ^ m ≤ c := Int.ediv_le_self _ h0
  generalize c / 2 ^ m = d at *
  obtain ⟨k, rfl⟩ : ∃ k : Nat, d = k := ⟨d.toNat, by omega⟩
  have hk : k < 256 := by omega
  have : ∀ k : Fin 256, bitsK .and .u8 ((k.val : Nat) : Int) 1 = ((k.val : Nat) : Int) % 2 := by decide +kernel
  exact this ⟨k, hk⟩

theorem exp_step (e c m : Nat) (hm : m + 1 ≤ 8) : e * 2 ^ (8 - m) + c / 2 ^ m = 2 * (e * 2 ^ (8 - (m + 1)) + c / 2 ^ (m + 1)) + c / 2 ^ m % 2 := by
  have e1 : 8 - m = (8 - (m + 1)) + 1 := by omega
  have e2 : c / 2 ^ (m + 1) = c / 2 ^ m / 2 := by rw [Nat.pow_succ, Nat.div_div_eq_div_mul]
  rw [e2, e1, Nat.pow_succ, ← Nat.mul_assoc]
  omega

def told18 : AW.Told := ⟨fun _ => false, fun r i => if r == 1 && i == 3 then [17] else if r == 8 && i == 6 then [40] else [], fun _ => .done⟩

theorem f18 (n : List Int) (n0 : Int) (rr a exp : List Int) (h : Ring n n0 rr) (ha : wfl a) (he : ∀ b ∈ exp, 0 ≤ b ∧ b < 256) :
    Imm Tryd.prog 79 [.d (ringD n n0 rr), .d (nat a), .d (.ints .u8 exp)] (fun r => if notEl n a then r = .tup [.nls (nat []), i64 13] else if 1024 < exp.length then r = .tup [.nls (nat []), i64 11] else ∃ z, r = .tup [.d (nat z), i64 0] ∧ z.length = n.length ∧ wfl z ∧ val z = (val a ^ ev exp) % val n) := by
  have hbl := h.hbn
  unfold bad at hbl
  simp at hbl
  have hnp : 0 < n.length := List.length_pos_iff.2 hbl.1
  (refine Imm.of_awp told18 [] Tryd.func79 rfl (by decide) (Nat.le_of_ble_eq_true rfl) ?_; intro _w0 _S0 _E0 _B0; ((conv => whnf); repeat' (first | (refine And.intro ?_ ?_; (focus (first | rfl | decide | assumption | omega | decide +kernel | exact ⟨rfl, rfl⟩ | exact ⟨rfl, rfl, rfl, rfl⟩ | exact fun h => Bool.noConfusion h | exact fun _ => rfl | exact Nat.le_of_ble_eq_true rfl | (simp only [List.length_map, List.length_append, List.length_replicate, List.length_take, List.length_drop, List.length_set, List.length_cons, List.length_nil]; omega))); (conv => whnf)) | ((refine And.intro ?_ ?_ <;> intro _h); all_goals ((first | replace _h := of_decide_eq_true _h | replace _h := of_decide_eq_false _h | skip); (try simp only [Bool.not_eq_true', Bool.not_eq_false', Bool.not_true, Bool.not_false, decide_eq_true_eq, decide_eq_false_iff_not] at _h); (try (guard_hyp _h : True; clear _h)); first | done | contradiction | exact absurd ((Eq.symm _h).trans (show _ = true by assumption)) (by decide) | exact absurd ((Eq.symm _h).trans (show _ = false by assumption)) (by decide) | (conv => whnf))) | (intro _h; ((first | replace _h := of_decide_eq_true _h | replace _h := of_decide_eq_false _h | skip); (try simp only [Bool.not_eq_true', Bool.not_eq_false', Bool.not_true, Bool.not_false, decide_eq_true_eq, decide_eq_false_iff_not] at _h); (try (guard_hyp _h : True; clear _h)); first | done | contradiction | exact absurd ((Eq.symm _h).trans (show _ = true by assumption)) (by decide) | exact absurd ((Eq.symm _h).trans (show _ = false by assumption)) (by decide) | (conv => whnf))))))
  refine acallI (f33 n n0 rr [a] h.hn (by intro x hx; simp at hx; subst hx; assumption) h.hbn) rfl fun r hr => ?_
  subst hr
  ((conv => whnf); repeat' (first | (refine And.intro ?_ ?_; (focus (first | rfl | decide | assumption | omega | decide +kernel | exact ⟨rfl, rfl⟩ | exact ⟨rfl, rfl, rfl, rfl⟩ | exact fun h => Bool.noConfusion h | exact fun _ => rfl | exact Nat.le_of_ble_eq_true rfl | (simp only [List.length_map, List.length_append, List.length_replicate, List.length_take, List.length_drop, List.length_set, List.length_cons, List.length_nil]; omega))); (conv => whnf)) | ((refine And.intro ?_ ?_ <;> intro _h); all_goals ((first | replace _h := of_decide_eq_true _h | replace _h := of_decide_eq_false _h | skip); (try simp only [Bool.not_eq_true', Bool.not_eq_false', Bool.not_true, Bool.not_false, decide_eq_true_eq, decide_eq_false_iff_not] at _h); (try (guard_hyp _h : True; clear _h)); first | done | contradiction | exact absurd ((Eq.symm _h).trans (show _ = true by assumption)) (by decide) | exact absurd ((Eq.symm _h).trans (show _ = false by assumption)) (by decide) | (conv => whnf))) | (intro _h; ((first | replace _h := of_decide_eq_true _h | replace _h := of_decide_eq_false _h | skip); (try simp only [Bool.not_eq_true', Bool.not_eq_false', Bool.not_true, Bool.not_false, decide_eq_true_eq, decide_eq_false_iff_not] at _h); (try (guard_hyp _h : True; clear _h)); first | done | contradiction | exact absurd ((Eq.symm _h).trans (show _ = true by assumption)) (by decide) | exact absurd ((Eq.symm _h).trans (show _ = false by assumption)) (by decide) | (conv => whnf)))))
  · refine Ends.imm rfl ?_
    simp at _h
    rw [if_pos _h]
  · refine Ends.imm rfl ?_
    rename_i h1
    simp at h1
    rw [if_neg (by simp [h1]), if_pos (by omega)]
  · rename_i h1
    simp at h1
    obtain ⟨ha1, ha2⟩ := el_of h1
    obtain ⟨Q0, hQ0⟩ := h.hrr
    refine acallI (h.short ha h.hr ha1 h.hrl h.hrv) rfl fun r hr => ?_
    obtain ⟨base, rfl, hb⟩ := hr
    have rb := rep_in h.hinv hQ0 hb
    ((conv => whnf); repeat' (first | (refine And.intro ?_ ?_; (focus (first | rfl | decide | assumption | omega | decide +kernel | exact ⟨rfl, rfl⟩ | exact ⟨rfl, rfl, rfl, rfl⟩ | exact fun h => Bool.noConfusion h | exact fun _ => rfl | exact Nat.le_of_ble_eq_true rfl | (simp only [List.length_map, List.length_append, List.length_replicate, List.length_take, List.length_drop, List.length_set, List.length_cons, List.length_nil]; omega))); (conv => whnf)) | ((refine And.intro ?_ ?_ <;> intro _h); all_goals ((first | replace _h := of_decide_eq_true _h | replace _h := of_decide_eq_false _h | skip); (try simp only [Bool.not_eq_true', Bool.not_eq_false', Bool.not_true, Bool.not_false, decide_eq_true_eq, decide_eq_false_iff_not] at _h); (try (guard_hyp _h : True; clear _h)); first | done | contradiction | exact absurd ((Eq.symm _h).trans (show _ = true by assumption)) (by decide) | exact absurd ((Eq.symm _h).trans (show _ = false by assumption)) (by decide) | (conv => whnf))) | (intro _h; ((first | replace _h := of_decide_eq_true _h | replace _h := of_decide_eq_false _h | skip); (try simp only [Bool.not_eq_true', Bool.not_eq_false', Bool.not_true, Bool.not_false, decide_eq_true_eq, decide_eq_false_iff_not] at _h); (try (guard_hyp _h : True; clear _h)); first | done | contradiction | exact absurd ((Eq.symm _h).trans (show _ = true by assumption)) (by decide) | exact absurd ((Eq.symm _h).trans (show _ = false by assumption)) (by decide) | (conv => whnf)))))
    refine acallI (h.short (oneL_wf n.length) h.hr (oneL_len _) h.hrl h.hrv) rfl fun r hr => ?_
    obtain ⟨out, rfl, ho⟩ := hr
    have ro := rep_in h.hinv hQ0 ho
    rw [oneL_val hnp] at ro
    ((conv => whnf); repeat' (first | (refine And.intro ?_ ?_; (focus (first | rfl | decide | assumption | omega | decide +kernel | exact ⟨rfl, rfl⟩ | exact ⟨rfl, rfl, rfl, rfl⟩ | exact fun h => Bool.noConfusion h | exact fun _ => rfl | exact Nat.le_of_ble_eq_true rfl | (simp only [List.length_map, List.length_append, List.length_replicate, List.length_take, List.length_drop, List.length_set, List.length_cons, List.length_nil]; omega))); (conv => whnf)) | ((refine And.intro ?_ ?_ <;> intro _h); all_goals ((first | replace _h := of_decide_eq_true _h | replace _h := of_decide_eq_false _h | skip); (try simp only [Bool.not_eq_true', Bool.not_eq_false', Bool.not_true, Bool.not_false, decide_eq_true_eq, decide_eq_false_iff_not] at _h); (try (guard_hyp _h : True; clear _h)); first | done | contradiction | exact absurd ((Eq.symm _h).trans (show _ = true by assumption)) (by decide) | exact absurd ((Eq.symm _h).trans (show _ = false by assumption)) (by decide) | (conv => whnf))) | (intro _h; ((first | replace _h := of_decide_eq_true _h | replace _h := of_decide_eq_false _h | skip); (try simp only [Bool.not_eq_true', Bool.not_eq_false', Bool.not_true, Bool.not_false, decide_eq_true_eq, decide_eq_false_iff_not] at _h); (try (guard_hyp _h : True; clear _h)); first | done | contradiction | exact absurd ((Eq.symm _h).trans (show _ = true by assumption)) (by decide) | exact absurd ((Eq.symm _h).trans (show _ = false by assumption)) (by decide) | (conv => whnf)))))
    refine aloop (T := told18) (ι := Nat × List Int) (fun x => [(0, .d (ringD n n0 rr)), (8, .d (nat (oneL n.length))), (9, .d (nat base)), (10, .d (nat x.2)), (46, .d (.ints .u8 exp)), (47, i64 exp.length), (48, i64 x.1)]) (fun x => []) 74 0
      (fun x => exp.length - x.1) (fun x => x.1 ≤ exp.length ∧ rep n x.2 (val a ^ ev (exp.take x.1))) ⟨(0, out), [], rfl, ⟨by omega, by simpa [ev] using ro⟩, by (refine ⟨rfl, rfl, ?_, ?_⟩ <;> repeat' (first | exact True.intro | rfl | decide | (refine And.intro ?_ ?_)))⟩ ?_
    intro ⟨i, o⟩ ⟨hi, hro⟩
    dsimp only at hi hro ⊢
    ((conv => whnf); repeat' (first | (refine And.intro ?_ ?_; (focus (first | rfl | decide | assumption | omega | decide +kernel | exact ⟨rfl, rfl⟩ | exact ⟨rfl, rfl, rfl, rfl⟩ | exact fun h => Bool.noConfusion h | exact fun _ => rfl | exact Nat.le_of_ble_eq_true rfl | (simp only [List.length_map, List.length_append, List.length_replicate, List.length_take, List.length_drop, List.length_set, List.length_cons, List.length_nil]; omega))); (conv => whnf)) | ((refine And.intro ?_ ?_ <;> intro _h); all_goals ((first | replace _h := of_decide_eq_true _h | replace _h := of_decide_eq_false _h | skip); (try simp only [Bool.not_eq_true', Bool.not_eq_false', Bool.not_true, Bool.not_false, decide_eq_true_eq, decide_eq_false_iff_not] at _h); (try (guard_hyp _h : True; clear _h)); first | done | contradiction | exact absurd ((Eq.symm _h).trans (show _ = true by assumption)) (by decide) | exact absurd ((Eq.symm _h).trans (show _ = false by assumption)) (by decide) | (conv => whnf))) | (intro _h; ((first | replace _h := of_decide_eq_true _h | replace _h := of_decide_eq_false _h | skip); (try simp only [Bool.not_eq_true', Bool.not_eq_false', Bool.not_true, Bool.not_false, decide_eq_true_eq, decide_eq_false_iff_not] at _h); (try (guard_hyp _h : True; clear _h)); first | done | contradiction | exact absurd ((Eq.symm _h).trans (show _ = true by assumption)) (by decide) | exact absurd ((Eq.symm _h).trans (show _ = false by assumption)) (by decide) | (conv => whnf)))))
    · obtain ⟨c, hc⟩ : ∃ c, exp.getD (i : Int).toNat 0 = c := ⟨_, rfl⟩
      have hcm : c ∈ exp := by
        rw [← hc, Int.toNat_natCast, List.getD_eq_getElem?_getD, List.getElem?_eq_getElem (by omega)]
        exact List.getElem_mem _
      have hcb := he c hcm
      rw [hc]
      refine aloop (T := told18) (ι := Nat × List Int) (fun x => [(0, .d (ringD n n0 rr)), (8, .d (nat (oneL n.length))), (9, .d (nat base)), (10, .d (nat x.2)), (46, .d (.ints .u8 exp)), (47, i64 exp.length), (48, i64 i), (12, .d (.int .u8 c)), (13, i64 ((x.1 : Int) - 1))]) (fun x => []) 74 0
        (fun x => x.1) (fun x => x.1 ≤ 8 ∧ rep n x.2 (val a ^ (ev (exp.take i) * 2 ^ (8 - x.1) + c.toNat / 2 ^ x.1))) ⟨(8, o), [], rfl, ⟨by omega, ?_⟩, by (refine ⟨rfl, rfl, ?_, ?_⟩ <;> repeat' (first | exact True.intro | rfl | decide | (refine And.intro ?_ ?_)))⟩ ?_
      · have : c.toNat / 2 ^ 8 = 0 := Nat.div_eq_of_lt (by omega)
        simpa [this] using hro
      intro ⟨m, o2⟩ ⟨hm, hro2⟩
      dsimp only at hm hro2 ⊢
      ((conv => whnf); repeat' (first | (refine And.intro ?_ ?_; (focus (first | rfl | decide | assumption | omega | decide +kernel | exact ⟨rfl, rfl⟩ | exact ⟨rfl, rfl, rfl, rfl⟩ | exact fun h => Bool.noConfusion h | exact fun _ => rfl | exact Nat.le_of_ble_eq_true rfl | (simp only [List.length_map, List.length_append, List.length_replicate, List.length_take, List.length_drop, List.length_set, List.length_cons, List.length_nil]; omega))); (conv => whnf)) | ((refine And.intro ?_ ?_ <;> intro _h); all_goals ((first | replace _h := of_decide_eq_true _h | replace _h := of_decide_eq_false _h | skip); (try simp only [Bool.not_eq_true', Bool.not_eq_false', Bool.not_true, Bool.not_false, decide_eq_true_eq, decide_eq_false_iff_not] at _h); (try (guard_hyp _h : True; clear _h)); first | done | contradiction | exact absurd ((Eq.symm _h).trans (show _ = true by assumption)) (by decide) | exact absurd ((Eq.symm _h).trans (show _ = false by assumption)) (by decide) | (conv => whnf))) | (intro _h; ((first | replace _h := of_decide_eq_true _h | replace _h := of_decide_eq_false _h | skip); (try simp only [Bool.not_eq_true', Bool.not_eq_false', Bool.not_true, Bool.not_false, decide_eq_true_eq, decide_eq_false_iff_not] at _h); (try (guard_hyp _h : True; clear _h)); first | done | contradiction | exact absurd ((Eq.symm _h).trans (show _ = true by assumption)) (by decide) | exact absurd ((Eq.symm _h).trans (show _ = false by assumption)) (by decide) | (conv => whnf)))))
      · obtain ⟨m', rfl⟩ : ∃ k, m = k + 1 := ⟨m - 1, by omega⟩
        have em : ((m' + 1 : Nat) : Int) - 1 = m' := by omega
        rw [em]
        refine acallI (h.short hro2.2.1 hro2.2.1 hro2.1 hro2.1 hro2.2.2.1) rfl fun r hr => ?_
        obtain ⟨sq, rfl, hsq⟩ := hr
        have rsq := rep_short h.hinv hro2 hro2 hsq
        have hes := exp_step (ev (exp.take i)) c.toNat m' hm
        have hbit : (c / 2 ^ m') % 2 = ((c.toNat / 2 ^ m' % 2 : Nat) : Int) := by
          obtain ⟨k, rfl⟩ : ∃ k : Nat, c = k := ⟨c.toNat, by omega⟩
          simp
        have hpp : val a ^ (ev (exp.take i) * 2 ^ (8 - (m' + 1)) + c.toNat / 2 ^ (m' + 1)) * val a ^ (ev (exp.take i) * 2 ^ (8 - (m' + 1)) + c.toNat / 2 ^ (m' + 1)) = val a ^ (2 * (ev (exp.take i) * 2 ^ (8 - (m' + 1)) + c.toNat / 2 ^ (m' + 1))) := by
          rw [← Int.pow_add]; congr 1; omega
        rw [hpp] at rsq
        ((conv => whnf); repeat' (first | (refine And.intro ?_ ?_; (focus (first | rfl | decide | assumption | omega | decide +kernel | exact ⟨rfl, rfl⟩ | exact ⟨rfl, rfl, rfl, rfl⟩ | exact fun h => Bool.noConfusion h | exact fun _ => rfl | exact Nat.le_of_ble_eq_true rfl | (simp only [List.length_map, List.length_append, List.length_replicate, List.length_take, List.length_drop, List.length_set, List.length_cons, List.length_nil]; omega))); (conv => whnf)) | ((refine And.intro ?_ ?_ <;> intro _h); all_goals ((first | replace _h := of_decide_eq_true _h | replace _h := of_decide_eq_false _h | skip); (try simp only [Bool.not_eq_true', Bool.not_eq_false', Bool.not_true, Bool.not_false, decide_eq_true_eq, decide_eq_false_iff_not] at _h); (try (guard_hyp _h : True; clear _h)); first | done | contradiction | exact absurd ((Eq.symm _h).trans (show _ = true by assumption)) (by decide) | exact absurd ((Eq.symm _h).trans (show _ = false by assumption)) (by decide) | (conv => whnf))) | (intro _h; ((first | replace _h := of_decide_eq_true _h | replace _h := of_decide_eq_false _h | skip); (try simp only [Bool.not_eq_true', Bool.not_eq_false', Bool.not_true, Bool.not_false, decide_eq_true_eq, decide_eq_false_iff_not] at _h); (try (guard_hyp _h : True; clear _h)); first | done | contradiction | exact absurd ((Eq.symm _h).trans (show _ = true by assumption)) (by decide) | exact absurd ((Eq.symm _h).trans (show _ = false by assumption)) (by decide) | (conv => whnf)))))
        · rw [bit_u8 hcb.1 hcb.2 m' (by omega), hbit] at _h
          refine acallI (h.short rsq.2.1 rb.2.1 rsq.1 rb.1 rb.2.2.1) rfl fun r hr => ?_
          obtain ⟨z, rfl, hz⟩ := hr
          have rz := rep_short h.hinv rsq rb hz
          ((conv => whnf); repeat' (first | (refine And.intro ?_ ?_; (focus (first | rfl | decide | assumption | omega | decide +kernel | exact ⟨rfl, rfl⟩ | exact ⟨rfl, rfl, rfl, rfl⟩ | exact fun h => Bool.noConfusion h | exact fun _ => rfl | exact Nat.le_of_ble_eq_true rfl | (simp only [List.length_map, List.length_append, List.length_replicate, List.length_take, List.length_drop, List.length_set, List.length_cons, List.length_nil]; omega))); (conv => whnf)) | ((refine And.intro ?_ ?_ <;> intro _h); all_goals ((first | replace _h := of_decide_eq_true _h | replace _h := of_decide_eq_false _h | skip); (try simp only [Bool.not_eq_true', Bool.not_eq_false', Bool.not_true, Bool.not_false, decide_eq_true_eq, decide_eq_false_iff_not] at _h); (try (guard_hyp _h : True; clear _h)); first | done | contradiction | exact absurd ((Eq.symm _h).trans (show _ = true by assumption)) (by decide) | exact absurd ((Eq.symm _h).trans (show _ = false by assumption)) (by decide) | (conv => whnf))) | (intro _h; ((first | replace _h := of_decide_eq_true _h | replace _h := of_decide_eq_false _h | skip); (try simp only [Bool.not_eq_true', Bool.not_eq_false', Bool.not_true, Bool.not_false, decide_eq_true_eq, decide_eq_false_iff_not] at _h); (try (guard_hyp _h : True; clear _h)); first | done | contradiction | exact absurd ((Eq.symm _h).trans (show _ = true by assumption)) (by decide) | exact absurd ((Eq.symm _h).trans (show _ = false by assumption)) (by decide) | (conv => whnf)))))
          refine ⟨(m', z), [], by dsimp only; omega, ⟨by dsimp only; omega, ?_⟩, rfl, ?_⟩
          · dsimp only
            rw [hes, show c.toNat / 2 ^ m' % 2 = 1 by omega, Int.pow_succ]
            exact rz
          · (refine ⟨rfl, rfl, ?_, ?_⟩ <;> repeat' (first | exact True.intro | rfl | decide | (refine And.intro ?_ ?_)))
            refine di ?_
            rw [wrap_i64 (by omega) (by omega)]
        · rw [bit_u8 hcb.1 hcb.2 m' (by omega), hbit] at _h
          refine ⟨(m', sq), [], by dsimp only; omega, ⟨by dsimp only; omega, ?_⟩, rfl, ?_⟩
          · dsimp only
            rw [hes, show c.toNat / 2 ^ m' % 2 = 0 by omega, Nat.add_zero]
            exact rsq
          · (refine ⟨rfl, rfl, ?_, ?_⟩ <;> repeat' (first | exact True.intro | rfl | decide | (refine And.intro ?_ ?_)))
            refine di ?_
            rw [wrap_i64 (by omega) (by omega)]
      · have hm0 : m = 0 := by omega
        subst hm0
        refine ⟨(i + 1, o2), [], by dsimp only; omega, ⟨by dsimp only; omega, ?_⟩, rfl, ?_⟩
        · dsimp only
          have hc' : exp.getD i 0 = c := hc
          rw [take_snoc (by omega), ev_snoc, hc']
          simpa using hro2
        · (refine ⟨rfl, rfl, ?_, ?_⟩ <;> repeat' (first | exact True.intro | rfl | decide | (refine And.intro ?_ ?_)))
          refine di ?_
          rw [wrap_i64 (by omega) (by omega)]; rfl
    · have hie : i = exp.length := by omega
      subst hie
      have h1v : val (oneL n.length) < val n := by
        rw [oneL_val hnp]
        exact h.h1
      refine acallI (h.short hro.2.1 (oneL_wf n.length) hro.1 (oneL_len _) h1v) rfl fun r hr => ?_
      obtain ⟨z, rfl, hz⟩ := hr
      ((conv => whnf); repeat' (first | (refine And.intro ?_ ?_; (focus (first | rfl | decide | assumption | omega | decide +kernel | exact ⟨rfl, rfl⟩ | exact ⟨rfl, rfl, rfl, rfl⟩ | exact fun h => Bool.noConfusion h | exact fun _ => rfl | exact Nat.le_of_ble_eq_true rfl | (simp only [List.length_map, List.length_append, List.length_replicate, List.length_take, List.length_drop, List.length_set, List.length_cons, List.length_nil]; omega))); (conv => whnf)) | ((refine And.intro ?_ ?_ <;> intro _h); all_goals ((first | replace _h := of_decide_eq_true _h | replace _h := of_decide_eq_false _h | skip); (try simp only [Bool.not_eq_true', Bool.not_eq_false', Bool.not_true, Bool.not_false, decide_eq_true_eq, decide_eq_false_iff_not] at _h); (try (guard_hyp _h : True; clear _h)); first | done | contradiction | exact absurd ((Eq.symm _h).trans (show _ = true by assumption)) (by decide) | exact absurd ((Eq.symm _h).trans (show _ = false by assumption)) (by decide) | (conv => whnf))) | (intro _h; ((first | replace _h := of_decide_eq_true _h | replace _h := of_decide_eq_false _h | skip); (try simp only [Bool.not_eq_true', Bool.not_eq_false', Bool.not_true, Bool.not_false, decide_eq_true_eq, decide_eq_false_iff_not] at _h); (try (guard_hyp _h : True; clear _h)); first | done | contradiction | exact absurd ((Eq.symm _h).trans (show _ = true by assumption)) (by decide) | exact absurd ((Eq.symm _h).trans (show _ = false by assumption)) (by decide) | (conv => whnf)))))
      refine Ends.imm rfl ?_
      rw [if_neg (by simp [h1]), if_neg (by omega)]
      refine ⟨z, rfl, hz.1, hz.2.1, ?_⟩
      have := rep_out h.hinv hro (oneL_val hnp) hz
      rwa [List.take_of_length_le (Nat.le_refl _)] at this

end Go.Proofs.YtniaeiikdgbnfaaDoor.R
namespace Go.Proofs.YtniaeiikdgbnfaaDoor.R

/-- What digits are worth: the lowest first. -/
def dval : List Int → Int
  | [] => 0
  | x :: xs => x + 256 * dval xs

def wfd (xs : List Int) : Prop := ∀ x ∈ xs, 0 ≤ x ∧ x < 256

theorem wfd.cons {x : Int} {xs : List Int} (h : wfd (x :: xs)) : (0 ≤ x ∧ x < 256) ∧ wfd xs := ⟨h x (by simp), fun y hy => h y (by simp [hy])⟩
theorem wfd.append {xs ys : List Int} (h1 : wfd xs) (h2 : wfd ys) : wfd (xs ++ ys) := fun x hx => by
  rcases List.mem_append.1 hx with h | h
  · exact h1 x h
  · exact h2 x h
theorem wfd.take {xs : List Int} (h : wfd xs) (n : Nat) : wfd (xs.take n) := fun x hx => h x (List.mem_of_mem_take hx)
theorem wfd.drop {xs : List Int} (h : wfd xs) (n : Nat) : wfd (xs.drop n) := fun x hx => h x (List.mem_of_mem_drop hx)
theorem wfd.get {xs : List Int} (h : wfd xs) (i : Nat) : 0 ≤ xs.getD i 0 ∧ xs.getD i 0 < 256 := by
  rw [List.getD_eq_getElem?_getD]
  rcases Nat.lt_or_ge i xs.length with hi | hi
  · rw [List.getElem?_eq_getElem hi]; exact h _ (List.getElem_mem hi)
  · rw [List.getElem?_eq_none hi]; simp
theorem wfd.one {x : Int} (h : 0 ≤ x ∧ x < 256) : wfd [x] := fun y hy => by simp at hy; subst hy; exact h
theorem wfd.set {xs : List Int} (h : wfd xs) (i : Nat) {x : Int} (hx : 0 ≤ x ∧ x < 256) : wfd (xs.set i x) := fun y hy => by
  rcases List.mem_or_eq_of_mem_set hy with h' | h'
  · exact h y h'
  · subst h'; exact hx

/-- The weight of digit number n. -/
def dpw (n : Nat) : Int := 256 ^ n
theorem dpw_zero : dpw 0 = 1 := rfl
theorem dpw_succ (n : Nat) : dpw (n + 1) = dpw n * 256 := Int.pow_succ ..
theorem dpw_pos (n : Nat) : 0 < dpw n := Int.pow_pos (by omega)
theorem dpw_add (m n : Nat) : dpw (m + n) = dpw m * dpw n := Int.pow_add ..

theorem dval_append : ∀ (xs ys : List Int), dval (xs ++ ys) = dval xs + dpw xs.length * dval ys
  | [], ys => by simp [dval, dpw_zero]
  | x :: xs, ys => by
    simp only [List.cons_append, dval, dval_append xs ys, List.length_cons, dpw_succ, Int.mul_add, Int.add_assoc]
    rw [Int.mul_comm (dpw xs.length) 256, Int.mul_assoc]
theorem dval_snoc (xs : List Int) (x : Int) : dval (xs ++ [x]) = dval xs + dpw xs.length * x := by
  rw [dval_append]; simp [dval]

theorem dval_nonneg : ∀ {xs : List Int}, wfd xs → 0 ≤ dval xs
  | [], _ => by simp [dval]
  | x :: xs, h => by
    have := dval_nonneg h.cons.2
    have := h.cons.1
    simp only [dval]; omega
theorem dval_lt : ∀ {xs : List Int}, wfd xs → dval xs < dpw xs.length
  | [], _ => by simp [dval, dpw_zero]
  | x :: xs, h => by
    have := dval_lt h.cons.2
    have := h.cons.1
    simp only [dval, List.length_cons, dpw_succ]; omega

theorem dval_inj : ∀ {xs ys : List Int}, wfd xs → wfd ys → xs.length = ys.length → dval xs = dval ys → xs = ys
  | [], [], _, _, _, _ => rfl
  | x :: xs, y :: ys, hx, hy, hl, hv => by
    simp only [dval] at hv
    have h1 := hx.cons.1
    have h2 := hy.cons.1
    have e1 : x = y := by omega
    have e2 : dval xs = dval ys := by omega
    rw [e1, dval_inj hx.cons.2 hy.cons.2 (by simpa using hl) e2]

/-- A difference, a digit further. -/
theorem sub_dig {a b d : Int} (p : Int) {x y c : Int} (hx : 0 ≤ x ∧ x < 256) (hy : 0 ≤ y ∧ y < 256) (hc : c = 0 ∨ c = 1) (h : a - p * c = b - d) :
    a + p * ((x - y - c) % 256) - p * 256 * (if x < y + c then 1 else 0) = b + p * x - (d + p * y) := by
  have e : (x - y - c) % 256 - 256 * (if x < y + c then 1 else 0) = x - y - c := by
    rcases hc with rfl | rfl <;> split <;> omega
  have : p * ((x - y - c) % 256) - p * 256 * (if x < y + c then 1 else 0) = p * (x - y - c) := by rw [Int.mul_assoc, ← Int.mul_sub, e]
  rw [Int.mul_sub, Int.mul_sub] at this
  omega

/-- Without noughts at its upper end. -/
def trimmed (xs : List Int) : Prop := xs = [] ∨ xs.getD (xs.length - 1) 0 ≠ 0

theorem dval_zeros : ∀ (xs : List Int), (∀ x ∈ xs, x = 0) → dval xs = 0
  | [], _ => rfl
  | x :: xs, h => by
    have h1 := h x (by simp)
    have h2 := dval_zeros xs fun y hy => h y (by simp [hy])
    simp [dval, h1, h2]

theorem dval_take {xs : List Int} {n : Nat} (h : ∀ j, n ≤ j → xs.getD j 0 = 0) : dval (xs.take n) = dval xs := by
  conv => rhs; rw [← List.take_append_drop n xs]
  rw [dval_append, dval_zeros (xs.drop n) fun x hx => ?_]
  · omega
  · obtain ⟨i, hi, rfl⟩ := List.getElem_of_mem hx
    have := h (n + i) (by omega)
    rw [List.getD_eq_getElem?_getD, List.getElem?_eq_getElem (by simp at hi; omega)] at this
    simpa using this

end Go.Proofs.YtniaeiikdgbnfaaDoor.R
namespace Go.Proofs.YtniaeiikdgbnfaaDoor.R
open Go Go.RowKit Go.Proofs Go.Proofs.YtniaeiikdgbnfaaDoor.AW
set_option linter.unusedSectionVars false
variable [Globs]
set_option maxRecDepth 100000
set_option linter.unusedSimpArgs false
set_option linter.unusedVariables false
set_option maxHeartbeats 4000000

abbrev digs (xs : List Int) : D := .ints .i64 xs

theorem f29 (xs : List Int) (hl : xs.length ≤ 1000000) : Imm Tryd.prog 80 [.d (digs xs)] (fun r => ∃ n, r = .d (digs (xs.take n)) ∧ n ≤ xs.length ∧ (∀ j, n ≤ j → xs.getD j 0 = 0) ∧ (n = 0 ∨ xs.getD (n - 1) 0 ≠ 0)) := by
  (refine Imm.of_awp told0 [] Tryd.func80 rfl (by decide) (Nat.le_of_ble_eq_true rfl) ?_; intro _w0 _S0 _E0 _B0; ((conv => whnf); repeat' (first | (refine And.intro ?_ ?_; (focus (first | rfl | decide | assumption | omega | decide +kernel | exact ⟨rfl, rfl⟩ | exact ⟨rfl, rfl, rfl, rfl⟩ | exact fun h => Bool.noConfusion h | exact fun _ => rfl | exact Nat.le_of_ble_eq_true rfl | (simp only [List.length_map, List.length_append, List.length_replicate, List.length_take, List.length_drop, List.length_set, List.length_cons, List.length_nil]; omega))); (conv => whnf)) | ((refine And.intro ?_ ?_ <;> intro _h); all_goals ((first | replace _h := of_decide_eq_true _h | replace _h := of_decide_eq_false _h | skip); (try simp only [Bool.not_eq_true', Bool.not_eq_false', Bool.not_true, Bool.not_false, decide_eq_true_eq, decide_eq_false_iff_not] at _h); (try (guard_hyp _h : True; clear _h)); first | done | contradiction | exact absurd ((Eq.symm _h).trans (show _ = true by assumption)) (by decide) | exact absurd ((Eq.symm _h).trans (show _ = false by assumption)) (by decide) | (conv => whnf))) | (intro _h; ((first | replace _h := of_decide_eq_true _h | replace _h := of_decide_eq_false _h | skip); (try simp only [Bool.not_eq_true', Bool.not_eq_false', Bool.not_true, Bool.not_false, decide_eq_true_eq, decide_eq_false_iff_not] at _h); (try (guard_hyp _h : True; clear _h)); first | done | contradiction | exact absurd ((Eq.symm _h).trans (show _ = true by assumption)) (by decide) | exact absurd ((Eq.symm _h).trans (show _ = false by assumption)) (by decide) | (conv => whnf))))))
  refine aloop (T := told0) (ι := Nat) (fun n => [(0, .d (digs xs)), (3, i64 n)]) (fun _ => []) 21 0 (fun n => n) (fun n => n ≤ xs.length ∧ ∀ j, n ≤ j → xs.getD j 0 = 0)
    ⟨xs.length, [], rfl, ⟨Nat.le_refl _, fun j hj => by rw [List.getD_eq_getElem?_getD, List.getElem?_eq_none hj]; rfl⟩, by (refine ⟨rfl, rfl, ?_, ?_⟩ <;> repeat' (first | exact True.intro | rfl | decide | (refine And.intro ?_ ?_)))⟩ ?_
  intro n ⟨hn, hz⟩
  ((conv => whnf); repeat' (first | (refine And.intro ?_ ?_; (focus (first | rfl | decide | assumption | omega | decide +kernel | exact ⟨rfl, rfl⟩ | exact ⟨rfl, rfl, rfl, rfl⟩ | exact fun h => Bool.noConfusion h | exact fun _ => rfl | exact Nat.le_of_ble_eq_true rfl | (simp only [List.length_map, List.length_append, List.length_replicate, List.length_take, List.length_drop, List.length_set, List.length_cons, List.length_nil]; omega))); (conv => whnf)) | ((refine And.intro ?_ ?_ <;> intro _h); all_goals ((first | replace _h := of_decide_eq_true _h | replace _h := of_decide_eq_false _h | skip); (try simp only [Bool.not_eq_true', Bool.not_eq_false', Bool.not_true, Bool.not_false, decide_eq_true_eq, decide_eq_false_iff_not] at _h); (try (guard_hyp _h : True; clear _h)); first | done | contradiction | exact absurd ((Eq.symm _h).trans (show _ = true by assumption)) (by decide) | exact absurd ((Eq.symm _h).trans (show _ = false by assumption)) (by decide) | (conv => whnf))) | (intro _h; ((first | replace _h := of_decide_eq_true _h | replace _h := of_decide_eq_false _h | skip); (try simp only [Bool.not_eq_true', Bool.not_eq_false', Bool.not_true, Bool.not_false, decide_eq_true_eq, decide_eq_false_iff_not] at _h); (try (guard_hyp _h : True; clear _h)); first | done | contradiction | exact absurd ((Eq.symm _h).trans (show _ = true by assumption)) (by decide) | exact absurd ((Eq.symm _h).trans (show _ = false by assumption)) (by decide) | (conv => whnf)))))
  · obtain ⟨m, rfl⟩ : ∃ m, n = m + 1 := ⟨n - 1, by omega⟩
    have em : IntKind.i64.wrap (((m + 1 : Nat) : Int) - 1) = m := by rw [wrap_i64 (by omega) (by omega)]; omega
    rw [em]
    ((conv => whnf); repeat' (first | (refine And.intro ?_ ?_; (focus (first | rfl | decide | assumption | omega | decide +kernel | exact ⟨rfl, rfl⟩ | exact ⟨rfl, rfl, rfl, rfl⟩ | exact fun h => Bool.noConfusion h | exact fun _ => rfl | exact Nat.le_of_ble_eq_true rfl | (simp only [List.length_map, List.length_append, List.length_replicate, List.length_take, List.length_drop, List.length_set, List.length_cons, List.length_nil]; omega))); (conv => whnf)) | ((refine And.intro ?_ ?_ <;> intro _h); all_goals ((first | replace _h := of_decide_eq_true _h | replace _h := of_decide_eq_false _h | skip); (try simp only [Bool.not_eq_true', Bool.not_eq_false', Bool.not_true, Bool.not_false, decide_eq_true_eq, decide_eq_false_iff_not] at _h); (try (guard_hyp _h : True; clear _h)); first | done | contradiction | exact absurd ((Eq.symm _h).trans (show _ = true by assumption)) (by decide) | exact absurd ((Eq.symm _h).trans (show _ = false by assumption)) (by decide) | (conv => whnf))) | (intro _h; ((first | replace _h := of_decide_eq_true _h | replace _h := of_decide_eq_false _h | skip); (try simp only [Bool.not_eq_true', Bool.not_eq_false', Bool.not_true, Bool.not_false, decide_eq_true_eq, decide_eq_false_iff_not] at _h); (try (guard_hyp _h : True; clear _h)); first | done | contradiction | exact absurd ((Eq.symm _h).trans (show _ = true by assumption)) (by decide) | exact absurd ((Eq.symm _h).trans (show _ = false by assumption)) (by decide) | (conv => whnf)))))
    · refine ⟨m, [], by omega, ⟨by omega, fun j hj => ?_⟩, rfl, ?_⟩
      · rcases Nat.lt_or_ge m j with h | h
        · exact hz j h
        · have : j = m := by omega
          subst this; exact _h
      · (refine ⟨rfl, rfl, ?_, ?_⟩ <;> repeat' (first | exact True.intro | rfl | decide | (refine And.intro ?_ ?_)))
        exact di em
    · exact Ends.imm rfl ⟨m + 1, rfl, hn, hz, .inr _h⟩
  · exact Ends.imm rfl ⟨n, rfl, hn, hz, .inl (by omega)⟩

/-- Is the one not less than the other, from above? -/
theorem dvstep (xs : List Int) : dval xs = xs.getD 0 0 + 256 * dval xs.tail := by
  cases xs with
  | nil => simp [dval]
  | cons x xs => simp [dval]
theorem dval_ext : ∀ (n : Nat) (xs ys : List Int), xs.length ≤ n → ys.length ≤ n → (∀ j, xs.getD j 0 = ys.getD j 0) → dval xs = dval ys
  | 0, xs, ys, h1, h2, _ => by
    rw [List.eq_nil_of_length_eq_zero (Nat.le_zero.1 h1), List.eq_nil_of_length_eq_zero (Nat.le_zero.1 h2)]
  | n + 1, xs, ys, h1, h2, h => by
    rw [dvstep xs, dvstep ys, h 0, dval_ext n xs.tail ys.tail (by simp; omega) (by simp; omega) fun j => by rw [getD_tail, getD_tail, h]]
theorem wfd.tail {xs : List Int} (h : wfd xs) : wfd xs.tail := fun x hx => h x (List.mem_of_mem_tail hx)
theorem dcmp_lt : ∀ (k : Nat) (xs ys : List Int), wfd xs → wfd ys → xs.getD k 0 < ys.getD k 0 → (∀ j, k < j → xs.getD j 0 = ys.getD j 0) → dval xs < dval ys
  | 0, xs, ys, hx, hy, h, he => by
    rw [dvstep xs, dvstep ys, dval_ext (max xs.length ys.length) xs.tail ys.tail (by simp; omega) (by simp; omega) fun j => by rw [getD_tail, getD_tail, he _ (by omega)]]
    omega
  | k + 1, xs, ys, hx, hy, h, he => by
    have ih := dcmp_lt k xs.tail ys.tail hx.tail hy.tail (by rw [getD_tail, getD_tail]; exact h) fun j hj => by rw [getD_tail, getD_tail, he _ (by omega)]
    rw [dvstep xs, dvstep ys]
    have := hx.get 0
    have := hy.get 0
    omega

def told31 : AW.Told := ⟨fun _ => false, fun _ _ => [], fun r => if r == 4 then .take 0 (.take 1 (.take 2 (.take 3 (.take 4 (.take 5 (.take 6 (.take 7 (.take 8 .done))))))))
  else if r == 5 then .take 0 (.take 1 (.take 2 (.take 3 (.take 4 (.take 5 (.take 6 (.take 7 (.take 8 (.take 9 .done))))))))) else .done⟩

theorem f31 (xs ys : List Int) (hx : wfd xs) (hy : wfd ys) (hl : xs.length = ys.length) (hs : xs.length ≤ 1000000) : Imm Tryd.prog 82 [.d (digs xs), .d (digs ys)] (fun r => r = bool (decide (dval ys ≤ dval xs))) := by
  have e0 : IntKind.i64.wrap ((xs.length : Int) - 1) = (xs.length : Int) - 1 := wrap_i64 (by omega) (by omega)
  (refine Imm.of_awp told31 [] Tryd.func82 rfl (by decide) (Nat.le_of_ble_eq_true rfl) ?_; intro _w0 _S0 _E0 _B0; ((conv => whnf); repeat' (first | (refine And.intro ?_ ?_; (focus (first | rfl | decide | assumption | omega | decide +kernel | exact ⟨rfl, rfl⟩ | exact ⟨rfl, rfl, rfl, rfl⟩ | exact fun h => Bool.noConfusion h | exact fun _ => rfl | exact Nat.le_of_ble_eq_true rfl | (simp only [List.length_map, List.length_append, List.length_replicate, List.length_take, List.length_drop, List.length_set, List.length_cons, List.length_nil]; omega))); (conv => whnf)) | ((refine And.intro ?_ ?_ <;> intro _h); all_goals ((first | replace _h := of_decide_eq_true _h | replace _h := of_decide_eq_false _h | skip); (try simp only [Bool.not_eq_true', Bool.not_eq_false', Bool.not_true, Bool.not_false, decide_eq_true_eq, decide_eq_false_iff_not] at _h); (try (guard_hyp _h : True; clear _h)); first | done | contradiction | exact absurd ((Eq.symm _h).trans (show _ = true by assumption)) (by decide) | exact absurd ((Eq.symm _h).trans (show _ = false by assumption)) (by decide) | (conv => whnf))) | (intro _h; ((first | replace _h := of_decide_eq_true _h | replace _h := of_decide_eq_false _h | skip); (try simp only [Bool.not_eq_true', Bool.not_eq_false', Bool.not_true, Bool.not_false, decide_eq_true_eq, decide_eq_false_iff_not] at _h); (try (guard_hyp _h : True; clear _h)); first | done | contradiction | exact absurd ((Eq.symm _h).trans (show _ = true by assumption)) (by decide) | exact absurd ((Eq.symm _h).trans (show _ = false by assumption)) (by decide) | (conv => whnf))))))
  rw [e0]
  refine aloop (T := told31) (ι := Nat) (fun n => [(0, .d (digs xs)), (1, .d (digs ys)), (5, i64 ((n : Int) - 1))]) (fun _ => []) 31 0 (fun n => n) (fun n => n ≤ xs.length ∧ ∀ j, n ≤ j → xs.getD j 0 = ys.getD j 0)
    ⟨xs.length, [], rfl, ⟨Nat.le_refl _, fun j hj => by rw [List.getD_eq_getElem?_getD, List.getD_eq_getElem?_getD, List.getElem?_eq_none hj, List.getElem?_eq_none (by omega)]⟩, by (refine ⟨rfl, rfl, ?_, ?_⟩ <;> repeat' (first | exact True.intro | rfl | decide | (refine And.intro ?_ ?_)))⟩ ?_
  intro n ⟨hn, he⟩
  ((conv => whnf); repeat' (first | (refine And.intro ?_ ?_; (focus (first | rfl | decide | assumption | omega | decide +kernel | exact ⟨rfl, rfl⟩ | exact ⟨rfl, rfl, rfl, rfl⟩ | exact fun h => Bool.noConfusion h | exact fun _ => rfl | exact Nat.le_of_ble_eq_true rfl | (simp only [List.length_map, List.length_append, List.length_replicate, List.length_take, List.length_drop, List.length_set, List.length_cons, List.length_nil]; omega))); (conv => whnf)) | ((refine And.intro ?_ ?_ <;> intro _h); all_goals ((first | replace _h := of_decide_eq_true _h | replace _h := of_decide_eq_false _h | skip); (try simp only [Bool.not_eq_true', Bool.not_eq_false', Bool.not_true, Bool.not_false, decide_eq_true_eq, decide_eq_false_iff_not] at _h); (try (guard_hyp _h : True; clear _h)); first | done | contradiction | exact absurd ((Eq.symm _h).trans (show _ = true by assumption)) (by decide) | exact absurd ((Eq.symm _h).trans (show _ = false by assumption)) (by decide) | (conv => whnf))) | (intro _h; ((first | replace _h := of_decide_eq_true _h | replace _h := of_decide_eq_false _h | skip); (try simp only [Bool.not_eq_true', Bool.not_eq_false', Bool.not_true, Bool.not_false, decide_eq_true_eq, decide_eq_false_iff_not] at _h); (try (guard_hyp _h : True; clear _h)); first | done | contradiction | exact absurd ((Eq.symm _h).trans (show _ = true by assumption)) (by decide) | exact absurd ((Eq.symm _h).trans (show _ = false by assumption)) (by decide) | (conv => whnf)))))
  · obtain ⟨m, rfl⟩ : ∃ m, n = m + 1 := ⟨n - 1, by omega⟩
    have em : ((m + 1 : Nat) : Int) - 1 = m := by omega
    rw [em, Int.toNat_natCast] at _h ⊢
    refine Ends.imm rfl ?_
    unfold bool
    congr 2
    rw [decide_eq_decide]
    have l1 := dcmp_lt m xs ys hx hy
    have l2 := dcmp_lt m ys xs hy hx
    constructor
    · intro h; have := l2 h fun j hj => (he j hj).symm; omega
    · intro h
      rcases Int.lt_trichotomy (xs.getD m 0) (ys.getD m 0) with h1 | h1 | h1
      · have := l1 h1 fun j hj => he j hj; omega
      · exact (_h h1).elim
      · exact h1
  · obtain ⟨m, rfl⟩ : ∃ m, n = m + 1 := ⟨n - 1, by omega⟩
    have em : ((m + 1 : Nat) : Int) - 1 = m := by omega
    rw [em, Int.toNat_natCast] at _h
    refine ⟨m, [], by omega, ⟨by omega, fun j hj => ?_⟩, rfl, ?_⟩
    · rcases Nat.lt_or_ge m j with h | h
      · exact he j h
      · have : j = m := by omega
        subst this; exact _h
    · (refine ⟨rfl, rfl, ?_, ?_⟩ <;> repeat' (first | exact True.intro | rfl | decide | (refine And.intro ?_ ?_)))
      refine di ?_
      rw [em, wrap_i64 (by omega) (by omega)]
  · refine Ends.imm rfl ?_
    have : n = 0 := by omega
    subst this
    rw [dval_ext xs.length xs ys (Nat.le_refl _) (by omega) fun j => he j (by omega)]
    simp

def told32 : AW.Told := ⟨fun _ => false, fun _ _ => [], fun r => if r == 4 then .take 0 (.take 1 (.take 2 (.take 3 (.take 4 (.take 5 (.take 6 (.take 7 (.take 8 (.take 9 (.take 10 (.take 11 .done))))))))))) else .done⟩

/-- 'Take': a difference, in its place. -/
theorem f32 (xs ys : List Int) (hx : wfd xs) (hy : wfd ys) (hl : xs.length = ys.length) (hs : xs.length ≤ 1000000) (hle : dval ys ≤ dval xs) :
    CSpec Tryd.prog 83 [.own 0, .d (digs ys)] [(0, .row .i64 3 xs)] 1 (fun st nx r => ∃ zs, st = [(0, .row .i64 3 zs)] ∧ nx = 1 ∧ r = .tup [] ∧ zs.length = xs.length ∧ wfd zs ∧ dval zs = dval xs - dval ys) := by
  refine CSpec.ends (CSpec.of_awp told32 [] Tryd.func83 rfl (by decide) (Nat.le_of_ble_eq_true rfl) fun _w0 _S0 _E0 _B0 => ?_)
  ((conv => whnf); repeat' (first | (refine And.intro ?_ ?_; (focus (first | rfl | decide | assumption | omega | decide +kernel | exact ⟨rfl, rfl⟩ | exact ⟨rfl, rfl, rfl, rfl⟩ | exact fun h => Bool.noConfusion h | exact fun _ => rfl | exact Nat.le_of_ble_eq_true rfl | (simp only [List.length_map, List.length_append, List.length_replicate, List.length_take, List.length_drop, List.length_set, List.length_cons, List.length_nil]; omega))); (conv => whnf)) | ((refine And.intro ?_ ?_ <;> intro _h); all_goals ((first | replace _h := of_decide_eq_true _h | replace _h := of_decide_eq_false _h | skip); (try simp only [Bool.not_eq_true', Bool.not_eq_false', Bool.not_true, Bool.not_false, decide_eq_true_eq, decide_eq_false_iff_not] at _h); (try (guard_hyp _h : True; clear _h)); first | done | contradiction | exact absurd ((Eq.symm _h).trans (show _ = true by assumption)) (by decide) | exact absurd ((Eq.symm _h).trans (show _ = false by assumption)) (by decide) | (conv => whnf))) | (intro _h; ((first | replace _h := of_decide_eq_true _h | replace _h := of_decide_eq_false _h | skip); (try simp only [Bool.not_eq_true', Bool.not_eq_false', Bool.not_true, Bool.not_false, decide_eq_true_eq, decide_eq_false_iff_not] at _h); (try (guard_hyp _h : True; clear _h)); first | done | contradiction | exact absurd ((Eq.symm _h).trans (show _ = true by assumption)) (by decide) | exact absurd ((Eq.symm _h).trans (show _ = false by assumption)) (by decide) | (conv => whnf)))))
  refine aloop (T := told32) (ι := Nat × List Int × Int) (fun p => [(0, .own 0), (1, .d (digs ys)), (4, i64 p.2.2), (5, i64 p.1)]) (fun p => [(0, .row .i64 3 (p.2.1 ++ xs.drop p.1))]) 32 1
    (fun p => xs.length - p.1) (fun p => p.1 ≤ xs.length ∧ p.2.1.length = p.1 ∧ wfd p.2.1 ∧ (p.2.2 = 0 ∨ p.2.2 = 1) ∧ dval p.2.1 - dpw p.1 * p.2.2 = dval (xs.take p.1) - dval (ys.take p.1))
    ⟨(0, [], 0), [0], rfl, ⟨by omega, rfl, by simp [wfd], .inl rfl, by simp [dval]⟩, by (refine ⟨rfl, rfl, ?_, ?_⟩ <;> repeat' (first | exact True.intro | rfl | decide | (refine And.intro ?_ ?_)))⟩ ?_
  intro ⟨i, zs, c⟩ ⟨hi, hzl, hz, hc, hv⟩
  dsimp only at hi hzl hz hc hv ⊢
  have hlen : (zs ++ xs.drop i).length = xs.length := by simp; omega
  have et : i < xs.length → (zs ++ xs.drop i).getD (i : Int).toNat 0 = xs.getD i 0 := fun hi => by
    rw [Int.toNat_natCast, List.getD_eq_getElem?_getD, List.getElem?_append_right (by omega), List.getElem?_drop, ← List.getD_eq_getElem?_getD, hzl]
    congr 1; omega
  have hxi := hx.get i
  have hyi := hy.get i
  have e1 : IntKind.i64.wrap (IntKind.i64.wrap (xs.getD i 0 - ys.getD i 0) - c) = xs.getD i 0 - ys.getD i 0 - c := by
    rw [wrap_i64 (n := xs.getD i 0 - ys.getD i 0) (by omega) (by omega), wrap_i64 (by omega) (by omega)]
  have key : ∀ (b : Bool) (x : Int), i < xs.length → x = (xs.getD i 0 - ys.getD i 0 - c) % 256 → (b = true ↔ xs.getD i 0 < ys.getD i 0 + c) →
      (0 ≤ x ∧ x < 256) ∧ dval (zs ++ [x]) - dpw (i + 1) * (if b = true then 1 else 0) = dval (xs.take (i + 1)) - dval (ys.take (i + 1)) := fun b x hi hx2 hb => by
    refine ⟨by omega, ?_⟩
    rw [dval_snoc, hzl, take_snoc (by omega), take_snoc (by omega), dval_snoc, dval_snoc, List.length_take, List.length_take, Nat.min_eq_left (by omega), Nat.min_eq_left (by omega), dpw_succ, hx2]
    have := sub_dig (dpw i) hxi hyi hc hv
    by_cases hbb : xs.getD i 0 < ys.getD i 0 + c
    · rw [if_pos (hb.2 hbb)]; rw [if_pos hbb] at this; exact this
    · rw [if_neg (fun h => hbb (hb.1 h))]; rw [if_neg hbb] at this; exact this
  ((conv => whnf); repeat' (first | (refine And.intro ?_ ?_; (focus (first | rfl | decide | assumption | omega | decide +kernel | exact ⟨rfl, rfl⟩ | exact ⟨rfl, rfl, rfl, rfl⟩ | exact fun h => Bool.noConfusion h | exact fun _ => rfl | exact Nat.le_of_ble_eq_true rfl | (simp only [List.length_map, List.length_append, List.length_replicate, List.length_take, List.length_drop, List.length_set, List.length_cons, List.length_nil]; omega))); (conv => whnf)) | ((refine And.intro ?_ ?_ <;> intro _h); all_goals ((first | replace _h := of_decide_eq_true _h | replace _h := of_decide_eq_false _h | skip); (try simp only [Bool.not_eq_true', Bool.not_eq_false', Bool.not_true, Bool.not_false, decide_eq_true_eq, decide_eq_false_iff_not] at _h); (try (guard_hyp _h : True; clear _h)); first | done | contradiction | exact absurd ((Eq.symm _h).trans (show _ = true by assumption)) (by decide) | exact absurd ((Eq.symm _h).trans (show _ = false by assumption)) (by decide) | (conv => whnf))) | (intro _h; ((first | replace _h := of_decide_eq_true _h | replace _h := of_decide_eq_false _h | skip); (try simp only [Bool.not_eq_true', Bool.not_eq_false', Bool.not_true, Bool.not_false, decide_eq_true_eq, decide_eq_false_iff_not] at _h); (try (guard_hyp _h : True; clear _h)); first | done | contradiction | exact absurd ((Eq.symm _h).trans (show _ = true by assumption)) (by decide) | exact absurd ((Eq.symm _h).trans (show _ = false by assumption)) (by decide) | (conv => whnf)))))
  · rw [et (by omega), Int.toNat_natCast, e1] at _h
    have k := key true (xs.getD i 0 - ys.getD i 0 - c + 256) (by omega) (by omega) ⟨fun _ => by omega, fun _ => rfl⟩
    refine ⟨(i + 1, zs ++ [xs.getD i 0 - ys.getD i 0 - c + 256], 1), [0], by dsimp only; omega, ⟨by dsimp only; omega, by simp [hzl], hz.append (wfd.one k.1), .inr rfl, by simpa using k.2⟩, rfl, ?_⟩
    (refine ⟨rfl, rfl, ?_, ?_⟩ <;> repeat' (first | exact True.intro | rfl | decide | (refine And.intro ?_ ?_)))
    · refine di ?_
      rw [wrap_i64 (by omega) (by omega)]; rfl
    · show some (Ob.row .i64 3 ((zs ++ xs.drop i).set (i : Int).toNat _)) = some (Ob.row .i64 3 _)
      rw [et (by omega), Int.toNat_natCast, e1, wrap_i64 (by omega) (by omega), set_row hzl (by omega)]
  · rw [et (by omega), Int.toNat_natCast, e1] at _h
    have k := key false (xs.getD i 0 - ys.getD i 0 - c) (by omega) (by omega) ⟨(fun h => by cases h), fun h => by omega⟩
    refine ⟨(i + 1, zs ++ [xs.getD i 0 - ys.getD i 0 - c], 0), [0], by dsimp only; omega, ⟨by dsimp only; omega, by simp [hzl], hz.append (wfd.one k.1), .inl rfl, by simpa using k.2⟩, rfl, ?_⟩
    (refine ⟨rfl, rfl, ?_, ?_⟩ <;> repeat' (first | exact True.intro | rfl | decide | (refine And.intro ?_ ?_)))
    · refine di ?_
      rw [wrap_i64 (by omega) (by omega)]; rfl
    · show some (Ob.row .i64 3 ((zs ++ xs.drop i).set (i : Int).toNat _)) = some (Ob.row .i64 3 _)
      rw [et (by omega), Int.toNat_natCast, e1, set_row hzl (by omega)]
  · have hie : i = xs.length := by omega
    subst hie
    have hc0 : c = 0 := by
      rcases hc with h | h
      · exact h
      · subst h
        have h1 := dval_lt hz
        rw [List.take_of_length_le (Nat.le_refl _), List.take_of_length_le (by omega)] at hv
        rw [hzl] at h1
        omega
    subst hc0
    refine ⟨[0], [(0, .row .i64 3 zs)], .tup [], ⟨rfl, ⟨⟨by decide, ?_⟩, trivial⟩, rfl⟩, zs, rfl, rfl, rfl, hzl, hz, ?_⟩
    · show some (Ob.row .i64 3 (zs ++ xs.drop xs.length)) = some (Ob.row .i64 3 zs)
      rw [List.drop_length, List.append_nil]
    · rw [List.take_of_length_le (Nat.le_refl _), List.take_of_length_le (by omega)] at hv
      omega


theorem dval_take_succ (m : List Int) (i : Nat) : dval (m.take (i + 1)) = dval (m.take i) + dpw i * m.getD i 0 := by
  rcases Nat.lt_or_ge i m.length with h | h
  · rw [take_snoc h, dval_snoc, List.length_take, Nat.min_eq_left (by omega)]
  · rw [List.take_of_length_le (by omega), List.take_of_length_le h, List.getD_eq_getElem?_getD, List.getElem?_eq_none h]
    simp

theorem f30 (m : List Int) (k n : Nat) (hm : wfd m) (hk : k ≤ 7) (hn : m.length + 1 ≤ n) (hs : n ≤ 1000000) :
    Imm Tryd.prog 81 [.d (digs m), i64 k, i64 n] (fun r => ∃ zs, r = .d (digs zs) ∧ zs.length = n ∧ wfd zs ∧ dval zs = dval m * 2 ^ k) := by
  (refine Imm.of_awp told0 [6] Tryd.func81 rfl (by decide) (Nat.le_of_ble_eq_true rfl) ?_; intro _w0 _S0 _E0 _B0; ((conv => whnf); repeat' (first | (refine And.intro ?_ ?_; (focus (first | rfl | decide | assumption | omega | decide +kernel | exact ⟨rfl, rfl⟩ | exact ⟨rfl, rfl, rfl, rfl⟩ | exact fun h => Bool.noConfusion h | exact fun _ => rfl | exact Nat.le_of_ble_eq_true rfl | (simp only [List.length_map, List.length_append, List.length_replicate, List.length_take, List.length_drop, List.length_set, List.length_cons, List.length_nil]; omega))); (conv => whnf)) | ((refine And.intro ?_ ?_ <;> intro _h); all_goals ((first | replace _h := of_decide_eq_true _h | replace _h := of_decide_eq_false _h | skip); (try simp only [Bool.not_eq_true', Bool.not_eq_false', Bool.not_true, Bool.not_false, decide_eq_true_eq, decide_eq_false_iff_not] at _h); (try (guard_hyp _h : True; clear _h)); first | done | contradiction | exact absurd ((Eq.symm _h).trans (show _ = true by assumption)) (by decide) | exact absurd ((Eq.symm _h).trans (show _ = false by assumption)) (by decide) | (conv => whnf))) | (intro _h; ((first | replace _h := of_decide_eq_true _h | replace _h := of_decide_eq_false _h | skip); (try simp only [Bool.not_eq_true', Bool.not_eq_false', Bool.not_true, Bool.not_false, decide_eq_true_eq, decide_eq_false_iff_not] at _h); (try (guard_hyp _h : True; clear _h)); first | done | contradiction | exact absurd ((Eq.symm _h).trans (show _ = true by assumption)) (by decide) | exact absurd ((Eq.symm _h).trans (show _ = false by assumption)) (by decide) | (conv => whnf))))))
  refine aloop (T := told0) (ι := Nat × List Int × Int) (fun p => [(0, .d (digs m)), (1, i64 k), (2, i64 n), (7, .own 0), (8, i64 p.2.2), (9, i64 p.1)]) (fun p => [(0, .row .i64 3 (p.2.1 ++ (List.replicate n 0).drop p.1))]) 37 1
    (fun p => n - p.1) (fun p => p.1 ≤ n ∧ p.2.1.length = p.1 ∧ wfd p.2.1 ∧ (0 ≤ p.2.2 ∧ p.2.2 < 2 ^ k) ∧ dval p.2.1 + dpw p.1 * p.2.2 = dval (m.take p.1) * 2 ^ k)
    ⟨(0, [], 0), [0], rfl, ⟨by omega, rfl, by simp [wfd], ⟨by dsimp only; omega, Int.pow_pos (by omega)⟩, by simp [dval]⟩, by (refine ⟨rfl, rfl, ?_, ?_⟩ <;> repeat' (first | exact True.intro | rfl | decide | (refine And.intro ?_ ?_)))⟩ ?_
  intro ⟨i, zs, c⟩ ⟨hi, hzl, hz, hc, hv⟩
  dsimp only at hi hzl hz hc hv ⊢
  have hmi := hm.get i
  have hlen : (zs ++ (List.replicate n (0 : Int)).drop i).length = n := by simp; omega
  have hP : (1 : Int) ≤ 2 ^ k ∧ (2 : Int) ^ k ≤ 128 := by
    have : ∀ k : Fin 8, (1 : Int) ≤ 2 ^ k.val ∧ (2 : Int) ^ k.val ≤ 128 := by decide
    exact this ⟨k, by omega⟩
  have hsh : (m.getD i 0) * 2 ^ (min (k : Int).toNat (IntKind.bits .i64)) = m.getD i 0 * 2 ^ k := by
    rw [Int.toNat_natCast, Nat.min_eq_left (by simp [IntKind.bits]; omega)]
  have hts := dval_take_succ m i
  have b1 : 0 ≤ m.getD i 0 * 2 ^ k := Int.mul_nonneg hmi.1 (by omega)
  have b2 : m.getD i 0 * 2 ^ k ≤ 255 * 2 ^ k := Int.mul_le_mul_of_nonneg_right (by omega) (by omega)
  have key : ∀ v : Int, v = c + m.getD i 0 * 2 ^ k → (0 ≤ v % 256 ∧ v % 256 < 256) ∧ (0 ≤ v / 256 ∧ v / 256 < 2 ^ k) ∧ dval (zs ++ [v % 256]) + dpw (i + 1) * (v / 256) = dval (m.take (i + 1)) * 2 ^ k := fun v hv2 => by
    refine ⟨by omega, ⟨by omega, by omega⟩, ?_⟩
    rw [dval_snoc, hzl, dpw_succ, hts]
    have e : v % 256 = v - 256 * (v / 256) := by omega
    rw [e]
    generalize v / 256 = q
    subst hv2
    grind
  ((conv => whnf); repeat' (first | (refine And.intro ?_ ?_; (focus (first | rfl | decide | assumption | omega | decide +kernel | exact ⟨rfl, rfl⟩ | exact ⟨rfl, rfl, rfl, rfl⟩ | exact fun h => Bool.noConfusion h | exact fun _ => rfl | exact Nat.le_of_ble_eq_true rfl | (simp only [List.length_map, List.length_append, List.length_replicate, List.length_take, List.length_drop, List.length_set, List.length_cons, List.length_nil]; omega))); (conv => whnf)) | ((refine And.intro ?_ ?_ <;> intro _h); all_goals ((first | replace _h := of_decide_eq_true _h | replace _h := of_decide_eq_false _h | skip); (try simp only [Bool.not_eq_true', Bool.not_eq_false', Bool.not_true, Bool.not_false, decide_eq_true_eq, decide_eq_false_iff_not] at _h); (try (guard_hyp _h : True; clear _h)); first | done | contradiction | exact absurd ((Eq.symm _h).trans (show _ = true by assumption)) (by decide) | exact absurd ((Eq.symm _h).trans (show _ = false by assumption)) (by decide) | (conv => whnf))) | (intro _h; ((first | replace _h := of_decide_eq_true _h | replace _h := of_decide_eq_false _h | skip); (try simp only [Bool.not_eq_true', Bool.not_eq_false', Bool.not_true, Bool.not_false, decide_eq_true_eq, decide_eq_false_iff_not] at _h); (try (guard_hyp _h : True; clear _h)); first | done | contradiction | exact absurd ((Eq.symm _h).trans (show _ = true by assumption)) (by decide) | exact absurd ((Eq.symm _h).trans (show _ = false by assumption)) (by decide) | (conv => whnf)))))
  · have e1 : IntKind.i64.wrap (c + IntKind.i64.wrap (m.getD (i : Int).toNat 0 * 2 ^ (min (k : Int).toNat (IntKind.bits .i64)))) = c + m.getD i 0 * 2 ^ k := by
      rw [Int.toNat_natCast, hsh, wrap_i64 (n := m.getD i 0 * 2 ^ k) (by omega) (by omega), wrap_i64 (by omega) (by omega)]
    obtain ⟨k1, k2, k3⟩ := key _ rfl
    generalize hv0 : c + m.getD i 0 * 2 ^ k = v at *
    refine ⟨(i + 1, zs ++ [v % 256], v / 256), [0], by dsimp only; omega, ⟨by dsimp only; omega, by simp [hzl], hz.append (wfd.one k1), k2, k3⟩, rfl, ?_⟩
    (refine ⟨rfl, rfl, ?_, ?_⟩ <;> repeat' (first | exact True.intro | rfl | decide | (refine And.intro ?_ ?_)))
    · refine di ?_
      rw [e1, Int.tdiv_eq_ediv_of_nonneg (by omega), wrap_i64 (by omega) (by omega)]
    · refine di ?_
      rw [wrap_i64 (by omega) (by omega)]; rfl
    · show some (Ob.row .i64 3 ((zs ++ (List.replicate n 0).drop i).set (i : Int).toNat _)) = some (Ob.row .i64 3 _)
      rw [e1, Int.tmod_eq_emod_of_nonneg (by omega), Int.toNat_natCast, set_row hzl (by simp; omega)]
  · have hm0 : m.getD i 0 = 0 := by rw [List.getD_eq_getElem?_getD, List.getElem?_eq_none (by omega)]; rfl
    obtain ⟨k1, k2, k3⟩ := key c (by rw [hm0]; omega)
    refine ⟨(i + 1, zs ++ [c % 256], c / 256), [0], by dsimp only; omega, ⟨by dsimp only; omega, by simp [hzl], hz.append (wfd.one k1), k2, k3⟩, rfl, ?_⟩
    (refine ⟨rfl, rfl, ?_, ?_⟩ <;> repeat' (first | exact True.intro | rfl | decide | (refine And.intro ?_ ?_)))
    · refine di ?_
      rw [Int.tdiv_eq_ediv_of_nonneg (by omega), wrap_i64 (by omega) (by omega)]
    · refine di ?_
      rw [wrap_i64 (by omega) (by omega)]; rfl
    · show some (Ob.row .i64 3 ((zs ++ (List.replicate n 0).drop i).set (i : Int).toNat _)) = some (Ob.row .i64 3 _)
      rw [Int.tmod_eq_emod_of_nonneg (by omega), Int.toNat_natCast, set_row hzl (by simp; omega)]
  · have hin : i = n := by omega
    subst hin
    have e0 : zs ++ (List.replicate i (0 : Int)).drop i = zs := by rw [List.drop_of_length_le (by simp), List.append_nil]
    rw [e0]
    refine Ends.imm rfl ⟨zs, rfl, hzl, hz, ?_⟩
    rw [List.take_of_length_le (by omega)] at hv
    have h1 := dval_lt hm
    have h2 := dval_nonneg hz
    have h3 : dpw (m.length + 1) ≤ dpw i := by
      obtain ⟨j, rfl⟩ : ∃ j, i = m.length + 1 + j := ⟨i - (m.length + 1), by omega⟩
      rw [dpw_add (m.length + 1) j]
      have := dpw_pos (m.length + 1)
      have := dpw_pos j
      have : dpw (m.length + 1) * 1 ≤ dpw (m.length + 1) * dpw j := Int.mul_le_mul_of_nonneg_left (by omega) (by omega)
      omega
    rw [dpw_succ] at h3
    have h4 : dval m * 2 ^ k ≤ dval m * 128 := Int.mul_le_mul_of_nonneg_left hP.2 (dval_nonneg hm)
    have h5 := dpw_pos m.length
    have hc0 : c = 0 := by
      rcases Int.lt_or_le 0 c with h | h
      · have : dpw i * 1 ≤ dpw i * c := Int.mul_le_mul_of_nonneg_left (by omega) (by have := dpw_pos i; omega)
        omega
      · omega
    subst hc0
    omega


theorem dpw_le {m n : Nat} (h : m ≤ n) : dpw m ≤ dpw n := by
  obtain ⟨j, rfl⟩ : ∃ j, n = m + j := ⟨n - m, by omega⟩
  rw [dpw_add m j]
  have := dpw_pos m
  have := dpw_pos j
  have : dpw m * 1 ≤ dpw m * dpw j := Int.mul_le_mul_of_nonneg_left (by omega) (by omega)
  omega

/-- The shorter one is less. -/
theorem short_lt {xs ys : List Int} (hx : wfd xs) (hy : wfd ys) (ht : trimmed ys) (hl : xs.length < ys.length) : dval xs < dval ys := by
  have h1 := dval_lt hx
  obtain ⟨n, hn⟩ : ∃ n, ys.length = n + 1 := ⟨ys.length - 1, by omega⟩
  have h2 : ys.getD n 0 ≠ 0 := by
    rcases ht with h | h
    · subst h; simp at hn
    · rw [hn] at h; exact h
  have h3 := hy.get n
  have h4 := dval_take_succ ys n
  rw [List.take_of_length_le (by omega)] at h4
  have h5 := dval_nonneg (hy.take n)
  have h6 := dpw_pos n
  have h7 : dpw n * 1 ≤ dpw n * ys.getD n 0 := Int.mul_le_mul_of_nonneg_left (by omega) (by omega)
  have h8 := dpw_le (show xs.length ≤ n by omega)
  omega

def told26 : AW.Told := ⟨fun _ => false, fun _ _ => [], fun r => if r == 8 || r == 10 then .take 0 (.take 1 (.take 2 (.take 3 (.take 4 (.take 5 (.take 6 (.take 7 (.take 8 .done)))))))) else .done⟩

theorem f26 (xs ys : List Int) (hx : wfd xs) (hy : wfd ys) (htx : trimmed xs) (hty : trimmed ys) (hs : xs.length ≤ 1000000) : Imm Tryd.prog 50 [.d (digs xs), .d (digs ys)] (fun r => r = i64 (sgn (dval xs) (dval ys))) := by
  have e0 : IntKind.i64.wrap ((xs.length : Int) - 1) = (xs.length : Int) - 1 := wrap_i64 (by omega) (by omega)
  (refine Imm.of_awp told26 [] Tryd.func50 rfl (by decide) (Nat.le_of_ble_eq_true rfl) ?_; intro _w0 _S0 _E0 _B0; ((conv => whnf); repeat' (first | (refine And.intro ?_ ?_; (focus (first | rfl | decide | assumption | omega | decide +kernel | exact ⟨rfl, rfl⟩ | exact ⟨rfl, rfl, rfl, rfl⟩ | exact fun h => Bool.noConfusion h | exact fun _ => rfl | exact Nat.le_of_ble_eq_true rfl | (simp only [List.length_map, List.length_append, List.length_replicate, List.length_take, List.length_drop, List.length_set, List.length_cons, List.length_nil]; omega))); (conv => whnf)) | ((refine And.intro ?_ ?_ <;> intro _h); all_goals ((first | replace _h := of_decide_eq_true _h | replace _h := of_decide_eq_false _h | skip); (try simp only [Bool.not_eq_true', Bool.not_eq_false', Bool.not_true, Bool.not_false, decide_eq_true_eq, decide_eq_false_iff_not] at _h); (try (guard_hyp _h : True; clear _h)); first | done | contradiction | exact absurd ((Eq.symm _h).trans (show _ = true by assumption)) (by decide) | exact absurd ((Eq.symm _h).trans (show _ = false by assumption)) (by decide) | (conv => whnf))) | (intro _h; ((first | replace _h := of_decide_eq_true _h | replace _h := of_decide_eq_false _h | skip); (try simp only [Bool.not_eq_true', Bool.not_eq_false', Bool.not_true, Bool.not_false, decide_eq_true_eq, decide_eq_false_iff_not] at _h); (try (guard_hyp _h : True; clear _h)); first | done | contradiction | exact absurd ((Eq.symm _h).trans (show _ = true by assumption)) (by decide) | exact absurd ((Eq.symm _h).trans (show _ = false by assumption)) (by decide) | (conv => whnf))))))
  · refine Ends.imm rfl (di ?_)
    have := short_lt hx hy hty (by omega)
    unfold sgn; rw [if_pos this]
  · refine Ends.imm rfl (di ?_)
    have := short_lt hy hx htx (by omega)
    unfold sgn; rw [if_neg (by omega), if_pos this]
  · have hl := _h
    rw [e0]
    refine aloop (T := told26) (ι := Nat) (fun n => [(0, .d (digs xs)), (1, .d (digs ys)), (5, i64 ((n : Int) - 1))]) (fun _ => []) 41 0 (fun n => n) (fun n => n ≤ xs.length ∧ ∀ j, n ≤ j → xs.getD j 0 = ys.getD j 0)
      ⟨xs.length, [], rfl, ⟨Nat.le_refl _, fun j hj => by rw [List.getD_eq_getElem?_getD, List.getD_eq_getElem?_getD, List.getElem?_eq_none hj, List.getElem?_eq_none (by omega)]⟩, by (refine ⟨rfl, rfl, ?_, ?_⟩ <;> repeat' (first | exact True.intro | rfl | decide | (refine And.intro ?_ ?_)))⟩ ?_
    intro n ⟨hn, he⟩
    have l1 := fun (m : Nat) => dcmp_lt m xs ys hx hy
    have l2 := fun (m : Nat) => dcmp_lt m ys xs hy hx
    ((conv => whnf); repeat' (first | (refine And.intro ?_ ?_; (focus (first | rfl | decide | assumption | omega | decide +kernel | exact ⟨rfl, rfl⟩ | exact ⟨rfl, rfl, rfl, rfl⟩ | exact fun h => Bool.noConfusion h | exact fun _ => rfl | exact Nat.le_of_ble_eq_true rfl | (simp only [List.length_map, List.length_append, List.length_replicate, List.length_take, List.length_drop, List.length_set, List.length_cons, List.length_nil]; omega))); (conv => whnf)) | ((refine And.intro ?_ ?_ <;> intro _h); all_goals ((first | replace _h := of_decide_eq_true _h | replace _h := of_decide_eq_false _h | skip); (try simp only [Bool.not_eq_true', Bool.not_eq_false', Bool.not_true, Bool.not_false, decide_eq_true_eq, decide_eq_false_iff_not] at _h); (try (guard_hyp _h : True; clear _h)); first | done | contradiction | exact absurd ((Eq.symm _h).trans (show _ = true by assumption)) (by decide) | exact absurd ((Eq.symm _h).trans (show _ = false by assumption)) (by decide) | (conv => whnf))) | (intro _h; ((first | replace _h := of_decide_eq_true _h | replace _h := of_decide_eq_false _h | skip); (try simp only [Bool.not_eq_true', Bool.not_eq_false', Bool.not_true, Bool.not_false, decide_eq_true_eq, decide_eq_false_iff_not] at _h); (try (guard_hyp _h : True; clear _h)); first | done | contradiction | exact absurd ((Eq.symm _h).trans (show _ = true by assumption)) (by decide) | exact absurd ((Eq.symm _h).trans (show _ = false by assumption)) (by decide) | (conv => whnf)))))
    · obtain ⟨m, rfl⟩ : ∃ m, n = m + 1 := ⟨n - 1, by omega⟩
      have em : ((m + 1 : Nat) : Int) - 1 = m := by omega
      rw [em, Int.toNat_natCast] at _h
      have := l1 m _h fun j hj => he j hj
      refine Ends.imm rfl (di ?_)
      unfold sgn; rw [if_pos this]
    · obtain ⟨m, rfl⟩ : ∃ m, n = m + 1 := ⟨n - 1, by omega⟩
      have em : ((m + 1 : Nat) : Int) - 1 = m := by omega
      rw [em, Int.toNat_natCast] at _h
      have := l2 m _h fun j hj => (he j hj).symm
      refine Ends.imm rfl (di ?_)
      unfold sgn; rw [if_neg (by omega), if_pos this]
    · obtain ⟨m, rfl⟩ : ∃ m, n = m + 1 := ⟨n - 1, by omega⟩
      have em : ((m + 1 : Nat) : Int) - 1 = m := by omega
      rename_i h1
      rw [em, Int.toNat_natCast] at _h h1
      refine ⟨m, [], by omega, ⟨by omega, fun j hj => ?_⟩, rfl, ?_⟩
      · rcases Nat.lt_or_ge m j with h | h
        · exact he j h
        · have : j = m := by omega
          subst this; omega
      · (refine ⟨rfl, rfl, ?_, ?_⟩ <;> repeat' (first | exact True.intro | rfl | decide | (refine And.intro ?_ ?_)))
        refine di ?_
        rw [em, wrap_i64 (by omega) (by omega)]
    · refine Ends.imm rfl (di ?_)
      have : n = 0 := by omega
      subst this
      rw [dval_ext xs.length xs ys (Nat.le_refl _) (by omega) fun j => he j (by omega)]
      simp [sgn]

theorem dpw_two (n : Nat) : dpw n = 2 ^ (8 * n) := by
  unfold dpw
  rw [Int.pow_mul]
  rfl

/-- A power of 2. -/
theorem f17 (n : Nat) (hs : n ≤ 100000) : Imm Tryd.prog 70 [i64 n] (fun r => ∃ zs, r = .d (digs zs) ∧ zs.length ≤ n + 1 ∧ wfd zs ∧ dval zs = 2 ^ n) := by
  have e1 : IntKind.i64.wrap ((n : Int).tdiv 8) = ((n / 8 : Nat) : Int) := by
    rw [Int.tdiv_eq_ediv_of_nonneg (by omega), wrap_i64 (by omega) (by omega)]; omega
  have e2 : (n : Int).tmod 8 = ((n % 8 : Nat) : Int) := by
    rw [Int.tmod_eq_emod_of_nonneg (by omega)]; omega
  have e3 : IntKind.i64.wrap (((n / 8 : Nat) : Int) + 1) = ((n / 8 + 1 : Nat) : Int) := by rw [wrap_i64 (by omega) (by omega)]; rfl
  (refine Imm.of_awp told0 [2] Tryd.func70 rfl (by decide) (Nat.le_of_ble_eq_true rfl) ?_; intro _w0 _S0 _E0 _B0; ((conv => whnf); repeat' (first | (refine And.intro ?_ ?_; (focus (first | rfl | decide | assumption | omega | decide +kernel | exact ⟨rfl, rfl⟩ | exact ⟨rfl, rfl, rfl, rfl⟩ | exact fun h => Bool.noConfusion h | exact fun _ => rfl | exact Nat.le_of_ble_eq_true rfl | (simp only [List.length_map, List.length_append, List.length_replicate, List.length_take, List.length_drop, List.length_set, List.length_cons, List.length_nil]; omega))); (conv => whnf)) | ((refine And.intro ?_ ?_ <;> intro _h); all_goals ((first | replace _h := of_decide_eq_true _h | replace _h := of_decide_eq_false _h | skip); (try simp only [Bool.not_eq_true', Bool.not_eq_false', Bool.not_true, Bool.not_false, decide_eq_true_eq, decide_eq_false_iff_not] at _h); (try (guard_hyp _h : True; clear _h)); first | done | contradiction | exact absurd ((Eq.symm _h).trans (show _ = true by assumption)) (by decide) | exact absurd ((Eq.symm _h).trans (show _ = false by assumption)) (by decide) | (conv => whnf))) | (intro _h; ((first | replace _h := of_decide_eq_true _h | replace _h := of_decide_eq_false _h | skip); (try simp only [Bool.not_eq_true', Bool.not_eq_false', Bool.not_true, Bool.not_false, decide_eq_true_eq, decide_eq_false_iff_not] at _h); (try (guard_hyp _h : True; clear _h)); first | done | contradiction | exact absurd ((Eq.symm _h).trans (show _ = true by assumption)) (by decide) | exact absurd ((Eq.symm _h).trans (show _ = false by assumption)) (by decide) | (conv => whnf))))))
  rw [e1, e3]
  ((conv => whnf); repeat' (first | (refine And.intro ?_ ?_; (focus (first | rfl | decide | assumption | omega | decide +kernel | exact ⟨rfl, rfl⟩ | exact ⟨rfl, rfl, rfl, rfl⟩ | exact fun h => Bool.noConfusion h | exact fun _ => rfl | exact Nat.le_of_ble_eq_true rfl | (simp only [List.length_map, List.length_append, List.length_replicate, List.length_take, List.length_drop, List.length_set, List.length_cons, List.length_nil]; omega))); (conv => whnf)) | ((refine And.intro ?_ ?_ <;> intro _h); all_goals ((first | replace _h := of_decide_eq_true _h | replace _h := of_decide_eq_false _h | skip); (try simp only [Bool.not_eq_true', Bool.not_eq_false', Bool.not_true, Bool.not_false, decide_eq_true_eq, decide_eq_false_iff_not] at _h); (try (guard_hyp _h : True; clear _h)); first | done | contradiction | exact absurd ((Eq.symm _h).trans (show _ = true by assumption)) (by decide) | exact absurd ((Eq.symm _h).trans (show _ = false by assumption)) (by decide) | (conv => whnf))) | (intro _h; ((first | replace _h := of_decide_eq_true _h | replace _h := of_decide_eq_false _h | skip); (try simp only [Bool.not_eq_true', Bool.not_eq_false', Bool.not_true, Bool.not_false, decide_eq_true_eq, decide_eq_false_iff_not] at _h); (try (guard_hyp _h : True; clear _h)); first | done | contradiction | exact absurd ((Eq.symm _h).trans (show _ = true by assumption)) (by decide) | exact absurd ((Eq.symm _h).trans (show _ = false by assumption)) (by decide) | (conv => whnf)))))
  rw [e2]
  ((conv => whnf); repeat' (first | (refine And.intro ?_ ?_; (focus (first | rfl | decide | assumption | omega | decide +kernel | exact ⟨rfl, rfl⟩ | exact ⟨rfl, rfl, rfl, rfl⟩ | exact fun h => Bool.noConfusion h | exact fun _ => rfl | exact Nat.le_of_ble_eq_true rfl | (simp only [List.length_map, List.length_append, List.length_replicate, List.length_take, List.length_drop, List.length_set, List.length_cons, List.length_nil]; omega))); (conv => whnf)) | ((refine And.intro ?_ ?_ <;> intro _h); all_goals ((first | replace _h := of_decide_eq_true _h | replace _h := of_decide_eq_false _h | skip); (try simp only [Bool.not_eq_true', Bool.not_eq_false', Bool.not_true, Bool.not_false, decide_eq_true_eq, decide_eq_false_iff_not] at _h); (try (guard_hyp _h : True; clear _h)); first | done | contradiction | exact absurd ((Eq.symm _h).trans (show _ = true by assumption)) (by decide) | exact absurd ((Eq.symm _h).trans (show _ = false by assumption)) (by decide) | (conv => whnf))) | (intro _h; ((first | replace _h := of_decide_eq_true _h | replace _h := of_decide_eq_false _h | skip); (try simp only [Bool.not_eq_true', Bool.not_eq_false', Bool.not_true, Bool.not_false, decide_eq_true_eq, decide_eq_false_iff_not] at _h); (try (guard_hyp _h : True; clear _h)); first | done | contradiction | exact absurd ((Eq.symm _h).trans (show _ = true by assumption)) (by decide) | exact absurd ((Eq.symm _h).trans (show _ = false by assumption)) (by decide) | (conv => whnf)))))
  rw [e1]
  have hb : ∀ k : Fin 8, IntKind.i64.wrap (1 * 2 ^ (min ((k.val : Nat) : Int).toNat (IntKind.bits .i64))) = 2 ^ k.val ∧ 0 ≤ (2 : Int) ^ k.val ∧ (2 : Int) ^ k.val < 256 := by decide
  obtain ⟨h1, h2⟩ := hb ⟨n % 8, by omega⟩
  dsimp only at h1 h2
  rw [h1, Int.toNat_natCast, Int.toNat_natCast]
  have e4 : (List.replicate (n / 8 + 1) (0 : Int)).set (n / 8) (2 ^ (n % 8)) = List.replicate (n / 8) 0 ++ [2 ^ (n % 8)] := by
    rw [show List.replicate (n / 8 + 1) (0 : Int) = List.replicate (n / 8) 0 ++ [0] by rw [show [(0 : Int)] = List.replicate 1 0 from rfl, List.replicate_append_replicate], List.set_append_right _ _ (by simp)]
    simp
  rw [e4]
  have hz : wfd (List.replicate (n / 8) (0 : Int)) := fun x hx => by simp at hx; omega
  refine Ends.imm rfl ⟨_, rfl, by simp; omega, hz.append (wfd.one h2), ?_⟩
  rw [dval_snoc, dval_zeros _ fun x hx => by simp at hx; omega, List.length_replicate, Int.zero_add, dpw_two, ← Int.pow_add]
  congr 1; omega


theorem pw_two (n : Nat) : pw n = 2 ^ (32 * n) := by
  unfold pw
  rw [Int.pow_mul]
  rfl
theorem dpw_four (n : Nat) : dpw (4 * n) = pw n := by
  rw [dpw_two, pw_two]; congr 1; omega

theorem val_take_succ {m : List Int} {i : Nat} (h : i < m.length) : val (m.take (i + 1)) = val (m.take i) + pw i * m.getD i 0 := by
  rw [take_snoc h, val_snoc, List.length_take, Nat.min_eq_left (by omega)]

/-- What 'Trim' leaves. -/
theorem f29' (xs : List Int) (hx : wfd xs) (hl : xs.length ≤ 1000000) : Imm Tryd.prog 80 [.d (digs xs)] (fun r => ∃ zs, r = .d (digs zs) ∧ zs.length ≤ xs.length ∧ wfd zs ∧ trimmed zs ∧ dval zs = dval xs) := by
  refine (f29 xs hl).mono fun r ⟨n, h1, h2, h3, h4⟩ => ⟨xs.take n, h1, by simp; omega, hx.take n, ?_, dval_take h3⟩
  rcases h4 with h4 | h4
  · subst h4; left; simp
  · right
    rw [List.length_take, Nat.min_eq_left h2, List.getD_eq_getElem?_getD, List.getElem?_take]
    rcases Nat.eq_zero_or_pos n with h0 | h0
    · subst h0; exact (h4 (h3 0 (by omega))).elim
    · rw [if_pos (by omega), ← List.getD_eq_getElem?_getD]; exact h4

def told12 : AW.Told := ⟨fun _ => false, fun r i => if r == 11 && i == 1 then [29] else [], fun _ => .done⟩

theorem dval_set : ∀ (xs : List Int) (j : Nat) (v : Int), j < xs.length → dval (xs.set j v) = dval xs + dpw j * (v - xs.getD j 0)
  | [], j, v, h => by simp at h
  | x :: xs, 0, v, _ => by simp [dval, dpw_zero]; omega
  | x :: xs, j + 1, v, h => by
    have ih := dval_set xs j v (by simpa using h)
    simp only [List.set_cons_succ, dval, ih, List.getD_cons_succ, dpw_succ]
    grind

theorem dval_take_all (b : List Int) {k : Nat} (h : b.length ≤ k) : dval (b.take k) = dval b := by rw [List.take_of_length_le h]

/-- A product's place, a digit further. -/
theorem mul_dig {o A B ai Tk bk c x p pi q : Int} (h : o + p * c = A * B + pi * (ai * Tk)) (hp : p = pi * q) (oj : Int) (hx : x = oj + c + ai * bk) :
    o + p * (x % 256 - oj) + p * 256 * (x / 256) = A * B + pi * (ai * (Tk + q * bk)) := by
  have e : x % 256 = x - 256 * (x / 256) := by omega
  rw [e]
  generalize x / 256 = y
  subst hx
  subst hp
  grind

def told20 : AW.Told := ⟨fun _ => false, fun r i => if r == 14 && i == 1 then [65] else [], fun r => if r == 11 then .take 0 (.take 1 (.take 2 (.take 3 (.take 4 (.take 5 (.take 6 (.take 7 (.take 8 (.take 9 (.take 10 (.take 11 .done))))))))))) else .done⟩

theorem f20 (a b : List Int) (ha : wfd a) (hb : wfd b) (hs : a.length + b.length ≤ 100000) :
    Imm Tryd.prog 52 [.d (digs a), .d (digs b)] (fun r => ∃ zs, r = .d (digs zs) ∧ zs.length ≤ a.length + b.length + 1 ∧ wfd zs ∧ trimmed zs ∧ dval zs = dval a * dval b) := by
  have w1 : IntKind.i64.wrap (IntKind.i64.wrap ((a.length : Int) + b.length) + 1) = ((a.length + b.length + 1 : Nat) : Int) := by
    rw [wrap_i64 (n := (a.length : Int) + b.length) (by omega) (by omega), wrap_i64 (by omega) (by omega)]; rfl
  (refine Imm.of_awp told20 [] Tryd.func52 rfl (by decide) (Nat.le_of_ble_eq_true rfl) ?_; intro _w0 _S0 _E0 _B0; ((conv => whnf); repeat' (first | (refine And.intro ?_ ?_; (focus (first | rfl | decide | assumption | omega | decide +kernel | exact ⟨rfl, rfl⟩ | exact ⟨rfl, rfl, rfl, rfl⟩ | exact fun h => Bool.noConfusion h | exact fun _ => rfl | exact Nat.le_of_ble_eq_true rfl | (simp only [List.length_map, List.length_append, List.length_replicate, List.length_take, List.length_drop, List.length_set, List.length_cons, List.length_nil]; omega))); (conv => whnf)) | ((refine And.intro ?_ ?_ <;> intro _h); all_goals ((first | replace _h := of_decide_eq_true _h | replace _h := of_decide_eq_false _h | skip); (try simp only [Bool.not_eq_true', Bool.not_eq_false', Bool.not_true, Bool.not_false, decide_eq_true_eq, decide_eq_false_iff_not] at _h); (try (guard_hyp _h : True; clear _h)); first | done | contradiction | exact absurd ((Eq.symm _h).trans (show _ = true by assumption)) (by decide) | exact absurd ((Eq.symm _h).trans (show _ = false by assumption)) (by decide) | (conv => whnf))) | (intro _h; ((first | replace _h := of_decide_eq_true _h | replace _h := of_decide_eq_false _h | skip); (try simp only [Bool.not_eq_true', Bool.not_eq_false', Bool.not_true, Bool.not_false, decide_eq_true_eq, decide_eq_false_iff_not] at _h); (try (guard_hyp _h : True; clear _h)); first | done | contradiction | exact absurd ((Eq.symm _h).trans (show _ = true by assumption)) (by decide) | exact absurd ((Eq.symm _h).trans (show _ = false by assumption)) (by decide) | (conv => whnf))))))
  rw [w1]
  ((conv => whnf); repeat' (first | (refine And.intro ?_ ?_; (focus (first | rfl | decide | assumption | omega | decide +kernel | exact ⟨rfl, rfl⟩ | exact ⟨rfl, rfl, rfl, rfl⟩ | exact fun h => Bool.noConfusion h | exact fun _ => rfl | exact Nat.le_of_ble_eq_true rfl | (simp only [List.length_map, List.length_append, List.length_replicate, List.length_take, List.length_drop, List.length_set, List.length_cons, List.length_nil]; omega))); (conv => whnf)) | ((refine And.intro ?_ ?_ <;> intro _h); all_goals ((first | replace _h := of_decide_eq_true _h | replace _h := of_decide_eq_false _h | skip); (try simp only [Bool.not_eq_true', Bool.not_eq_false', Bool.not_true, Bool.not_false, decide_eq_true_eq, decide_eq_false_iff_not] at _h); (try (guard_hyp _h : True; clear _h)); first | done | contradiction | exact absurd ((Eq.symm _h).trans (show _ = true by assumption)) (by decide) | exact absurd ((Eq.symm _h).trans (show _ = false by assumption)) (by decide) | (conv => whnf))) | (intro _h; ((first | replace _h := of_decide_eq_true _h | replace _h := of_decide_eq_false _h | skip); (try simp only [Bool.not_eq_true', Bool.not_eq_false', Bool.not_true, Bool.not_false, decide_eq_true_eq, decide_eq_false_iff_not] at _h); (try (guard_hyp _h : True; clear _h)); first | done | contradiction | exact absurd ((Eq.symm _h).trans (show _ = true by assumption)) (by decide) | exact absurd ((Eq.symm _h).trans (show _ = false by assumption)) (by decide) | (conv => whnf)))))
  refine aloop (T := told20) (ι := Nat × List Int) (fun p => [(0, .d (digs a)), (1, .d (digs b)), (5, .own 0), (6, i64 p.1)]) (fun p => [(0, .row .i64 3 p.2)]) 67 1
    (fun p => a.length - p.1) (fun p => p.1 ≤ a.length ∧ p.2.length = a.length + b.length + 1 ∧ wfd p.2 ∧ dval p.2 = dval (a.take p.1) * dval b)
    ⟨(0, List.replicate (a.length + b.length + 1) 0), [0], rfl, ⟨by omega, by simp, fun x hx => by simp at hx; omega, by rw [dval_zeros _ fun x hx => by simp at hx; omega]; simp [dval]⟩, by (refine ⟨rfl, rfl, ?_, ?_⟩ <;> repeat' (first | exact True.intro | rfl | decide | (refine And.intro ?_ ?_)))⟩ ?_
  intro ⟨i, o⟩ ⟨hi, hol, ho, hv⟩
  dsimp only at hi hol ho hv ⊢
  have hai := ha.get i
  ((conv => whnf); repeat' (first | (refine And.intro ?_ ?_; (focus (first | rfl | decide | assumption | omega | decide +kernel | exact ⟨rfl, rfl⟩ | exact ⟨rfl, rfl, rfl, rfl⟩ | exact fun h => Bool.noConfusion h | exact fun _ => rfl | exact Nat.le_of_ble_eq_true rfl | (simp only [List.length_map, List.length_append, List.length_replicate, List.length_take, List.length_drop, List.length_set, List.length_cons, List.length_nil]; omega))); (conv => whnf)) | ((refine And.intro ?_ ?_ <;> intro _h); all_goals ((first | replace _h := of_decide_eq_true _h | replace _h := of_decide_eq_false _h | skip); (try simp only [Bool.not_eq_true', Bool.not_eq_false', Bool.not_true, Bool.not_false, decide_eq_true_eq, decide_eq_false_iff_not] at _h); (try (guard_hyp _h : True; clear _h)); first | done | contradiction | exact absurd ((Eq.symm _h).trans (show _ = true by assumption)) (by decide) | exact absurd ((Eq.symm _h).trans (show _ = false by assumption)) (by decide) | (conv => whnf))) | (intro _h; ((first | replace _h := of_decide_eq_true _h | replace _h := of_decide_eq_false _h | skip); (try simp only [Bool.not_eq_true', Bool.not_eq_false', Bool.not_true, Bool.not_false, decide_eq_true_eq, decide_eq_false_iff_not] at _h); (try (guard_hyp _h : True; clear _h)); first | done | contradiction | exact absurd ((Eq.symm _h).trans (show _ = true by assumption)) (by decide) | exact absurd ((Eq.symm _h).trans (show _ = false by assumption)) (by decide) | (conv => whnf)))))
  · refine aloop (T := told20) (ι := Nat × List Int × Int) (fun p => [(0, .d (digs a)), (1, .d (digs b)), (5, .own 0), (6, i64 i), (7, i64 p.2.2), (8, i64 p.1)]) (fun p => [(0, .row .i64 3 p.2.1)]) 67 1
      (fun p => b.length + 2 - p.1) (fun p => p.1 ≤ b.length + 1 ∧ p.2.1.length = a.length + b.length + 1 ∧ wfd p.2.1 ∧ (0 ≤ p.2.2 ∧ p.2.2 < 256) ∧ dval p.2.1 + dpw (i + p.1) * p.2.2 = dval (a.take i) * dval b + dpw i * (a.getD i 0 * dval (b.take p.1)))
      ⟨(0, o, 0), [0], rfl, ⟨by omega, hol, ho, by dsimp only; omega, by simpa [dval] using hv⟩, by (refine ⟨rfl, rfl, ?_, ?_⟩ <;> repeat' (first | exact True.intro | rfl | decide | (refine And.intro ?_ ?_)))⟩ ?_
    intro ⟨k, ys, c⟩ ⟨hk, hyl, hy, hc, hw⟩
    dsimp only at hk hyl hy hc hw ⊢
    have hbk := hb.get k
    have hi2 : i < a.length := by omega
    have wj : IntKind.i64.wrap ((i : Int) + k) = ((i + k : Nat) : Int) := by rw [wrap_i64 (by omega) (by omega)]; rfl
    have hover : b.length ≤ k → 0 < c → k = b.length := fun h1 h2 => by
      rw [dval_take_all b h1] at hw
      have h3 := dval_take_succ a i
      have h4 := dval_lt (ha.take (i + 1))
      rw [List.length_take, Nat.min_eq_left (by omega)] at h4
      have h5 := dval_lt hb
      have h6 := dval_nonneg hb
      have h7 := dval_nonneg hy
      have h8 : dval (a.take (i + 1)) * dval b ≤ dpw (i + 1) * dval b := Int.mul_le_mul_of_nonneg_right (by omega) h6
      have h9 : dpw (i + 1) * dval b < dpw (i + 1) * dpw b.length := Int.mul_lt_mul_of_pos_left h5 (dpw_pos _)
      rw [← dpw_add] at h9
      have h10 : dpw (i + k) * 1 ≤ dpw (i + k) * c := Int.mul_le_mul_of_nonneg_left (by omega) (by have := dpw_pos (i + k); omega)
      have h11 : dval (a.take (i + 1)) * dval b = dval (a.take i) * dval b + dpw i * (a.getD i 0 * dval b) := by rw [h3]; grind
      have h12 : dpw (i + k) < dpw (i + 1 + b.length) := by omega
      rcases Nat.lt_or_ge k (b.length + 1) with h | h
      · omega
      · have := dpw_le (show i + 1 + b.length ≤ i + k by omega)
        omega
    have hyj := hy.get (i + k)
    have wk : IntKind.i64.wrap ((k : Int) + 1) = ((k + 1 : Nat) : Int) := by rw [wrap_i64 (by omega) (by omega)]; rfl
    have step : ∀ (x t : Int), k ≤ b.length → x = ys.getD (i + k) 0 + c + a.getD i 0 * b.getD k 0 → x < 65536 → 0 ≤ x →
        ((ys.set (i + k) (x % 256)).length = a.length + b.length + 1 ∧ wfd (ys.set (i + k) (x % 256)) ∧ (0 ≤ x / 256 ∧ x / 256 < 256) ∧
        dval (ys.set (i + k) (x % 256)) + dpw (i + (k + 1)) * (x / 256) = dval (a.take i) * dval b + dpw i * (a.getD i 0 * dval (b.take (k + 1)))) := fun x t hkl hx hx1 hx0 => by
      refine ⟨by simpa using hyl, hy.set _ (by omega), by omega, ?_⟩
      rw [dval_set _ _ _ (by omega), dval_take_succ b k, ← Nat.add_assoc, dpw_succ]
      exact mul_dig hw (dpw_add i k) _ hx
    ((conv => whnf); repeat' (first | (refine And.intro ?_ ?_; (focus (first | rfl | decide | assumption | omega | decide +kernel | exact ⟨rfl, rfl⟩ | exact ⟨rfl, rfl, rfl, rfl⟩ | exact fun h => Bool.noConfusion h | exact fun _ => rfl | exact Nat.le_of_ble_eq_true rfl | (simp only [List.length_map, List.length_append, List.length_replicate, List.length_take, List.length_drop, List.length_set, List.length_cons, List.length_nil]; omega))); (conv => whnf)) | ((refine And.intro ?_ ?_ <;> intro _h); all_goals ((first | replace _h := of_decide_eq_true _h | replace _h := of_decide_eq_false _h | skip); (try simp only [Bool.not_eq_true', Bool.not_eq_false', Bool.not_true, Bool.not_false, decide_eq_true_eq, decide_eq_false_iff_not] at _h); (try (guard_hyp _h : True; clear _h)); first | done | contradiction | exact absurd ((Eq.symm _h).trans (show _ = true by assumption)) (by decide) | exact absurd ((Eq.symm _h).trans (show _ = false by assumption)) (by decide) | (conv => whnf))) | (intro _h; ((first | replace _h := of_decide_eq_true _h | replace _h := of_decide_eq_false _h | skip); (try simp only [Bool.not_eq_true', Bool.not_eq_false', Bool.not_true, Bool.not_false, decide_eq_true_eq, decide_eq_false_iff_not] at _h); (try (guard_hyp _h : True; clear _h)); first | done | contradiction | exact absurd ((Eq.symm _h).trans (show _ = true by assumption)) (by decide) | exact absurd ((Eq.symm _h).trans (show _ = false by assumption)) (by decide) | (conv => whnf)))))
    · rename_i hc0
      have hkb := hover (by omega) hc0
      have hb0 : b.getD k 0 = 0 := by rw [List.getD_eq_getElem?_getD, List.getElem?_eq_none (by omega)]; rfl
      have e1 : IntKind.i64.wrap (ys.getD (i + k) 0 + c) = ys.getD (i + k) 0 + c := wrap_i64 (by omega) (by omega)
      obtain ⟨k1, k2, k3, k4⟩ := step (ys.getD (i + k) 0 + c) 0 (by omega) (by rw [hb0]; omega) (by omega) (by omega)
      refine ⟨(k + 1, ys.set (i + k) ((ys.getD (i + k) 0 + c) % 256), (ys.getD (i + k) 0 + c) / 256), [0], by dsimp only; omega, ⟨by dsimp only; omega, k1, k2, k3, k4⟩, rfl, ?_⟩
      (refine ⟨rfl, rfl, ?_, ?_⟩ <;> repeat' (first | exact True.intro | rfl | decide | (refine And.intro ?_ ?_)))
      · refine di ?_
        rw [wj, Int.toNat_natCast, e1, Int.tdiv_eq_ediv_of_nonneg (by omega), wrap_i64 (by omega) (by omega)]
      · exact di wk
      · show some (Ob.row .i64 3 (ys.set (IntKind.i64.wrap ((i : Int) + k)).toNat ((IntKind.i64.wrap (ys.getD (IntKind.i64.wrap ((i : Int) + k)).toNat 0 + c)).tmod 256))) = some (Ob.row .i64 3 _)
        rw [wj, Int.toNat_natCast, e1, Int.tmod_eq_emod_of_nonneg (by omega)]
    · rename_i hkb
      have hc0 : c = 0 := by omega
      subst hc0
      refine ⟨(i + 1, ys), [0], by dsimp only; omega, ⟨by dsimp only; omega, hyl, hy, ?_⟩, rfl, ?_⟩
      · dsimp only
        rw [dval_take_all b (by omega)] at hw
        rw [dval_take_succ a i]
        grind
      · (refine ⟨rfl, rfl, ?_, ?_⟩ <;> repeat' (first | exact True.intro | rfl | decide | (refine And.intro ?_ ?_)))
        refine di ?_
        rw [wrap_i64 (by omega) (by omega)]; rfl
    · have m0 : 0 ≤ a.getD i 0 * b.getD k 0 := Int.mul_nonneg hai.1 hbk.1
      have m1 : a.getD i 0 * b.getD k 0 ≤ 255 * 255 := Int.mul_le_mul (by omega) (by omega) hbk.1 (by omega)
      have e1 : IntKind.i64.wrap (ys.getD (i + k) 0 + c) = ys.getD (i + k) 0 + c := wrap_i64 (by omega) (by omega)
      have e2 : IntKind.i64.wrap (a.getD i 0 * b.getD k 0) = a.getD i 0 * b.getD k 0 := wrap_i64 (by omega) (by omega)
      have e3 : IntKind.i64.wrap (ys.getD (i + k) 0 + c + a.getD i 0 * b.getD k 0) = ys.getD (i + k) 0 + c + a.getD i 0 * b.getD k 0 := wrap_i64 (by omega) (by omega)
      obtain ⟨k1, k2, k3, k4⟩ := step (ys.getD (i + k) 0 + c + a.getD i 0 * b.getD k 0) 0 (by omega) rfl (by omega) (by omega)
      refine ⟨(k + 1, ys.set (i + k) ((ys.getD (i + k) 0 + c + a.getD i 0 * b.getD k 0) % 256), (ys.getD (i + k) 0 + c + a.getD i 0 * b.getD k 0) / 256), [0], by dsimp only; omega, ⟨by dsimp only; omega, k1, k2, k3, k4⟩, rfl, ?_⟩
      (refine ⟨rfl, rfl, ?_, ?_⟩ <;> repeat' (first | exact True.intro | rfl | decide | (refine And.intro ?_ ?_)))
      · refine di ?_
        rw [wj, Int.toNat_natCast, Int.toNat_natCast, Int.toNat_natCast, e1, e2, e3, Int.tdiv_eq_ediv_of_nonneg (by omega), wrap_i64 (by omega) (by omega)]
      · exact di wk
      · show some (Ob.row .i64 3 (ys.set (IntKind.i64.wrap ((i : Int) + k)).toNat ((IntKind.i64.wrap (IntKind.i64.wrap (ys.getD (IntKind.i64.wrap ((i : Int) + k)).toNat 0 + c) + IntKind.i64.wrap (a.getD (i : Int).toNat 0 * b.getD (k : Int).toNat 0))).tmod 256))) = some (Ob.row .i64 3 _)
        rw [wj, Int.toNat_natCast, Int.toNat_natCast, Int.toNat_natCast, e1, e2, e3, Int.tmod_eq_emod_of_nonneg (by omega)]
  · have hia : i = a.length := by omega
    subst hia
    refine acallI (f29' o ho (by omega)) rfl fun r hr => ?_
    obtain ⟨ds, rfl, h1, h2, h3, h4⟩ := hr
    ((conv => whnf); repeat' (first | (refine And.intro ?_ ?_; (focus (first | rfl | decide | assumption | omega | decide +kernel | exact ⟨rfl, rfl⟩ | exact ⟨rfl, rfl, rfl, rfl⟩ | exact fun h => Bool.noConfusion h | exact fun _ => rfl | exact Nat.le_of_ble_eq_true rfl | (simp only [List.length_map, List.length_append, List.length_replicate, List.length_take, List.length_drop, List.length_set, List.length_cons, List.length_nil]; omega))); (conv => whnf)) | ((refine And.intro ?_ ?_ <;> intro _h); all_goals ((first | replace _h := of_decide_eq_true _h | replace _h := of_decide_eq_false _h | skip); (try simp only [Bool.not_eq_true', Bool.not_eq_false', Bool.not_true, Bool.not_false, decide_eq_true_eq, decide_eq_false_iff_not] at _h); (try (guard_hyp _h : True; clear _h)); first | done | contradiction | exact absurd ((Eq.symm _h).trans (show _ = true by assumption)) (by decide) | exact absurd ((Eq.symm _h).trans (show _ = false by assumption)) (by decide) | (conv => whnf))) | (intro _h; ((first | replace _h := of_decide_eq_true _h | replace _h := of_decide_eq_false _h | skip); (try simp only [Bool.not_eq_true', Bool.not_eq_false', Bool.not_true, Bool.not_false, decide_eq_true_eq, decide_eq_false_iff_not] at _h); (try (guard_hyp _h : True; clear _h)); first | done | contradiction | exact absurd ((Eq.symm _h).trans (show _ = true by assumption)) (by decide) | exact absurd ((Eq.symm _h).trans (show _ = false by assumption)) (by decide) | (conv => whnf)))))
    refine Ends.imm rfl ⟨ds, rfl, by omega, h2, h3, ?_⟩
    rw [h4, hv, dval_take_all a (Nat.le_refl _)]

end Go.Proofs.YtniaeiikdgbnfaaDoor.R
namespace Go.Proofs.YtniaeiikdgbnfaaDoor.R
open Go Go.RowKit Go.Proofs Go.Proofs.YtniaeiikdgbnfaaDoor.AW
set_option linter.unusedSectionVars false
variable [Globs]
attribute [local go_sem] Oper.semAt_some
set_option maxRecDepth 100000
set_option linter.unusedSimpArgs false
set_option linter.unusedVariables false
set_option maxHeartbeats 4000000

theorem it49 (l b o b2 o2 c : Nat) (A : Option Addr) (xs : List Int) (J : Nat → World → Prop) (Jx : World → Prop) (W : World) (hl : xs.length ≤ LIM) (hA : 0 < xs.length → A = some ⟨b2, o2, none⟩)
   (hG : ∀ k W, J k W → W.cell? ⟨b, o, none⟩ = some (.slice A xs.length c) ∧ ∀ i, i < xs.length → W.cell? ⟨b2, o2 + i, none⟩ = some (.int .u32 (xs.getD i 0)))
   (hY : ∀ k W, k < xs.length → J k W → YieldAt (fence none) 0 Tryd.prog l #[.int .i64 ((xs.length : Int) - 1 - k), .int .u32 (xs.getD (xs.length - 1 - k) 0)] W fun e W' => (e = .returned (.bool true) ∧ J (k + 1) W') ∨ (e = .returned (.bool false) ∧ Jx W'))
   (h0 : J 0 W) : CallsIn Fence.wide 0 Tryd.prog 110 #[.func (.yield l) #[] #[], .pointer (some ⟨b, o, none⟩)] W fun e W' => (∃ v, e = .returned v) ∧ (J xs.length W' ∨ Jx W') := by
  unfold LIM at hl
  have hc := (hG 0 W h0).1
  refine callsIn_of_wp Tryd.func110 rfl trivial ?_ rfl
  simp only [Tryd.ntmps110, List.size_toArray, List.length_cons, List.length_nil, Nat.reduceAdd, Nat.reduceSub, Array.replicate_succ, Array.replicate_zero, List.push_toArray, List.append_toArray, List.nil_append, List.cons_append]
  gi_wp2
  clear hc
  gi_loopw [3] (fun i wr => ∃ k : Nat, k ≤ xs.length ∧ i = .int .i64 ((xs.length : Int) - 1 - k) ∧ J k wr) (fun i _ => (intOf i + 1).toNat)
  case atStart => exact ⟨0, Nat.zero_le _, by simp, h0⟩
  case round =>
    obtain ⟨k, hk, rfl, hJ⟩ := hrel
    by_cases hlt : k < xs.length
    · have hA' := hA (by omega)
      subst hA'
      have hc := (hG k _ hJ).1
      have hc2 := (hG k _ hJ).2 (xs.length - 1 - k) (by omega)
      obtain ⟨fn, tmps, assign, body, hy, hR⟩ := hY k _ hlt hJ
      have hn : ((xs.length : Int) - 1 - k).toNat = xs.length - 1 - k := by omega
      clear hG hY hA
      rw [List.getD_eq_getElem?_getD] at hc2 hy
      gi_wp2
      refine ⟨rfl, RoundIn.mono hR ?_⟩
      rintro e W' (⟨rfl, hJ'⟩ | ⟨rfl, hJ'⟩)
      · gi_wp2
        go_roundw
        case rel => exact ⟨k + 1, by omega, by simp; omega, hJ'⟩
        case measure => simp [intOf]; omega
      · gi_wp2
        exact bodyPost_ret (results_none rfl _ _ _) rfl ⟨⟨_, rfl⟩, .inr hJ'⟩
    · have : k = xs.length := by omega
      subst this
      gi_wp2
      go_end0
      exact ⟨⟨_, rfl⟩, .inl hJ⟩

/-- A range from the end to the beginning. -/
theorem ai49 (xs : List Int) : AIter Tryd.prog 110 [.ptr (nat xs)] xs.length (fun k => [.int .i64 ((xs.length : Int) - 1 - k), .int .u32 (xs.getD (xs.length - 1 - k) 0)]) := by
  refine ⟨⟨_, Tryd.func110, rfl, by decide⟩, fun w S lb h => ?_⟩
  simp only [RepAll, Rep] at h
  obtain ⟨c1, c2, e, ⟨b, o, rfl, hSb, vs, hcb, A, c, rfl, hle, hL, hwf, hne⟩, rfl⟩ := h
  have hlb : lb = #[.pointer (some ⟨b, o, none⟩)] := by apply Array.ext'; simpa using e
  subst hlb
  refine ⟨fun k => #[.int .i64 ((xs.length : Int) - 1 - k), .int .u32 (xs.getD (xs.length - 1 - k) 0)], fun k hk => ?_, fun l J Jx W hJg hJxg hG hY h0 => ?_⟩
  · have hm : xs.getD (xs.length - 1 - k) 0 ∈ xs := by
      rw [List.getD_eq_getElem?_getD, List.getElem?_eq_getElem (by omega)]
      exact List.getElem_mem _
    unfold LIM at hL
    simp only [List.map_cons, List.map_nil, VAll, VRel, Rep]
    exact ⟨_, _, rfl, ⟨_, ⟨rfl, wrap_i64 (by omega) (by omega)⟩, rfl⟩, _, _, rfl, ⟨_, ⟨rfl, hwf _ hm⟩, rfl⟩, rfl⟩
  · have hcell : ∀ W : World, (∀ b, S b → W.heap[b]? = w.heap[b]?) → W.cell? ⟨b, o, none⟩ = some (.slice A xs.length c) := fun W hW => by
      have := (Cells.keep hcb (hW b hSb)) 0 _ rfl
      simpa using this
    refine callsIn_fence.1 (?_ : CallsIn Fence.wide 0 _ _ _ _ _)
    by_cases h0' : xs = []
    · subst h0'
      exact it49 l b o 0 0 c A [] J Jx W (Nat.zero_le _) (fun h => by simp at h) (fun k W hJ => ⟨hcell W (hG k W hJ), fun i hi => by simp at hi⟩) hY h0
    · obtain ⟨b2, o2, rfl, hS2, hc2⟩ := hne h0'
      exact it49 l b o b2 o2 c _ xs J Jx W hL (fun _ => rfl) (fun k W hJ => ⟨hcell W (hG k W hJ), fun i hi => by
        refine (Cells.keep hc2 (hG k W hJ b2 hS2)) i _ ?_
        rw [List.getElem?_map, List.getElem?_eq_getElem hi, List.getD_eq_getElem?_getD, List.getElem?_eq_getElem hi]; rfl⟩) hY h0

theorem f38 (xs : List Int) : Imm Tryd.prog 85 [.d (nat xs)] (fun r => r = .d (.fn 110 [.ptr (nat xs)])) := by
  (refine Imm.of_awp (⟨fun _ => false, fun r i => if r == 1 && i == 0 then [1] else [], fun _ => .done⟩ : AW.Told) [] Tryd.func85 rfl (by decide) (Nat.le_of_ble_eq_true rfl) ?_; intro _w0 _S0 _E0 _B0; ((conv => whnf); repeat' (first | (refine And.intro ?_ ?_; (focus (first | rfl | decide | assumption | omega | decide +kernel | exact ⟨rfl, rfl⟩ | exact ⟨rfl, rfl, rfl, rfl⟩ | exact fun h => Bool.noConfusion h | exact fun _ => rfl | exact Nat.le_of_ble_eq_true rfl | (simp only [List.length_map, List.length_append, List.length_replicate, List.length_take, List.length_drop, List.length_set, List.length_cons, List.length_nil]; omega))); (conv => whnf)) | ((refine And.intro ?_ ?_ <;> intro _h); all_goals ((first | replace _h := of_decide_eq_true _h | replace _h := of_decide_eq_false _h | skip); (try simp only [Bool.not_eq_true', Bool.not_eq_false', Bool.not_true, Bool.not_false, decide_eq_true_eq, decide_eq_false_iff_not] at _h); (try (guard_hyp _h : True; clear _h)); first | done | contradiction | exact absurd ((Eq.symm _h).trans (show _ = true by assumption)) (by decide) | exact absurd ((Eq.symm _h).trans (show _ = false by assumption)) (by decide) | (conv => whnf))) | (intro _h; ((first | replace _h := of_decide_eq_true _h | replace _h := of_decide_eq_false _h | skip); (try simp only [Bool.not_eq_true', Bool.not_eq_false', Bool.not_true, Bool.not_false, decide_eq_true_eq, decide_eq_false_iff_not] at _h); (try (guard_hyp _h : True; clear _h)); first | done | contradiction | exact absurd ((Eq.symm _h).trans (show _ = true by assumption)) (by decide) | exact absurd ((Eq.symm _h).trans (show _ = false by assumption)) (by decide) | (conv => whnf))))))
  exact Ends.imm rfl rfl

/-- How many bits a number has. -/
def blen (v : Nat) : Nat := if v = 0 then 0 else Nat.log2 v + 1

theorem blen_le (v k : Nat) : blen v ≤ k ↔ v < 2 ^ k := by
  unfold blen
  split
  · rename_i h; subst h; simp; exact Nat.pow_pos (by omega)
  · rename_i h
    rw [Nat.add_one_le_iff]
    exact Nat.log2_lt h

theorem blen_eq {v k : Nat} (h1 : v < 2 ^ k) (h2 : ∀ j, k = j + 1 → 2 ^ j ≤ v) : blen v = k := by
  have := (blen_le v k).2 h1
  cases k with
  | zero => omega
  | succ j =>
    have h4 := h2 j rfl
    have : ¬ blen v ≤ j := fun h => by have := (blen_le v j).1 h; omega
    omega

theorem blen_spec {v : Nat} (h : 0 < v) : v < 2 ^ blen v ∧ 2 ^ (blen v - 1) ≤ v := by
  refine ⟨(blen_le v _).1 (Nat.le_refl _), ?_⟩
  have h1 : ¬ blen v = 0 := fun e => by have := (blen_le v 0).1 (by omega); simp at this; omega
  have h2 : ¬ blen v ≤ blen v - 1 := by omega
  rw [blen_le] at h2
  omega

theorem blen_div {v k : Nat} (h : 2 ^ k ≤ v) : blen v = blen (v / 2 ^ k) + k := by
  have hp : 0 < 2 ^ k := Nat.pow_pos (by omega)
  have hu : 0 < v / 2 ^ k := Nat.div_pos h hp
  obtain ⟨h1, h2⟩ := blen_spec hu
  have hb : blen (v / 2 ^ k) ≠ 0 := fun e => by rw [e] at h1; simp at h1; omega
  refine blen_eq ?_ fun j hj => ?_
  · rw [Nat.pow_add]
    exact (Nat.div_lt_iff_lt_mul hp).1 h1
  · have e : j = (blen (v / 2 ^ k) - 1) + k := by omega
    rw [e, Nat.pow_add]
    exact (Nat.le_div_iff_mul_le hp).1 h2

def tab8 : List Int := (List.range 256).map fun v => (blen v : Int)
theorem tab8_get {x : Int} (h0 : 0 ≤ x) (h1 : x < 256) : tab8.getD x.toNat 0 = blen x.toNat := by
  unfold tab8
  rw [List.getD_eq_getElem?_getD, List.getElem?_map, List.getElem?_range (by omega)]; rfl

theorem shr_at (x : Int) (h0 : 0 ≤ x) (h1 : x < 4294967296) (m : Int) (k : Nat) (hm : m = k) (hk : k ≤ 32) : x / 2 ^ min m.toNat (IntKind.bits .u32) = ((x.toNat / 2 ^ k : Nat) : Int) := by
  subst hm
  obtain ⟨n, rfl⟩ : ∃ n : Nat, x = n := ⟨x.toNat, by omega⟩
  rw [Int.toNat_natCast, Int.toNat_natCast, Nat.min_eq_left (by simp [IntKind.bits]; omega)]
  simp

theorem f39 (x : Int) (h0 : 0 ≤ x) (h1 : x < 4294967296) : Imm Tryd.prog 86 [u32 x] (fun r => r = i64 (blen x.toNat)) := by
  have e16 := shr_at x h0 h1 16 16 rfl (by omega)
  have e8 := shr_at x h0 h1 8 8 rfl (by omega)
  have e24 := shr_at (x.toNat / 2 ^ 16 : Nat) (by omega) (by omega) 8 8 rfl (by omega)
  have e0 : x = (x.toNat : Int) := by omega
  have fin : ∀ (y : Nat) (s : Int) (n : Nat) (T : List Int), T = tab8 → y < 256 → s = n → n ≤ 24 → blen x.toNat = blen y + n →
      IntKind.i64.wrap (s + IntKind.i64.wrap (T.getD (IntKind.u8.wrap (y : Int)).toNat 0)) = blen x.toNat := fun y s n T hT hy hs hn he => by
    have hw : IntKind.u8.wrap (y : Int) = y := wrap_in.2 ⟨by simp [loK], by simp [hiK]; omega⟩
    have hb := (blen_le y 8).2 (by omega)
    rw [hw, hT, tab8_get (by omega) (by omega), Int.toNat_natCast, wrap_i64 (n := (blen y : Int)) (by omega) (by omega), wrap_i64 (by omega) (by omega), he]
    omega
  have hw : ∀ y : Nat, y < 256 → IntKind.u8.wrap (y : Int) = y := fun y hy => wrap_in.2 ⟨by simp [loK], by simp [hiK]; omega⟩
  (refine Imm.of_awp told0 [] Tryd.func86 rfl (by decide) (Nat.le_of_ble_eq_true rfl) ?_; intro _w0 _S0 _E0 _B0; ((conv => whnf); repeat' (first | (refine And.intro ?_ ?_; (focus (first | rfl | decide | assumption | omega | decide +kernel | exact ⟨rfl, rfl⟩ | exact ⟨rfl, rfl, rfl, rfl⟩ | exact fun h => Bool.noConfusion h | exact fun _ => rfl | exact Nat.le_of_ble_eq_true rfl | (simp only [List.length_map, List.length_append, List.length_replicate, List.length_take, List.length_drop, List.length_set, List.length_cons, List.length_nil]; omega))); (conv => whnf)) | ((refine And.intro ?_ ?_ <;> intro _h); all_goals ((first | replace _h := of_decide_eq_true _h | replace _h := of_decide_eq_false _h | skip); (try simp only [Bool.not_eq_true', Bool.not_eq_false', Bool.not_true, Bool.not_false, decide_eq_true_eq, decide_eq_false_iff_not] at _h); (try (guard_hyp _h : True; clear _h)); first | done | contradiction | exact absurd ((Eq.symm _h).trans (show _ = true by assumption)) (by decide) | exact absurd ((Eq.symm _h).trans (show _ = false by assumption)) (by decide) | (conv => whnf))) | (intro _h; ((first | replace _h := of_decide_eq_true _h | replace _h := of_decide_eq_false _h | skip); (try simp only [Bool.not_eq_true', Bool.not_eq_false', Bool.not_true, Bool.not_false, decide_eq_true_eq, decide_eq_false_iff_not] at _h); (try (guard_hyp _h : True; clear _h)); first | done | contradiction | exact absurd ((Eq.symm _h).trans (show _ = true by assumption)) (by decide) | exact absurd ((Eq.symm _h).trans (show _ = false by assumption)) (by decide) | (conv => whnf))))))
  all_goals
    generalize hT : bytesOf _ = T
    have hT2 : T = tab8 := by rw [← hT]; decide +kernel
    clear hT
    have hTl : T.length = 256 := by rw [hT2]; decide +kernel
    have w1 : IntKind.i64.wrap (16 + 8) = 24 := by decide
    have w2 : IntKind.i64.wrap (0 + 8) = 8 := by decide
    rw [hTl]
  · rename_i h16
    simp only [e16, e24, Int.toNat_natCast] at _h ⊢
    have hy : x.toNat / 2 ^ 16 / 2 ^ 8 < 256 := by omega
    refine ⟨by rw [hw _ hy]; omega, by rw [hw _ hy]; omega, ?_⟩
    ((conv => whnf); repeat' (first | (refine And.intro ?_ ?_; (focus (first | rfl | decide | assumption | omega | decide +kernel | exact ⟨rfl, rfl⟩ | exact ⟨rfl, rfl, rfl, rfl⟩ | exact fun h => Bool.noConfusion h | exact fun _ => rfl | exact Nat.le_of_ble_eq_true rfl | (simp only [List.length_map, List.length_append, List.length_replicate, List.length_take, List.length_drop, List.length_set, List.length_cons, List.length_nil]; omega))); (conv => whnf)) | ((refine And.intro ?_ ?_ <;> intro _h); all_goals ((first | replace _h := of_decide_eq_true _h | replace _h := of_decide_eq_false _h | skip); (try simp only [Bool.not_eq_true', Bool.not_eq_false', Bool.not_true, Bool.not_false, decide_eq_true_eq, decide_eq_false_iff_not] at _h); (try (guard_hyp _h : True; clear _h)); first | done | contradiction | exact absurd ((Eq.symm _h).trans (show _ = true by assumption)) (by decide) | exact absurd ((Eq.symm _h).trans (show _ = false by assumption)) (by decide) | (conv => whnf))) | (intro _h; ((first | replace _h := of_decide_eq_true _h | replace _h := of_decide_eq_false _h | skip); (try simp only [Bool.not_eq_true', Bool.not_eq_false', Bool.not_true, Bool.not_false, decide_eq_true_eq, decide_eq_false_iff_not] at _h); (try (guard_hyp _h : True; clear _h)); first | done | contradiction | exact absurd ((Eq.symm _h).trans (show _ = true by assumption)) (by decide) | exact absurd ((Eq.symm _h).trans (show _ = false by assumption)) (by decide) | (conv => whnf)))))
    refine Ends.imm rfl (di (fin _ _ 24 T hT2 hy w1 (by omega) ?_))
    rw [blen_div (k := 16) (by omega), blen_div (k := 8) (v := x.toNat / 2 ^ 16) (by omega)]
  · rename_i h16
    simp only [e16, e24, Int.toNat_natCast] at _h ⊢
    have hy : x.toNat / 2 ^ 16 < 256 := by omega
    refine ⟨by rw [hw _ hy]; omega, by rw [hw _ hy]; omega, ?_⟩
    ((conv => whnf); repeat' (first | (refine And.intro ?_ ?_; (focus (first | rfl | decide | assumption | omega | decide +kernel | exact ⟨rfl, rfl⟩ | exact ⟨rfl, rfl, rfl, rfl⟩ | exact fun h => Bool.noConfusion h | exact fun _ => rfl | exact Nat.le_of_ble_eq_true rfl | (simp only [List.length_map, List.length_append, List.length_replicate, List.length_take, List.length_drop, List.length_set, List.length_cons, List.length_nil]; omega))); (conv => whnf)) | ((refine And.intro ?_ ?_ <;> intro _h); all_goals ((first | replace _h := of_decide_eq_true _h | replace _h := of_decide_eq_false _h | skip); (try simp only [Bool.not_eq_true', Bool.not_eq_false', Bool.not_true, Bool.not_false, decide_eq_true_eq, decide_eq_false_iff_not] at _h); (try (guard_hyp _h : True; clear _h)); first | done | contradiction | exact absurd ((Eq.symm _h).trans (show _ = true by assumption)) (by decide) | exact absurd ((Eq.symm _h).trans (show _ = false by assumption)) (by decide) | (conv => whnf))) | (intro _h; ((first | replace _h := of_decide_eq_true _h | replace _h := of_decide_eq_false _h | skip); (try simp only [Bool.not_eq_true', Bool.not_eq_false', Bool.not_true, Bool.not_false, decide_eq_true_eq, decide_eq_false_iff_not] at _h); (try (guard_hyp _h : True; clear _h)); first | done | contradiction | exact absurd ((Eq.symm _h).trans (show _ = true by assumption)) (by decide) | exact absurd ((Eq.symm _h).trans (show _ = false by assumption)) (by decide) | (conv => whnf)))))
    refine Ends.imm rfl (di (fin _ _ 16 T hT2 hy rfl (by omega) ?_))
    rw [blen_div (k := 16) (by omega)]
  · rename_i h16
    simp only [e8, Int.toNat_natCast] at _h ⊢
    have hy : x.toNat / 2 ^ 8 < 256 := by omega
    refine ⟨by rw [hw _ hy]; omega, by rw [hw _ hy]; omega, ?_⟩
    ((conv => whnf); repeat' (first | (refine And.intro ?_ ?_; (focus (first | rfl | decide | assumption | omega | decide +kernel | exact ⟨rfl, rfl⟩ | exact ⟨rfl, rfl, rfl, rfl⟩ | exact fun h => Bool.noConfusion h | exact fun _ => rfl | exact Nat.le_of_ble_eq_true rfl | (simp only [List.length_map, List.length_append, List.length_replicate, List.length_take, List.length_drop, List.length_set, List.length_cons, List.length_nil]; omega))); (conv => whnf)) | ((refine And.intro ?_ ?_ <;> intro _h); all_goals ((first | replace _h := of_decide_eq_true _h | replace _h := of_decide_eq_false _h | skip); (try simp only [Bool.not_eq_true', Bool.not_eq_false', Bool.not_true, Bool.not_false, decide_eq_true_eq, decide_eq_false_iff_not] at _h); (try (guard_hyp _h : True; clear _h)); first | done | contradiction | exact absurd ((Eq.symm _h).trans (show _ = true by assumption)) (by decide) | exact absurd ((Eq.symm _h).trans (show _ = false by assumption)) (by decide) | (conv => whnf))) | (intro _h; ((first | replace _h := of_decide_eq_true _h | replace _h := of_decide_eq_false _h | skip); (try simp only [Bool.not_eq_true', Bool.not_eq_false', Bool.not_true, Bool.not_false, decide_eq_true_eq, decide_eq_false_iff_not] at _h); (try (guard_hyp _h : True; clear _h)); first | done | contradiction | exact absurd ((Eq.symm _h).trans (show _ = true by assumption)) (by decide) | exact absurd ((Eq.symm _h).trans (show _ = false by assumption)) (by decide) | (conv => whnf)))))
    refine Ends.imm rfl (di (fin _ _ 8 T hT2 hy w2 (by omega) ?_))
    rw [blen_div (k := 8) (by omega)]
  · rename_i h16
    have hy : x.toNat < 256 := by omega
    rw [e0]
    refine ⟨by rw [hw _ hy]; omega, by rw [hw _ hy]; omega, ?_⟩
    ((conv => whnf); repeat' (first | (refine And.intro ?_ ?_; (focus (first | rfl | decide | assumption | omega | decide +kernel | exact ⟨rfl, rfl⟩ | exact ⟨rfl, rfl, rfl, rfl⟩ | exact fun h => Bool.noConfusion h | exact fun _ => rfl | exact Nat.le_of_ble_eq_true rfl | (simp only [List.length_map, List.length_append, List.length_replicate, List.length_take, List.length_drop, List.length_set, List.length_cons, List.length_nil]; omega))); (conv => whnf)) | ((refine And.intro ?_ ?_ <;> intro _h); all_goals ((first | replace _h := of_decide_eq_true _h | replace _h := of_decide_eq_false _h | skip); (try simp only [Bool.not_eq_true', Bool.not_eq_false', Bool.not_true, Bool.not_false, decide_eq_true_eq, decide_eq_false_iff_not] at _h); (try (guard_hyp _h : True; clear _h)); first | done | contradiction | exact absurd ((Eq.symm _h).trans (show _ = true by assumption)) (by decide) | exact absurd ((Eq.symm _h).trans (show _ = false by assumption)) (by decide) | (conv => whnf))) | (intro _h; ((first | replace _h := of_decide_eq_true _h | replace _h := of_decide_eq_false _h | skip); (try simp only [Bool.not_eq_true', Bool.not_eq_false', Bool.not_true, Bool.not_false, decide_eq_true_eq, decide_eq_false_iff_not] at _h); (try (guard_hyp _h : True; clear _h)); first | done | contradiction | exact absurd ((Eq.symm _h).trans (show _ = true by assumption)) (by decide) | exact absurd ((Eq.symm _h).trans (show _ = false by assumption)) (by decide) | (conv => whnf)))))
    refine Ends.imm rfl (di (fin _ _ 0 T hT2 hy rfl (by omega) ?_))
    rfl
end Go.Proofs.YtniaeiikdgbnfaaDoor.R
namespace Go.Proofs.YtniaeiikdgbnfaaDoor.R
open Go Go.RowKit Go.Proofs Go.Proofs.YtniaeiikdgbnfaaDoor.AW
set_option linter.unusedSectionVars false
variable [Globs]
set_option maxRecDepth 100000
set_option linter.unusedSimpArgs false
set_option linter.unusedVariables false
set_option maxHeartbeats 4000000

theorem val_zero_of : ∀ (xs : List Int), (∀ j, xs.getD j 0 = 0) → val xs = 0
  | [], _ => rfl
  | x :: xs, h => by
    have h0 := h 0
    have ih := val_zero_of xs fun j => by have := h (j + 1); simpa using this
    simp at h0
    simp [val, ih, h0]

/-- The highest limb that isn't 0 says how many bits a number has. -/
theorem val_top (xs : List Int) (hx : wfl xs) (i : Nat) (hi : i < xs.length) (h : ∀ j, i + 1 ≤ j → xs.getD j 0 = 0) (hne : xs.getD i 0 ≠ 0) : blen (val xs).toNat = 32 * i + blen (xs.getD i 0).toNat := by
  have hg := hx.get i
  have e : val xs = val (xs.take i) + pw i * xs.getD i 0 := by
    rw [← val_take_succ hi]
    have := val_ext xs.length xs (xs.take (i + 1)) (Nat.le_refl _) (by simp; omega) fun j => by
      rcases Nat.lt_or_ge j (i + 1) with hj | hj
      · rw [List.getD_eq_getElem?_getD, List.getD_eq_getElem?_getD, List.getElem?_take, if_pos hj]
      · rw [h j hj, List.getD_eq_getElem?_getD, List.getElem?_take, if_neg (by omega)]; rfl
    exact this
  have h1 := val_lt (hx.take i)
  have h2 := val_nonneg (hx.take i)
  rw [List.length_take, Nat.min_eq_left (by omega)] at h1
  have hp := pw_pos i
  obtain ⟨b, hb⟩ : ∃ b : Nat, xs.getD i 0 = b := ⟨(xs.getD i 0).toNat, by omega⟩
  rw [hb] at e hg ⊢
  rw [Int.toNat_natCast]
  obtain ⟨p, hpp⟩ : ∃ p : Nat, pw i = p := ⟨(pw i).toNat, by omega⟩
  obtain ⟨a, ha⟩ : ∃ a : Nat, val (xs.take i) = a := ⟨(val (xs.take i)).toNat, by omega⟩
  have hp2 : p = 2 ^ (32 * i) := by
    have := pw_two i
    rw [hpp] at this
    exact_mod_cast this
  rw [ha, hpp] at e
  rw [ha, hpp] at h1
  have hv : (val xs).toNat = a + p * b := by rw [e]; have : ((a : Int) + p * b) = ((a + p * b : Nat) : Int) := by push_cast; rfl
                                             rw [this, Int.toNat_natCast]
  rw [hv]
  have hb1 : 1 ≤ b := by omega
  have hap : a < p := by omega
  have hle : 2 ^ (32 * i) ≤ a + p * b := by
    rw [← hp2]
    have : p * 1 ≤ p * b := Nat.mul_le_mul_left p hb1
    omega
  rw [blen_div hle, ← hp2, Nat.add_mul_div_left _ _ (by omega), Nat.div_eq_of_lt hap, Nat.zero_add]
  exact Nat.add_comm _ _

def told24 : AW.Told := ⟨fun _ => false, fun r i => if r == 1 && i == 2 then [6] else [], fun _ => .done⟩

theorem f24 (xs : List Int) (hx : wfl xs) : Imm Tryd.prog 56 [.d (nat xs)] (fun r => r = i64 (if bad xs then 0 else blen (val xs).toNat)) := by
  (refine Imm.of_awp told24 [] Tryd.func56 rfl (by decide) (Nat.le_of_ble_eq_true rfl) ?_; intro _w0 _S0 _E0 _B0; ((conv => whnf); repeat' (first | (refine And.intro ?_ ?_; (focus (first | rfl | decide | assumption | omega | decide +kernel | exact ⟨rfl, rfl⟩ | exact ⟨rfl, rfl, rfl, rfl⟩ | exact fun h => Bool.noConfusion h | exact fun _ => rfl | exact Nat.le_of_ble_eq_true rfl | (simp only [List.length_map, List.length_append, List.length_replicate, List.length_take, List.length_drop, List.length_set, List.length_cons, List.length_nil]; omega))); (conv => whnf)) | ((refine And.intro ?_ ?_ <;> intro _h); all_goals ((first | replace _h := of_decide_eq_true _h | replace _h := of_decide_eq_false _h | skip); (try simp only [Bool.not_eq_true', Bool.not_eq_false', Bool.not_true, Bool.not_false, decide_eq_true_eq, decide_eq_false_iff_not] at _h); (try (guard_hyp _h : True; clear _h)); first | done | contradiction | exact absurd ((Eq.symm _h).trans (show _ = true by assumption)) (by decide) | exact absurd ((Eq.symm _h).trans (show _ = false by assumption)) (by decide) | (conv => whnf))) | (intro _h; ((first | replace _h := of_decide_eq_true _h | replace _h := of_decide_eq_false _h | skip); (try simp only [Bool.not_eq_true', Bool.not_eq_false', Bool.not_true, Bool.not_false, decide_eq_true_eq, decide_eq_false_iff_not] at _h); (try (guard_hyp _h : True; clear _h)); first | done | contradiction | exact absurd ((Eq.symm _h).trans (show _ = true by assumption)) (by decide) | exact absurd ((Eq.symm _h).trans (show _ = false by assumption)) (by decide) | (conv => whnf))))))
  refine acallI (f35 [xs]) rfl fun r hr => ?_
  subst hr
  ((conv => whnf); repeat' (first | (refine And.intro ?_ ?_; (focus (first | rfl | decide | assumption | omega | decide +kernel | exact ⟨rfl, rfl⟩ | exact ⟨rfl, rfl, rfl, rfl⟩ | exact fun h => Bool.noConfusion h | exact fun _ => rfl | exact Nat.le_of_ble_eq_true rfl | (simp only [List.length_map, List.length_append, List.length_replicate, List.length_take, List.length_drop, List.length_set, List.length_cons, List.length_nil]; omega))); (conv => whnf)) | ((refine And.intro ?_ ?_ <;> intro _h); all_goals ((first | replace _h := of_decide_eq_true _h | replace _h := of_decide_eq_false _h | skip); (try simp only [Bool.not_eq_true', Bool.not_eq_false', Bool.not_true, Bool.not_false, decide_eq_true_eq, decide_eq_false_iff_not] at _h); (try (guard_hyp _h : True; clear _h)); first | done | contradiction | exact absurd ((Eq.symm _h).trans (show _ = true by assumption)) (by decide) | exact absurd ((Eq.symm _h).trans (show _ = false by assumption)) (by decide) | (conv => whnf))) | (intro _h; ((first | replace _h := of_decide_eq_true _h | replace _h := of_decide_eq_false _h | skip); (try simp only [Bool.not_eq_true', Bool.not_eq_false', Bool.not_true, Bool.not_false, decide_eq_true_eq, decide_eq_false_iff_not] at _h); (try (guard_hyp _h : True; clear _h)); first | done | contradiction | exact absurd ((Eq.symm _h).trans (show _ = true by assumption)) (by decide) | exact absurd ((Eq.symm _h).trans (show _ = false by assumption)) (by decide) | (conv => whnf)))))
  · simp at _h
    exact Ends.imm rfl (by rw [if_pos _h])
  · simp at _h
    have hbx := _h
    unfold bad at hbx
    simp at hbx
    rw [_h]
    refine acallI (f38 xs) rfl fun r hr => ?_
    subst hr
    ((conv => whnf); repeat' (first | (refine And.intro ?_ ?_; (focus (first | rfl | decide | assumption | omega | decide +kernel | exact ⟨rfl, rfl⟩ | exact ⟨rfl, rfl, rfl, rfl⟩ | exact fun h => Bool.noConfusion h | exact fun _ => rfl | exact Nat.le_of_ble_eq_true rfl | (simp only [List.length_map, List.length_append, List.length_replicate, List.length_take, List.length_drop, List.length_set, List.length_cons, List.length_nil]; omega))); (conv => whnf)) | ((refine And.intro ?_ ?_ <;> intro _h); all_goals ((first | replace _h := of_decide_eq_true _h | replace _h := of_decide_eq_false _h | skip); (try simp only [Bool.not_eq_true', Bool.not_eq_false', Bool.not_true, Bool.not_false, decide_eq_true_eq, decide_eq_false_iff_not] at _h); (try (guard_hyp _h : True; clear _h)); first | done | contradiction | exact absurd ((Eq.symm _h).trans (show _ = true by assumption)) (by decide) | exact absurd ((Eq.symm _h).trans (show _ = false by assumption)) (by decide) | (conv => whnf))) | (intro _h; ((first | replace _h := of_decide_eq_true _h | replace _h := of_decide_eq_false _h | skip); (try simp only [Bool.not_eq_true', Bool.not_eq_false', Bool.not_true, Bool.not_false, decide_eq_true_eq, decide_eq_false_iff_not] at _h); (try (guard_hyp _h : True; clear _h)); first | done | contradiction | exact absurd ((Eq.symm _h).trans (show _ = true by assumption)) (by decide) | exact absurd ((Eq.symm _h).trans (show _ = false by assumption)) (by decide) | (conv => whnf)))))
    refine AWp.rangeFunc told24 (ai49 xs) (ι := Int) [(0, .d (nat xs)), (2, .optr 0 0)] (fun v => [(0, .cell 3 [i64 v])]) 20 1 1 (fun k v => v = 0 ∧ ∀ j, xs.length ≤ j + k → xs.getD j 0 = 0)
      (fun e v => match e with
        | .ret => v = blen (val xs).toNat
        | _ => False) rfl rfl rfl (fun k hk => rfl) rfl rfl (Nat.zero_le _) (Nat.le_refl _) rfl
      ⟨0, [0], rfl, ⟨rfl, fun j hj => by rw [List.getD_eq_getElem?_getD, List.getElem?_eq_none (by omega)]; rfl⟩, by (refine ⟨rfl, rfl, ?_, ?_⟩ <;> repeat' (first | exact True.intro | rfl | decide | (refine And.intro ?_ ?_)))⟩ ?_ ?_ ?_ ?_
    · intro k v hk ⟨hv, hz⟩ _ _ _ _ _
      subst hv
      have hg := hx.get (xs.length - 1 - k)
      have hb := (blen_le (xs.getD (xs.length - 1 - k) 0).toNat 32).2 (by omega)
      ((conv => whnf); repeat' (first | (refine And.intro ?_ ?_; (focus (first | rfl | decide | assumption | omega | decide +kernel | exact ⟨rfl, rfl⟩ | exact ⟨rfl, rfl, rfl, rfl⟩ | exact fun h => Bool.noConfusion h | exact fun _ => rfl | exact Nat.le_of_ble_eq_true rfl | (simp only [List.length_map, List.length_append, List.length_replicate, List.length_take, List.length_drop, List.length_set, List.length_cons, List.length_nil]; omega))); (conv => whnf)) | ((refine And.intro ?_ ?_ <;> intro _h); all_goals ((first | replace _h := of_decide_eq_true _h | replace _h := of_decide_eq_false _h | skip); (try simp only [Bool.not_eq_true', Bool.not_eq_false', Bool.not_true, Bool.not_false, decide_eq_true_eq, decide_eq_false_iff_not] at _h); (try (guard_hyp _h : True; clear _h)); first | done | contradiction | exact absurd ((Eq.symm _h).trans (show _ = true by assumption)) (by decide) | exact absurd ((Eq.symm _h).trans (show _ = false by assumption)) (by decide) | (conv => whnf))) | (intro _h; ((first | replace _h := of_decide_eq_true _h | replace _h := of_decide_eq_false _h | skip); (try simp only [Bool.not_eq_true', Bool.not_eq_false', Bool.not_true, Bool.not_false, decide_eq_true_eq, decide_eq_false_iff_not] at _h); (try (guard_hyp _h : True; clear _h)); first | done | contradiction | exact absurd ((Eq.symm _h).trans (show _ = true by assumption)) (by decide) | exact absurd ((Eq.symm _h).trans (show _ = false by assumption)) (by decide) | (conv => whnf)))))
      · refine acallI (f39 _ hg.1 hg.2) rfl fun r hr => ?_
        subst hr
        ((conv => whnf); repeat' (first | (refine And.intro ?_ ?_; (focus (first | rfl | decide | assumption | omega | decide +kernel | exact ⟨rfl, rfl⟩ | exact ⟨rfl, rfl, rfl, rfl⟩ | exact fun h => Bool.noConfusion h | exact fun _ => rfl | exact Nat.le_of_ble_eq_true rfl | (simp only [List.length_map, List.length_append, List.length_replicate, List.length_take, List.length_drop, List.length_set, List.length_cons, List.length_nil]; omega))); (conv => whnf)) | ((refine And.intro ?_ ?_ <;> intro _h); all_goals ((first | replace _h := of_decide_eq_true _h | replace _h := of_decide_eq_false _h | skip); (try simp only [Bool.not_eq_true', Bool.not_eq_false', Bool.not_true, Bool.not_false, decide_eq_true_eq, decide_eq_false_iff_not] at _h); (try (guard_hyp _h : True; clear _h)); first | done | contradiction | exact absurd ((Eq.symm _h).trans (show _ = true by assumption)) (by decide) | exact absurd ((Eq.symm _h).trans (show _ = false by assumption)) (by decide) | (conv => whnf))) | (intro _h; ((first | replace _h := of_decide_eq_true _h | replace _h := of_decide_eq_false _h | skip); (try simp only [Bool.not_eq_true', Bool.not_eq_false', Bool.not_true, Bool.not_false, decide_eq_true_eq, decide_eq_false_iff_not] at _h); (try (guard_hyp _h : True; clear _h)); first | done | contradiction | exact absurd ((Eq.symm _h).trans (show _ = true by assumption)) (by decide) | exact absurd ((Eq.symm _h).trans (show _ = false by assumption)) (by decide) | (conv => whnf)))))
        refine ⟨blen (val xs).toNat, [0], rfl, rfl, rfl, ⟨by decide, ?_⟩, trivial⟩
        show some (Ob.cell 3 [i64 (IntKind.i64.wrap (IntKind.i64.wrap (32 * ((xs.length : Int) - 1 - k)) + blen (xs.getD (xs.length - 1 - k) 0).toNat))]) = some (Ob.cell 3 [i64 (blen (val xs).toNat)])
        rw [wrap_i64 (n := 32 * ((xs.length : Int) - 1 - k)) (by omega) (by omega), wrap_i64 (by omega) (by omega)]
        rw [val_top xs hx (xs.length - 1 - k) (by omega) (fun j hj => hz j (by omega)) _h]
        congr 4
        omega
      · exact ⟨0, [0], rfl, ⟨rfl, fun j hj => by
          rcases Nat.lt_or_ge j (xs.length - k) with h | h
          · have : j = xs.length - 1 - k := by omega
            subst this; exact _h
          · exact hz j (by omega)⟩, rfl, ⟨by decide, rfl⟩, trivial⟩
    · intro v ⟨hv, hz⟩
      subst hv
      ((conv => whnf); repeat' (first | (refine And.intro ?_ ?_; (focus (first | rfl | decide | assumption | omega | decide +kernel | exact ⟨rfl, rfl⟩ | exact ⟨rfl, rfl, rfl, rfl⟩ | exact fun h => Bool.noConfusion h | exact fun _ => rfl | exact Nat.le_of_ble_eq_true rfl | (simp only [List.length_map, List.length_append, List.length_replicate, List.length_take, List.length_drop, List.length_set, List.length_cons, List.length_nil]; omega))); (conv => whnf)) | ((refine And.intro ?_ ?_ <;> intro _h); all_goals ((first | replace _h := of_decide_eq_true _h | replace _h := of_decide_eq_false _h | skip); (try simp only [Bool.not_eq_true', Bool.not_eq_false', Bool.not_true, Bool.not_false, decide_eq_true_eq, decide_eq_false_iff_not] at _h); (try (guard_hyp _h : True; clear _h)); first | done | contradiction | exact absurd ((Eq.symm _h).trans (show _ = true by assumption)) (by decide) | exact absurd ((Eq.symm _h).trans (show _ = false by assumption)) (by decide) | (conv => whnf))) | (intro _h; ((first | replace _h := of_decide_eq_true _h | replace _h := of_decide_eq_false _h | skip); (try simp only [Bool.not_eq_true', Bool.not_eq_false', Bool.not_true, Bool.not_false, decide_eq_true_eq, decide_eq_false_iff_not] at _h); (try (guard_hyp _h : True; clear _h)); first | done | contradiction | exact absurd ((Eq.symm _h).trans (show _ = true by assumption)) (by decide) | exact absurd ((Eq.symm _h).trans (show _ = false by assumption)) (by decide) | (conv => whnf)))))
      refine Ends.imm rfl ?_
      rw [val_zero_of xs fun j => hz j (by omega)]
      rfl
    · intro v hv
      ((conv => whnf); repeat' (first | (refine And.intro ?_ ?_; (focus (first | rfl | decide | assumption | omega | decide +kernel | exact ⟨rfl, rfl⟩ | exact ⟨rfl, rfl, rfl, rfl⟩ | exact fun h => Bool.noConfusion h | exact fun _ => rfl | exact Nat.le_of_ble_eq_true rfl | (simp only [List.length_map, List.length_append, List.length_replicate, List.length_take, List.length_drop, List.length_set, List.length_cons, List.length_nil]; omega))); (conv => whnf)) | ((refine And.intro ?_ ?_ <;> intro _h); all_goals ((first | replace _h := of_decide_eq_true _h | replace _h := of_decide_eq_false _h | skip); (try simp only [Bool.not_eq_true', Bool.not_eq_false', Bool.not_true, Bool.not_false, decide_eq_true_eq, decide_eq_false_iff_not] at _h); (try (guard_hyp _h : True; clear _h)); first | done | contradiction | exact absurd ((Eq.symm _h).trans (show _ = true by assumption)) (by decide) | exact absurd ((Eq.symm _h).trans (show _ = false by assumption)) (by decide) | (conv => whnf))) | (intro _h; ((first | replace _h := of_decide_eq_true _h | replace _h := of_decide_eq_false _h | skip); (try simp only [Bool.not_eq_true', Bool.not_eq_false', Bool.not_true, Bool.not_false, decide_eq_true_eq, decide_eq_false_iff_not] at _h); (try (guard_hyp _h : True; clear _h)); first | done | contradiction | exact absurd ((Eq.symm _h).trans (show _ = true by assumption)) (by decide) | exact absurd ((Eq.symm _h).trans (show _ = false by assumption)) (by decide) | (conv => whnf)))))
      refine Ends.imm rfl ?_
      rw [hv]; rfl
    · intro id v hv
      exact hv.elim

/-- A ring under way, as an object. -/
abbrev ringOb (n : List Int) (n0 : Int) : Ob := .cell 83 [.d (nat n), u32 n0, .nls (nat [])]

def told41o : AW.Told := ⟨fun f => f == 88 || f == 58, fun _ _ => [], fun _ => .done⟩

theorem f41o (n : List Int) (n0 : Int) (x : List Int) (over : Bool) (hn : wfl n) (hx : wfl x) (hbn : bad n = false) (hl : x.length = n.length) :
    CSpec Tryd.prog 88 [.optr 0 0, .d (nat x), bool over] [(0, ringOb n n0)] 1 (fun st nx r => st = [(0, ringOb n n0)] ∧ nx = 1 ∧ ∃ z, r = .d (nat z) ∧ lessS n x over z) := by
  have hbx : bad x = false := by unfold bad at hbn ⊢; rw [hl]; exact hbn
  refine CSpec.ends (CSpec.of_awp told41o [] Tryd.func88 rfl (by decide) (Nat.le_of_ble_eq_true rfl) fun _w0 _S0 _E0 _B0 => ?_)
  ((conv => whnf); repeat' (first | (refine And.intro ?_ ?_; (focus (first | rfl | decide | assumption | omega | decide +kernel | exact ⟨rfl, rfl⟩ | exact ⟨rfl, rfl, rfl, rfl⟩ | exact fun h => Bool.noConfusion h | exact fun _ => rfl | exact Nat.le_of_ble_eq_true rfl | (simp only [List.length_map, List.length_append, List.length_replicate, List.length_take, List.length_drop, List.length_set, List.length_cons, List.length_nil]; omega))); (conv => whnf)) | ((refine And.intro ?_ ?_ <;> intro _h); all_goals ((first | replace _h := of_decide_eq_true _h | replace _h := of_decide_eq_false _h | skip); (try simp only [Bool.not_eq_true', Bool.not_eq_false', Bool.not_true, Bool.not_false, decide_eq_true_eq, decide_eq_false_iff_not] at _h); (try (guard_hyp _h : True; clear _h)); first | done | contradiction | exact absurd ((Eq.symm _h).trans (show _ = true by assumption)) (by decide) | exact absurd ((Eq.symm _h).trans (show _ = false by assumption)) (by decide) | (conv => whnf))) | (intro _h; ((first | replace _h := of_decide_eq_true _h | replace _h := of_decide_eq_false _h | skip); (try simp only [Bool.not_eq_true', Bool.not_eq_false', Bool.not_true, Bool.not_false, decide_eq_true_eq, decide_eq_false_iff_not] at _h); (try (guard_hyp _h : True; clear _h)); first | done | contradiction | exact absurd ((Eq.symm _h).trans (show _ = true by assumption)) (by decide) | exact absurd ((Eq.symm _h).trans (show _ = false by assumption)) (by decide) | (conv => whnf)))))
  refine acallI (f50 x n hx hn) rfl fun r hr => ?_
  rw [if_neg (by simp [hbx, hbn, hl])] at hr
  obtain ⟨zs, c, rfl, hzl, hz, hc, hv⟩ := hr
  ((conv => whnf); repeat' (first | (refine And.intro ?_ ?_; (focus (first | rfl | decide | assumption | omega | decide +kernel | exact ⟨rfl, rfl⟩ | exact ⟨rfl, rfl, rfl, rfl⟩ | exact fun h => Bool.noConfusion h | exact fun _ => rfl | exact Nat.le_of_ble_eq_true rfl | (simp only [List.length_map, List.length_append, List.length_replicate, List.length_take, List.length_drop, List.length_set, List.length_cons, List.length_nil]; omega))); (conv => whnf)) | ((refine And.intro ?_ ?_ <;> intro _h); all_goals ((first | replace _h := of_decide_eq_true _h | replace _h := of_decide_eq_false _h | skip); (try simp only [Bool.not_eq_true', Bool.not_eq_false', Bool.not_true, Bool.not_false, decide_eq_true_eq, decide_eq_false_iff_not] at _h); (try (guard_hyp _h : True; clear _h)); first | done | contradiction | exact absurd ((Eq.symm _h).trans (show _ = true by assumption)) (by decide) | exact absurd ((Eq.symm _h).trans (show _ = false by assumption)) (by decide) | (conv => whnf))) | (intro _h; ((first | replace _h := of_decide_eq_true _h | replace _h := of_decide_eq_false _h | skip); (try simp only [Bool.not_eq_true', Bool.not_eq_false', Bool.not_true, Bool.not_false, decide_eq_true_eq, decide_eq_false_iff_not] at _h); (try (guard_hyp _h : True; clear _h)); first | done | contradiction | exact absurd ((Eq.symm _h).trans (show _ = true by assumption)) (by decide) | exact absurd ((Eq.symm _h).trans (show _ = false by assumption)) (by decide) | (conv => whnf)))))
  · refine ⟨[0], [(0, ringOb n n0)], .d (nat zs), ⟨rfl, ⟨⟨by decide, rfl⟩, trivial⟩, rfl⟩, rfl, rfl, zs, rfl, by rw [hzl, hl], hz, ?_⟩
    have : c = 0 := by omega
    subst this
    rw [if_pos (.inr (by have := val_nonneg hz; omega)), ← hl, mod_of hz hzl hv]
  · refine ⟨[0], [(0, ringOb n n0)], .d (nat x), ⟨rfl, ⟨⟨by decide, rfl⟩, trivial⟩, rfl⟩, rfl, rfl, x, rfl, hl, hx, ?_⟩
    rw [if_neg]
    have h1 := val_lt hz
    rw [hzl] at h1
    have : over = false := by assumption
    subst this
    subst c
    simp; omega
  · refine ⟨[0], [(0, ringOb n n0)], .d (nat zs), ⟨rfl, ⟨⟨by decide, rfl⟩, trivial⟩, rfl⟩, rfl, rfl, zs, rfl, by rw [hzl, hl], hz, ?_⟩
    rw [if_pos (.inl (by assumption)), ← hl, mod_of hz hzl hv]

theorem f28o (n : List Int) (n0 : Int) (x : List Int) (hn : wfl n) (hx : wfl x) (hbn : bad n = false) (hl : x.length = n.length) (hv : val x < val n) :
    CSpec Tryd.prog 58 [.optr 0 0, .d (nat x)] [(0, ringOb n n0)] 1 (fun st nx r => st = [(0, ringOb n n0)] ∧ nx = 1 ∧ ∃ z, r = .d (nat z) ∧ z.length = n.length ∧ wfl z ∧ val z = (2 * val x) % val n) := by
  have hbx : bad x = false := by unfold bad at hbn ⊢; rw [hl]; exact hbn
  refine CSpec.ends (CSpec.of_awp told41o [] Tryd.func58 rfl (by decide) (Nat.le_of_ble_eq_true rfl) fun _w0 _S0 _E0 _B0 => ?_)
  ((conv => whnf); repeat' (first | (refine And.intro ?_ ?_; (focus (first | rfl | decide | assumption | omega | decide +kernel | exact ⟨rfl, rfl⟩ | exact ⟨rfl, rfl, rfl, rfl⟩ | exact fun h => Bool.noConfusion h | exact fun _ => rfl | exact Nat.le_of_ble_eq_true rfl | (simp only [List.length_map, List.length_append, List.length_replicate, List.length_take, List.length_drop, List.length_set, List.length_cons, List.length_nil]; omega))); (conv => whnf)) | ((refine And.intro ?_ ?_ <;> intro _h); all_goals ((first | replace _h := of_decide_eq_true _h | replace _h := of_decide_eq_false _h | skip); (try simp only [Bool.not_eq_true', Bool.not_eq_false', Bool.not_true, Bool.not_false, decide_eq_true_eq, decide_eq_false_iff_not] at _h); (try (guard_hyp _h : True; clear _h)); first | done | contradiction | exact absurd ((Eq.symm _h).trans (show _ = true by assumption)) (by decide) | exact absurd ((Eq.symm _h).trans (show _ = false by assumption)) (by decide) | (conv => whnf))) | (intro _h; ((first | replace _h := of_decide_eq_true _h | replace _h := of_decide_eq_false _h | skip); (try simp only [Bool.not_eq_true', Bool.not_eq_false', Bool.not_true, Bool.not_false, decide_eq_true_eq, decide_eq_false_iff_not] at _h); (try (guard_hyp _h : True; clear _h)); first | done | contradiction | exact absurd ((Eq.symm _h).trans (show _ = true by assumption)) (by decide) | exact absurd ((Eq.symm _h).trans (show _ = false by assumption)) (by decide) | (conv => whnf)))))
  refine acallI (f40 x x hx hx) rfl fun r hr => ?_
  rw [if_neg (by simp [hbx])] at hr
  obtain ⟨zs, c, rfl, hzl, hz, hc, hvz⟩ := hr
  ((conv => whnf); repeat' (first | (refine And.intro ?_ ?_; (focus (first | rfl | decide | assumption | omega | decide +kernel | exact ⟨rfl, rfl⟩ | exact ⟨rfl, rfl, rfl, rfl⟩ | exact fun h => Bool.noConfusion h | exact fun _ => rfl | exact Nat.le_of_ble_eq_true rfl | (simp only [List.length_map, List.length_append, List.length_replicate, List.length_take, List.length_drop, List.length_set, List.length_cons, List.length_nil]; omega))); (conv => whnf)) | ((refine And.intro ?_ ?_ <;> intro _h); all_goals ((first | replace _h := of_decide_eq_true _h | replace _h := of_decide_eq_false _h | skip); (try simp only [Bool.not_eq_true', Bool.not_eq_false', Bool.not_true, Bool.not_false, decide_eq_true_eq, decide_eq_false_iff_not] at _h); (try (guard_hyp _h : True; clear _h)); first | done | contradiction | exact absurd ((Eq.symm _h).trans (show _ = true by assumption)) (by decide) | exact absurd ((Eq.symm _h).trans (show _ = false by assumption)) (by decide) | (conv => whnf))) | (intro _h; ((first | replace _h := of_decide_eq_true _h | replace _h := of_decide_eq_false _h | skip); (try simp only [Bool.not_eq_true', Bool.not_eq_false', Bool.not_true, Bool.not_false, decide_eq_true_eq, decide_eq_false_iff_not] at _h); (try (guard_hyp _h : True; clear _h)); first | done | contradiction | exact absurd ((Eq.symm _h).trans (show _ = true by assumption)) (by decide) | exact absurd ((Eq.symm _h).trans (show _ = false by assumption)) (by decide) | (conv => whnf)))))
  refine acall [0] (f41o n n0 zs (decide (c = 1)) hn hz hbn (by omega)) rfl ⟨⟨by decide, rfl⟩, trivial⟩ rfl (fun h => Bool.noConfusion h) fun st nx r hr => ?_
  obtain ⟨rfl, rfl, z, rfl, hz1, hz2, hz3⟩ := hr
  ((conv => whnf); repeat' (first | (refine And.intro ?_ ?_; (focus (first | rfl | decide | assumption | omega | decide +kernel | exact ⟨rfl, rfl⟩ | exact ⟨rfl, rfl, rfl, rfl⟩ | exact fun h => Bool.noConfusion h | exact fun _ => rfl | exact Nat.le_of_ble_eq_true rfl | (simp only [List.length_map, List.length_append, List.length_replicate, List.length_take, List.length_drop, List.length_set, List.length_cons, List.length_nil]; omega))); (conv => whnf)) | ((refine And.intro ?_ ?_ <;> intro _h); all_goals ((first | replace _h := of_decide_eq_true _h | replace _h := of_decide_eq_false _h | skip); (try simp only [Bool.not_eq_true', Bool.not_eq_false', Bool.not_true, Bool.not_false, decide_eq_true_eq, decide_eq_false_iff_not] at _h); (try (guard_hyp _h : True; clear _h)); first | done | contradiction | exact absurd ((Eq.symm _h).trans (show _ = true by assumption)) (by decide) | exact absurd ((Eq.symm _h).trans (show _ = false by assumption)) (by decide) | (conv => whnf))) | (intro _h; ((first | replace _h := of_decide_eq_true _h | replace _h := of_decide_eq_false _h | skip); (try simp only [Bool.not_eq_true', Bool.not_eq_false', Bool.not_true, Bool.not_false, decide_eq_true_eq, decide_eq_false_iff_not] at _h); (try (guard_hyp _h : True; clear _h)); first | done | contradiction | exact absurd ((Eq.symm _h).trans (show _ = true by assumption)) (by decide) | exact absurd ((Eq.symm _h).trans (show _ = false by assumption)) (by decide) | (conv => whnf)))))
  exact ⟨[0], [(0, ringOb n n0)], .d (nat z), ⟨rfl, ⟨⟨by decide, rfl⟩, trivial⟩, rfl⟩, rfl, rfl, z, rfl, hz1, hz2, dbl hn hx hl hv hzl hz hc hvz hz1 hz2 hz3⟩

/-! ### An odd number's inverse -/
theorem inv_step {m y : Int} (j j' : Nat) (h : (m * y - 1) % 2 ^ j = 0) (h1 : j' ≤ 2 * j) (h2 : j' ≤ 32) :
    (m * ((y * ((2 - (m * y) % 4294967296) % 4294967296)) % 4294967296) - 1) % 2 ^ j' = 0 := by
  have hd : ∀ z : Int, ∃ q, z % 4294967296 = z - 4294967296 * q := fun z => ⟨z / 4294967296, by omega⟩
  obtain ⟨q1, e1⟩ := hd (m * y)
  obtain ⟨q2, e2⟩ := hd (2 - (m * y) % 4294967296)
  obtain ⟨q3, e3⟩ := hd (y * ((2 - (m * y) % 4294967296) % 4294967296))
  obtain ⟨t, ht⟩ : ∃ t, m * y - 1 = 2 ^ j * t := ⟨(m * y - 1) / 2 ^ j, by have := Int.mul_ediv_add_emod (m * y - 1) (2 ^ j); omega⟩
  obtain ⟨a, ha⟩ : ∃ a : Nat, 2 * j = j' + a := ⟨2 * j - j', by omega⟩
  obtain ⟨b, hb⟩ : ∃ b : Nat, 32 = j' + b := ⟨32 - j', by omega⟩
  have p1 : (2 : Int) ^ j * 2 ^ j = 2 ^ j' * 2 ^ a := by rw [← Int.pow_add, ← Int.pow_add, ← ha]; congr 1; omega
  have p2 : (4294967296 : Int) = 2 ^ j' * 2 ^ b := by rw [← Int.pow_add, ← hb]; rfl
  rw [e3, e2, e1]
  generalize (2 : Int) ^ j = P at *
  generalize (2 : Int) ^ j' = R at *
  generalize (2 : Int) ^ a = A at *
  generalize (2 : Int) ^ b = B at *
  generalize (4294967296 : Int) = W at *
  have : m * (y * (2 - (m * y - W * q1) - W * q2) - W * q3) - 1 = R * (-(A * t * t) + B * (m * y * q1 - m * y * q2 - m * q3)) := by
    have hm : m * y = 1 + P * t := by omega
    have e : m * (y * (2 - (m * y - W * q1) - W * q2) - W * q3) - 1 = (m * y) * (2 - (m * y)) - 1 + W * (m * y * q1 - m * y * q2 - m * q3) := by grind
    rw [e, p2, hm]
    have e4 : (1 + P * t) * (2 - (1 + P * t)) - 1 = -(P * P * (t * t)) := by grind
    rw [e4, p1]
    grind
  rw [this, Int.mul_emod_right]

def jj (k : Nat) : Nat := [3, 6, 12, 24, 32, 32].getD k 0
theorem jj_step {k : Nat} (h : k < 5) : jj (k + 1) ≤ 2 * jj k ∧ jj (k + 1) ≤ 32 := by
  have : ∀ k : Fin 5, jj (k.val + 1) ≤ 2 * jj k.val ∧ jj (k.val + 1) ≤ 32 := by decide
  exact this ⟨k, h⟩

def told11 : AW.Told := ⟨fun f => f == 58, fun r i => if r == 10 && i == 4 then [42] else if r == 13 && i == 0 then [6] else [], fun _ => .done⟩

theorem odd_sq {m : Int} (h : m % 2 = 1) : (m * m - 1) % 2 ^ 3 = 0 := by
  obtain ⟨k, rfl⟩ : ∃ k, m = 2 * k + 1 := ⟨m / 2, by omega⟩
  have e : (2 * k + 1) * (2 * k + 1) - 1 = 4 * (k * (k + 1)) := by grind
  obtain ⟨j, hj⟩ : ∃ j, k * (k + 1) = 2 * j := by
    rcases (show k % 2 = 0 ∨ k % 2 = 1 by omega) with h | h
    · exact ⟨(k / 2) * (k + 1), by have : k = 2 * (k / 2) := by omega
                                   generalize k / 2 = q at *; subst this; grind⟩
    · exact ⟨k * ((k + 1) / 2), by have : k + 1 = 2 * ((k + 1) / 2) := by omega
                                   generalize (k + 1) / 2 = q at *; rw [this]; grind⟩
  rw [e, hj]
  omega

theorem two_small {n : List Int} (hn : wfl n) : blen (val n).toNat < 2 ↔ val n < 2 := by
  have := blen_le (val n).toNat 1
  have := val_nonneg hn
  omega

theorem double_pow {x N : Int} {k : Nat} (h : x = 2 ^ k % N) : 2 * x % N = 2 ^ (k + 1) % N := by
  subst h
  rw [Int.pow_succ, Int.mul_comm, Int.mul_emod, Int.emod_emod_of_dvd _ (Int.dvd_refl _), ← Int.mul_emod]

theorem f11 (n : List Int) (hn : wfl n) : Imm Tryd.prog 25 [.d (nat n)] (fun r =>
    if n.length < 1 ∨ 128 < n.length then r = .tup [.d .nilp, i64 24]
    else if n.getD 0 0 % 2 = 0 ∨ val n < 2 then r = .tup [.d .nilp, i64 12]
    else ∃ n0 rr, r = .tup [.d (ringD n n0 rr), i64 0] ∧ Ring n n0 rr) := by
  have h00 := hn.get 0
  have ht : (n.getD 0 0).tmod 2 = n.getD 0 0 % 2 := Int.tmod_eq_emod_of_nonneg h00.1
  (refine Imm.of_awp told11 [5] Tryd.func25 rfl (by decide) (Nat.le_of_ble_eq_true rfl) ?_; intro _w0 _S0 _E0 _B0; ((conv => whnf); repeat' (first | (refine And.intro ?_ ?_; (focus (first | rfl | decide | assumption | omega | decide +kernel | exact ⟨rfl, rfl⟩ | exact ⟨rfl, rfl, rfl, rfl⟩ | exact fun h => Bool.noConfusion h | exact fun _ => rfl | exact Nat.le_of_ble_eq_true rfl | (simp only [List.length_map, List.length_append, List.length_replicate, List.length_take, List.length_drop, List.length_set, List.length_cons, List.length_nil]; omega))); (conv => whnf)) | ((refine And.intro ?_ ?_ <;> intro _h); all_goals ((first | replace _h := of_decide_eq_true _h | replace _h := of_decide_eq_false _h | skip); (try simp only [Bool.not_eq_true', Bool.not_eq_false', Bool.not_true, Bool.not_false, decide_eq_true_eq, decide_eq_false_iff_not] at _h); (try (guard_hyp _h : True; clear _h)); first | done | contradiction | exact absurd ((Eq.symm _h).trans (show _ = true by assumption)) (by decide) | exact absurd ((Eq.symm _h).trans (show _ = false by assumption)) (by decide) | (conv => whnf))) | (intro _h; ((first | replace _h := of_decide_eq_true _h | replace _h := of_decide_eq_false _h | skip); (try simp only [Bool.not_eq_true', Bool.not_eq_false', Bool.not_true, Bool.not_false, decide_eq_true_eq, decide_eq_false_iff_not] at _h); (try (guard_hyp _h : True; clear _h)); first | done | contradiction | exact absurd ((Eq.symm _h).trans (show _ = true by assumption)) (by decide) | exact absurd ((Eq.symm _h).trans (show _ = false by assumption)) (by decide) | (conv => whnf))))))
  · exact Ends.imm rfl (by rw [if_pos (.inr (by omega))])
  · rename_i h1 h2 _ _
    have hlen : ¬ (n.length < 1 ∨ 128 < n.length) := by omega
    have hbn : bad n = false := by unfold bad; rw [Bool.or_eq_false_iff, decide_eq_false_iff_not, decide_eq_false_iff_not]; omega
    have hne : ¬ (n.getD 0 0 % 2 = 0) := by rw [← ht]; exact _h
    refine acallI (f24 n hn) rfl fun r hr => ?_
    rw [if_neg (by simp [hbn])] at hr
    subst hr
    have h2s := two_small hn
    ((conv => whnf); repeat' (first | (refine And.intro ?_ ?_; (focus (first | rfl | decide | assumption | omega | decide +kernel | exact ⟨rfl, rfl⟩ | exact ⟨rfl, rfl, rfl, rfl⟩ | exact fun h => Bool.noConfusion h | exact fun _ => rfl | exact Nat.le_of_ble_eq_true rfl | (simp only [List.length_map, List.length_append, List.length_replicate, List.length_take, List.length_drop, List.length_set, List.length_cons, List.length_nil]; omega))); (conv => whnf)) | ((refine And.intro ?_ ?_ <;> intro _h); all_goals ((first | replace _h := of_decide_eq_true _h | replace _h := of_decide_eq_false _h | skip); (try simp only [Bool.not_eq_true', Bool.not_eq_false', Bool.not_true, Bool.not_false, decide_eq_true_eq, decide_eq_false_iff_not] at _h); (try (guard_hyp _h : True; clear _h)); first | done | contradiction | exact absurd ((Eq.symm _h).trans (show _ = true by assumption)) (by decide) | exact absurd ((Eq.symm _h).trans (show _ = false by assumption)) (by decide) | (conv => whnf))) | (intro _h; ((first | replace _h := of_decide_eq_true _h | replace _h := of_decide_eq_false _h | skip); (try simp only [Bool.not_eq_true', Bool.not_eq_false', Bool.not_true, Bool.not_false, decide_eq_true_eq, decide_eq_false_iff_not] at _h); (try (guard_hyp _h : True; clear _h)); first | done | contradiction | exact absurd ((Eq.symm _h).trans (show _ = true by assumption)) (by decide) | exact absurd ((Eq.symm _h).trans (show _ = false by assumption)) (by decide) | (conv => whnf)))))
    · exact Ends.imm rfl (by rw [if_neg hlen, if_pos (.inr (by omega))])
    · rename_i _ hbl
      have hv : ¬ val n < 2 := by omega
      have hodd : n.getD 0 0 % 2 = 1 := by omega
      refine aloop (T := told11) (ι := Nat × Int) (fun p => [(0, .d (nat n)), (4, u32 p.2), (30, i64 p.1)]) (fun _ => []) 66 0 (fun p => 5 - p.1) (fun p => p.1 ≤ 5 ∧ (0 ≤ p.2 ∧ p.2 < 4294967296) ∧ (n.getD 0 0 * p.2 - 1) % 2 ^ jj p.1 = 0)
        ⟨(0, n.getD 0 0), [], rfl, ⟨by omega, h00, odd_sq hodd⟩, by (refine ⟨rfl, rfl, ?_, ?_⟩ <;> repeat' (first | exact True.intro | rfl | decide | (refine And.intro ?_ ?_)))⟩ ?_
      intro ⟨k, y⟩ ⟨hk, hy, hinv⟩
      dsimp only at hk hy hinv ⊢
      ((conv => whnf); repeat' (first | (refine And.intro ?_ ?_; (focus (first | rfl | decide | assumption | omega | decide +kernel | exact ⟨rfl, rfl⟩ | exact ⟨rfl, rfl, rfl, rfl⟩ | exact fun h => Bool.noConfusion h | exact fun _ => rfl | exact Nat.le_of_ble_eq_true rfl | (simp only [List.length_map, List.length_append, List.length_replicate, List.length_take, List.length_drop, List.length_set, List.length_cons, List.length_nil]; omega))); (conv => whnf)) | ((refine And.intro ?_ ?_ <;> intro _h); all_goals ((first | replace _h := of_decide_eq_true _h | replace _h := of_decide_eq_false _h | skip); (try simp only [Bool.not_eq_true', Bool.not_eq_false', Bool.not_true, Bool.not_false, decide_eq_true_eq, decide_eq_false_iff_not] at _h); (try (guard_hyp _h : True; clear _h)); first | done | contradiction | exact absurd ((Eq.symm _h).trans (show _ = true by assumption)) (by decide) | exact absurd ((Eq.symm _h).trans (show _ = false by assumption)) (by decide) | (conv => whnf))) | (intro _h; ((first | replace _h := of_decide_eq_true _h | replace _h := of_decide_eq_false _h | skip); (try simp only [Bool.not_eq_true', Bool.not_eq_false', Bool.not_true, Bool.not_false, decide_eq_true_eq, decide_eq_false_iff_not] at _h); (try (guard_hyp _h : True; clear _h)); first | done | contradiction | exact absurd ((Eq.symm _h).trans (show _ = true by assumption)) (by decide) | exact absurd ((Eq.symm _h).trans (show _ = false by assumption)) (by decide) | (conv => whnf)))))
      · have hst := inv_step (jj k) (jj (k + 1)) hinv (jj_step (by omega)).1 (jj_step (by omega)).2
        refine ⟨(k + 1, (y * ((2 - (n.getD 0 0 * y) % 4294967296) % 4294967296)) % 4294967296), [], by dsimp only; omega, ⟨by dsimp only; omega, by dsimp only; omega, hst⟩, rfl, ?_⟩
        (refine ⟨rfl, rfl, ?_, ?_⟩ <;> repeat' (first | exact True.intro | rfl | decide | (refine And.intro ?_ ?_)))
        refine di ?_
        rw [wrap_i64 (by omega) (by omega)]; rfl
      · have hk5 : k = 5 := by omega
        subst hk5
        refine acall [] (f27 n (by intro e; subst e; simp at hlen) (by omega)) rfl trivial rfl (fun h => rfl) fun st nx r hr => ?_
        obtain ⟨rfl, rfl, rfl⟩ := hr
        ((conv => whnf); repeat' (first | (refine And.intro ?_ ?_; (focus (first | rfl | decide | assumption | omega | decide +kernel | exact ⟨rfl, rfl⟩ | exact ⟨rfl, rfl, rfl, rfl⟩ | exact fun h => Bool.noConfusion h | exact fun _ => rfl | exact Nat.le_of_ble_eq_true rfl | (simp only [List.length_map, List.length_append, List.length_replicate, List.length_take, List.length_drop, List.length_set, List.length_cons, List.length_nil]; omega))); (conv => whnf)) | ((refine And.intro ?_ ?_ <;> intro _h); all_goals ((first | replace _h := of_decide_eq_true _h | replace _h := of_decide_eq_false _h | skip); (try simp only [Bool.not_eq_true', Bool.not_eq_false', Bool.not_true, Bool.not_false, decide_eq_true_eq, decide_eq_false_iff_not] at _h); (try (guard_hyp _h : True; clear _h)); first | done | contradiction | exact absurd ((Eq.symm _h).trans (show _ = true by assumption)) (by decide) | exact absurd ((Eq.symm _h).trans (show _ = false by assumption)) (by decide) | (conv => whnf))) | (intro _h; ((first | replace _h := of_decide_eq_true _h | replace _h := of_decide_eq_false _h | skip); (try simp only [Bool.not_eq_true', Bool.not_eq_false', Bool.not_true, Bool.not_false, decide_eq_true_eq, decide_eq_false_iff_not] at _h); (try (guard_hyp _h : True; clear _h)); first | done | contradiction | exact absurd ((Eq.symm _h).trans (show _ = true by assumption)) (by decide) | exact absurd ((Eq.symm _h).trans (show _ = false by assumption)) (by decide) | (conv => whnf)))))
        · have hn0 : (0 : Int) ≤ (0 - y) % 4294967296 ∧ (0 - y) % 4294967296 < 4294967296 := by omega
          obtain ⟨n0, en0⟩ : ∃ n0, n0 = (0 - y) % 4294967296 := ⟨_, rfl⟩
          refine aloop (T := told11) (ι := Nat × List Int) (fun p => [(0, .d (nat n)), (5, .optr 0 0), (6, .d (nat p.2)), (54, i64 ((64 * n.length : Nat) : Int)), (55, i64 p.1)]) (fun _ => [(0, ringOb n n0)]) 66 1
            (fun p => 64 * n.length - p.1) (fun p => p.1 ≤ 64 * n.length ∧ p.2.length = n.length ∧ wfl p.2 ∧ val p.2 = 2 ^ p.1 % val n)
            ⟨(0, oneL n.length), [1], rfl, ⟨by omega, oneL_len _, oneL_wf _, by rw [oneL_val (by omega)]; simp; rw [Int.emod_eq_of_lt] <;> omega⟩, by
              (refine ⟨rfl, rfl, ?_, ?_⟩ <;> repeat' (first | exact True.intro | rfl | decide | (refine And.intro ?_ ?_)))
              · refine di ?_
                rw [wrap_i64 (by omega) (by omega)]; simp
              · rw [en0]; rfl⟩ ?_
          intro ⟨k, x⟩ ⟨hk2, hxl, hx, hxv⟩
          dsimp only at hk2 hxl hx hxv ⊢
          have hxlt : val x < val n := by rw [hxv]; exact Int.emod_lt_of_pos _ (by omega)
          ((conv => whnf); repeat' (first | (refine And.intro ?_ ?_; (focus (first | rfl | decide | assumption | omega | decide +kernel | exact ⟨rfl, rfl⟩ | exact ⟨rfl, rfl, rfl, rfl⟩ | exact fun h => Bool.noConfusion h | exact fun _ => rfl | exact Nat.le_of_ble_eq_true rfl | (simp only [List.length_map, List.length_append, List.length_replicate, List.length_take, List.length_drop, List.length_set, List.length_cons, List.length_nil]; omega))); (conv => whnf)) | ((refine And.intro ?_ ?_ <;> intro _h); all_goals ((first | replace _h := of_decide_eq_true _h | replace _h := of_decide_eq_false _h | skip); (try simp only [Bool.not_eq_true', Bool.not_eq_false', Bool.not_true, Bool.not_false, decide_eq_true_eq, decide_eq_false_iff_not] at _h); (try (guard_hyp _h : True; clear _h)); first | done | contradiction | exact absurd ((Eq.symm _h).trans (show _ = true by assumption)) (by decide) | exact absurd ((Eq.symm _h).trans (show _ = false by assumption)) (by decide) | (conv => whnf))) | (intro _h; ((first | replace _h := of_decide_eq_true _h | replace _h := of_decide_eq_false _h | skip); (try simp only [Bool.not_eq_true', Bool.not_eq_false', Bool.not_true, Bool.not_false, decide_eq_true_eq, decide_eq_false_iff_not] at _h); (try (guard_hyp _h : True; clear _h)); first | done | contradiction | exact absurd ((Eq.symm _h).trans (show _ = true by assumption)) (by decide) | exact absurd ((Eq.symm _h).trans (show _ = false by assumption)) (by decide) | (conv => whnf)))))
          · refine acall [0] (f28o n n0 x hn hx hbn hxl hxlt) rfl ⟨⟨by decide, rfl⟩, trivial⟩ rfl (fun h => Bool.noConfusion h) fun st nx r hr => ?_
            obtain ⟨rfl, rfl, z, rfl, hz1, hz2, hz3⟩ := hr
            ((conv => whnf); repeat' (first | (refine And.intro ?_ ?_; (focus (first | rfl | decide | assumption | omega | decide +kernel | exact ⟨rfl, rfl⟩ | exact ⟨rfl, rfl, rfl, rfl⟩ | exact fun h => Bool.noConfusion h | exact fun _ => rfl | exact Nat.le_of_ble_eq_true rfl | (simp only [List.length_map, List.length_append, List.length_replicate, List.length_take, List.length_drop, List.length_set, List.length_cons, List.length_nil]; omega))); (conv => whnf)) | ((refine And.intro ?_ ?_ <;> intro _h); all_goals ((first | replace _h := of_decide_eq_true _h | replace _h := of_decide_eq_false _h | skip); (try simp only [Bool.not_eq_true', Bool.not_eq_false', Bool.not_true, Bool.not_false, decide_eq_true_eq, decide_eq_false_iff_not] at _h); (try (guard_hyp _h : True; clear _h)); first | done | contradiction | exact absurd ((Eq.symm _h).trans (show _ = true by assumption)) (by decide) | exact absurd ((Eq.symm _h).trans (show _ = false by assumption)) (by decide) | (conv => whnf))) | (intro _h; ((first | replace _h := of_decide_eq_true _h | replace _h := of_decide_eq_false _h | skip); (try simp only [Bool.not_eq_true', Bool.not_eq_false', Bool.not_true, Bool.not_false, decide_eq_true_eq, decide_eq_false_iff_not] at _h); (try (guard_hyp _h : True; clear _h)); first | done | contradiction | exact absurd ((Eq.symm _h).trans (show _ = true by assumption)) (by decide) | exact absurd ((Eq.symm _h).trans (show _ = false by assumption)) (by decide) | (conv => whnf)))))
            refine ⟨(k + 1, z), [0], by dsimp only; omega, ⟨by dsimp only; omega, hz1, hz2, by rw [hz3]; exact double_pow hxv⟩, rfl, ?_⟩
            (refine ⟨rfl, rfl, ?_, ?_⟩ <;> repeat' (first | exact True.intro | rfl | decide | (refine And.intro ?_ ?_)))
            refine di ?_
            rw [wrap_i64 (by omega) (by omega)]; rfl
          · have hke : k = 64 * n.length := by omega
            subst hke
            refine Ends.imm rfl ?_
            rw [if_neg hlen, if_neg (by omega)]
            refine ⟨n0, x, rfl, hn, hbn, by omega, ?_, hx, hxl, hxlt, by omega, 2 ^ (64 * n.length) / val n, ?_⟩
            · have e1 : jj 5 = 32 := rfl
              rw [e1] at hinv
              subst en0
              have : (2 : Int) ^ 32 = 4294967296 := rfl
              rw [this] at hinv
              obtain ⟨q, hq⟩ : ∃ q, n.getD 0 0 * y - 1 = 4294967296 * q := ⟨(n.getD 0 0 * y - 1) / 4294967296, by omega⟩
              obtain ⟨p, hp⟩ : ∃ p, (0 - y) % 4294967296 = 0 - y - 4294967296 * p := ⟨(0 - y) / 4294967296, by omega⟩
              rw [hp]
              have : n.getD 0 0 * (0 - y - 4294967296 * p) + 1 = 4294967296 * (-q - n.getD 0 0 * p) := by grind
              rw [this, Int.mul_emod_right]
            · rw [hxv, pw_two, ← Int.pow_add]
              have := Int.emod_add_mul_ediv (2 ^ (64 * n.length)) (val n)
              rw [show 32 * n.length + 32 * n.length = 64 * n.length by omega]
              rw [Int.mul_comm (2 ^ (64 * n.length) / val n)]
              omega
  · exact Ends.imm rfl (by rw [if_neg (by omega), if_pos (.inl (by rw [← ht]; assumption))])
  · exact Ends.imm rfl (by rw [if_pos (.inl (by omega))])
end Go.Proofs.YtniaeiikdgbnfaaDoor.R
