/- Parts R4, M2, R5. No condition of its own. -/
import Derived.Test.YtniaeiikdgbnfaaDoorSD7

namespace Go.Proofs.YtniaeiikdgbnfaaDoor.R
open Go Go.RowKit Go.Proofs Go.Proofs.YtniaeiikdgbnfaaDoor.AW
set_option linter.unusedSectionVars false
variable [Globs]
set_option maxRecDepth 100000
set_option linter.unusedSimpArgs false
set_option linter.unusedVariables false
set_option maxHeartbeats 4000000

theorem f48 (x : Int) : Imm Tryd.prog 127 [u32 x] (fun r => r = bool false) := by
  (refine Imm.of_awp told0 [] Tryd.func127 rfl (by decide) (Nat.le_of_ble_eq_true rfl) ?_; intro _w0 _S0 _E0 _B0; ((conv => whnf); repeat' (first | (refine And.intro ?_ ?_; (focus (first | rfl | decide | assumption | omega | decide +kernel | exact ⟨rfl, rfl⟩ | exact ⟨rfl, rfl, rfl, rfl⟩ | exact fun h => Bool.noConfusion h | exact fun _ => rfl | exact Nat.le_of_ble_eq_true rfl | (simp only [List.length_map, List.length_append, List.length_replicate, List.length_take, List.length_drop, List.length_set, List.length_cons, List.length_nil]; omega))); (conv => whnf)) | ((refine And.intro ?_ ?_ <;> intro _h); all_goals ((first | replace _h := of_decide_eq_true _h | replace _h := of_decide_eq_false _h | skip); (try simp only [Bool.not_eq_true', Bool.not_eq_false', Bool.not_true, Bool.not_false, decide_eq_true_eq, decide_eq_false_iff_not] at _h); (try (guard_hyp _h : True; clear _h)); first | done | contradiction | exact absurd ((Eq.symm _h).trans (show _ = true by assumption)) (by decide) | exact absurd ((Eq.symm _h).trans (show _ = false by assumption)) (by decide) | (conv => whnf))) | (intro _h; ((first | replace _h := of_decide_eq_true _h | replace _h := of_decide_eq_false _h | skip); (try simp only [Bool.not_eq_true', Bool.not_eq_false', Bool.not_true, Bool.not_false, decide_eq_true_eq, decide_eq_false_iff_not] at _h); (try (guard_hyp _h : True; clear _h)); first | done | contradiction | exact absurd ((Eq.symm _h).trans (show _ = true by assumption)) (by decide) | exact absurd ((Eq.symm _h).trans (show _ = false by assumption)) (by decide) | (conv => whnf))))))
  exact Ends.imm rfl (by simp)

/-- The order of two numbers. -/
def sgn (x y : Int) : Int := if x < y then -1 else if y < x then 1 else 0

theorem f36 (x y : Int) : Imm Tryd.prog 113 [u32 x, u32 y] (fun r => r = i64 (sgn x y)) := by
  (refine Imm.of_awp told0 [] Tryd.func113 rfl (by decide) (Nat.le_of_ble_eq_true rfl) ?_; intro _w0 _S0 _E0 _B0; ((conv => whnf); repeat' (first | (refine And.intro ?_ ?_; (focus (first | rfl | decide | assumption | omega | decide +kernel | exact ⟨rfl, rfl⟩ | exact ⟨rfl, rfl, rfl, rfl⟩ | exact fun h => Bool.noConfusion h | exact fun _ => rfl | exact Nat.le_of_ble_eq_true rfl | (simp only [List.length_map, List.length_append, List.length_replicate, List.length_take, List.length_drop, List.length_set, List.length_cons, List.length_nil]; omega))); (conv => whnf)) | ((refine And.intro ?_ ?_ <;> intro _h); all_goals ((first | replace _h := of_decide_eq_true _h | replace _h := of_decide_eq_false _h | skip); (try simp only [Bool.not_eq_true', Bool.not_eq_false', Bool.not_true, Bool.not_false, decide_eq_true_eq, decide_eq_false_iff_not] at _h); (try (guard_hyp _h : True; clear _h)); first | done | contradiction | exact absurd ((Eq.symm _h).trans (show _ = true by assumption)) (by decide) | exact absurd ((Eq.symm _h).trans (show _ = false by assumption)) (by decide) | (conv => whnf))) | (intro _h; ((first | replace _h := of_decide_eq_true _h | replace _h := of_decide_eq_false _h | skip); (try simp only [Bool.not_eq_true', Bool.not_eq_false', Bool.not_true, Bool.not_false, decide_eq_true_eq, decide_eq_false_iff_not] at _h); (try (guard_hyp _h : True; clear _h)); first | done | contradiction | exact absurd ((Eq.symm _h).trans (show _ = true by assumption)) (by decide) | exact absurd ((Eq.symm _h).trans (show _ = false by assumption)) (by decide) | (conv => whnf))))))
  refine acallI (f48 x) rfl fun r hr => ?_
  subst hr
  ((conv => whnf); repeat' (first | (refine And.intro ?_ ?_; (focus (first | rfl | decide | assumption | omega | decide +kernel | exact ⟨rfl, rfl⟩ | exact ⟨rfl, rfl, rfl, rfl⟩ | exact fun h => Bool.noConfusion h | exact fun _ => rfl | exact Nat.le_of_ble_eq_true rfl | (simp only [List.length_map, List.length_append, List.length_replicate, List.length_take, List.length_drop, List.length_set, List.length_cons, List.length_nil]; omega))); (conv => whnf)) | ((refine And.intro ?_ ?_ <;> intro _h); all_goals ((first | replace _h := of_decide_eq_true _h | replace _h := of_decide_eq_false _h | skip); (try simp only [Bool.not_eq_true', Bool.not_eq_false', Bool.not_true, Bool.not_false, decide_eq_true_eq, decide_eq_false_iff_not] at _h); (try (guard_hyp _h : True; clear _h)); first | done | contradiction | exact absurd ((Eq.symm _h).trans (show _ = true by assumption)) (by decide) | exact absurd ((Eq.symm _h).trans (show _ = false by assumption)) (by decide) | (conv => whnf))) | (intro _h; ((first | replace _h := of_decide_eq_true _h | replace _h := of_decide_eq_false _h | skip); (try simp only [Bool.not_eq_true', Bool.not_eq_false', Bool.not_true, Bool.not_false, decide_eq_true_eq, decide_eq_false_iff_not] at _h); (try (guard_hyp _h : True; clear _h)); first | done | contradiction | exact absurd ((Eq.symm _h).trans (show _ = true by assumption)) (by decide) | exact absurd ((Eq.symm _h).trans (show _ = false by assumption)) (by decide) | (conv => whnf)))))
  refine acallI (f48 y) rfl fun r hr => ?_
  subst hr
  ((conv => whnf); repeat' (first | (refine And.intro ?_ ?_; (focus (first | rfl | decide | assumption | omega | decide +kernel | exact ⟨rfl, rfl⟩ | exact ⟨rfl, rfl, rfl, rfl⟩ | exact fun h => Bool.noConfusion h | exact fun _ => rfl | exact Nat.le_of_ble_eq_true rfl | (simp only [List.length_map, List.length_append, List.length_replicate, List.length_take, List.length_drop, List.length_set, List.length_cons, List.length_nil]; omega))); (conv => whnf)) | ((refine And.intro ?_ ?_ <;> intro _h); all_goals ((first | replace _h := of_decide_eq_true _h | replace _h := of_decide_eq_false _h | skip); (try simp only [Bool.not_eq_true', Bool.not_eq_false', Bool.not_true, Bool.not_false, decide_eq_true_eq, decide_eq_false_iff_not] at _h); (try (guard_hyp _h : True; clear _h)); first | done | contradiction | exact absurd ((Eq.symm _h).trans (show _ = true by assumption)) (by decide) | exact absurd ((Eq.symm _h).trans (show _ = false by assumption)) (by decide) | (conv => whnf))) | (intro _h; ((first | replace _h := of_decide_eq_true _h | replace _h := of_decide_eq_false _h | skip); (try simp only [Bool.not_eq_true', Bool.not_eq_false', Bool.not_true, Bool.not_false, decide_eq_true_eq, decide_eq_false_iff_not] at _h); (try (guard_hyp _h : True; clear _h)); first | done | contradiction | exact absurd ((Eq.symm _h).trans (show _ = true by assumption)) (by decide) | exact absurd ((Eq.symm _h).trans (show _ = false by assumption)) (by decide) | (conv => whnf)))))
  · refine Ends.imm rfl (di ?_)
    unfold sgn; rw [if_pos (by assumption)]
  · refine Ends.imm rfl (di ?_)
    unfold sgn; rw [if_neg (by assumption), if_pos (by assumption)]
  · refine Ends.imm rfl (di ?_)
    unfold sgn; rw [if_neg (by assumption), if_neg (by assumption)]

theorem val_step (xs : List Int) : val xs = xs.getD 0 0 + 4294967296 * val xs.tail := by
  cases xs with
  | nil => simp [val]
  | cons x xs => simp [val]
theorem getD_tail (xs : List Int) (j : Nat) : xs.tail.getD j 0 = xs.getD (j + 1) 0 := by
  cases xs with
  | nil => simp
  | cons x xs => simp
theorem val_ext : ∀ (n : Nat) (xs ys : List Int), xs.length ≤ n → ys.length ≤ n → (∀ j, xs.getD j 0 = ys.getD j 0) → val xs = val ys
  | 0, xs, ys, h1, h2, _ => by
    rw [List.eq_nil_of_length_eq_zero (Nat.le_zero.1 h1), List.eq_nil_of_length_eq_zero (Nat.le_zero.1 h2)]
  | n + 1, xs, ys, h1, h2, h => by
    rw [val_step xs, val_step ys, h 0, val_ext n xs.tail ys.tail (by simp; omega) (by simp; omega) fun j => by rw [getD_tail, getD_tail, h]]
theorem wfl.tail {xs : List Int} (h : wfl xs) : wfl xs.tail := fun x hx => h x (List.mem_of_mem_tail hx)
theorem cmp_lt : ∀ (k : Nat) (xs ys : List Int), wfl xs → wfl ys → xs.getD k 0 < ys.getD k 0 → (∀ j, k < j → xs.getD j 0 = ys.getD j 0) → val xs < val ys
  | 0, xs, ys, hx, hy, h, he => by
    rw [val_step xs, val_step ys, val_ext (max xs.length ys.length) xs.tail ys.tail (by simp; omega) (by simp; omega) fun j => by rw [getD_tail, getD_tail, he _ (by omega)]]
    omega
  | k + 1, xs, ys, hx, hy, h, he => by
    have ih := cmp_lt k xs.tail ys.tail hx.tail hy.tail (by rw [getD_tail, getD_tail]; exact h) fun j hj => by rw [getD_tail, getD_tail, he _ (by omega)]
    rw [val_step xs, val_step ys]
    have := hx.get 0
    have := hy.get 0
    omega

theorem f23 (xs ys : List Int) (hx : wfl xs) (hy : wfl ys) (hbx : bad xs = false) (hby : bad ys = false) : Imm Tryd.prog 91 [.d (nat xs), .d (nat ys)] (fun r => r = i64 (sgn (val xs) (val ys))) := by
  (refine Imm.of_awp (⟨fun _ => false, fun r i => if r == 1 && i == 3 then [9] else [], fun _ => .done⟩ : AW.Told) [] Tryd.func91 rfl (by decide) (Nat.le_of_ble_eq_true rfl) ?_; intro _w0 _S0 _E0 _B0; ((conv => whnf); repeat' (first | (refine And.intro ?_ ?_; (focus (first | rfl | decide | assumption | omega | decide +kernel | exact ⟨rfl, rfl⟩ | exact ⟨rfl, rfl, rfl, rfl⟩ | exact fun h => Bool.noConfusion h | exact fun _ => rfl | exact Nat.le_of_ble_eq_true rfl | (simp only [List.length_map, List.length_append, List.length_replicate, List.length_take, List.length_drop, List.length_set, List.length_cons, List.length_nil]; omega))); (conv => whnf)) | ((refine And.intro ?_ ?_ <;> intro _h); all_goals ((first | replace _h := of_decide_eq_true _h | replace _h := of_decide_eq_false _h | skip); (try simp only [Bool.not_eq_true', Bool.not_eq_false', Bool.not_true, Bool.not_false, decide_eq_true_eq, decide_eq_false_iff_not] at _h); (try (guard_hyp _h : True; clear _h)); first | done | contradiction | exact absurd ((Eq.symm _h).trans (show _ = true by assumption)) (by decide) | exact absurd ((Eq.symm _h).trans (show _ = false by assumption)) (by decide) | (conv => whnf))) | (intro _h; ((first | replace _h := of_decide_eq_true _h | replace _h := of_decide_eq_false _h | skip); (try simp only [Bool.not_eq_true', Bool.not_eq_false', Bool.not_true, Bool.not_false, decide_eq_true_eq, decide_eq_false_iff_not] at _h); (try (guard_hyp _h : True; clear _h)); first | done | contradiction | exact absurd ((Eq.symm _h).trans (show _ = true by assumption)) (by decide) | exact absurd ((Eq.symm _h).trans (show _ = false by assumption)) (by decide) | (conv => whnf))))))
  refine acallI (f35 [xs, ys]) rfl fun r hr => ?_
  subst hr
  ((conv => whnf); repeat' (first | (refine And.intro ?_ ?_; (focus (first | rfl | decide | assumption | omega | decide +kernel | exact ⟨rfl, rfl⟩ | exact ⟨rfl, rfl, rfl, rfl⟩ | exact fun h => Bool.noConfusion h | exact fun _ => rfl | exact Nat.le_of_ble_eq_true rfl | (simp only [List.length_map, List.length_append, List.length_replicate, List.length_take, List.length_drop, List.length_set, List.length_cons, List.length_nil]; omega))); (conv => whnf)) | ((refine And.intro ?_ ?_ <;> intro _h); all_goals ((first | replace _h := of_decide_eq_true _h | replace _h := of_decide_eq_false _h | skip); (try simp only [Bool.not_eq_true', Bool.not_eq_false', Bool.not_true, Bool.not_false, decide_eq_true_eq, decide_eq_false_iff_not] at _h); (try (guard_hyp _h : True; clear _h)); first | done | contradiction | exact absurd ((Eq.symm _h).trans (show _ = true by assumption)) (by decide) | exact absurd ((Eq.symm _h).trans (show _ = false by assumption)) (by decide) | (conv => whnf))) | (intro _h; ((first | replace _h := of_decide_eq_true _h | replace _h := of_decide_eq_false _h | skip); (try simp only [Bool.not_eq_true', Bool.not_eq_false', Bool.not_true, Bool.not_false, decide_eq_true_eq, decide_eq_false_iff_not] at _h); (try (guard_hyp _h : True; clear _h)); first | done | contradiction | exact absurd ((Eq.symm _h).trans (show _ = true by assumption)) (by decide) | exact absurd ((Eq.symm _h).trans (show _ = false by assumption)) (by decide) | (conv => whnf)))))
  · simp [hbx, hby] at _h
  · have b1 := hbx
    have b2 := hby
    unfold bad at b1 b2
    simp at b1 b2
    refine aloop (T := told0) (ι := Nat) (fun k => [(0, .d (nat xs)), (1, .d (nat ys)), (5, i64 ((k : Int) - 1))]) (fun _ => []) 32 0
      (fun k => k) (fun k => k ≤ 256 ∧ ∀ j, k ≤ j → xs.getD j 0 = ys.getD j 0)
      ⟨max xs.length ys.length, [], rfl, ⟨by omega, fun j hj => ?_⟩, by
        (refine ⟨rfl, rfl, ?_, ?_⟩ <;> repeat' (first | exact True.intro | rfl | decide | (refine And.intro ?_ ?_)))
        refine di ?_
        rw [wrap_i64 (by omega) (by omega)]; omega⟩ ?_
    · rw [List.getD_eq_getElem?_getD, List.getD_eq_getElem?_getD, List.getElem?_eq_none (by omega), List.getElem?_eq_none (by omega)]
    · intro k ⟨hk, he⟩
      ((conv => whnf); repeat' (first | (refine And.intro ?_ ?_; (focus (first | rfl | decide | assumption | omega | decide +kernel | exact ⟨rfl, rfl⟩ | exact ⟨rfl, rfl, rfl, rfl⟩ | exact fun h => Bool.noConfusion h | exact fun _ => rfl | exact Nat.le_of_ble_eq_true rfl | (simp only [List.length_map, List.length_append, List.length_replicate, List.length_take, List.length_drop, List.length_set, List.length_cons, List.length_nil]; omega))); (conv => whnf)) | ((refine And.intro ?_ ?_ <;> intro _h); all_goals ((first | replace _h := of_decide_eq_true _h | replace _h := of_decide_eq_false _h | skip); (try simp only [Bool.not_eq_true', Bool.not_eq_false', Bool.not_true, Bool.not_false, decide_eq_true_eq, decide_eq_false_iff_not] at _h); (try (guard_hyp _h : True; clear _h)); first | done | contradiction | exact absurd ((Eq.symm _h).trans (show _ = true by assumption)) (by decide) | exact absurd ((Eq.symm _h).trans (show _ = false by assumption)) (by decide) | (conv => whnf))) | (intro _h; ((first | replace _h := of_decide_eq_true _h | replace _h := of_decide_eq_false _h | skip); (try simp only [Bool.not_eq_true', Bool.not_eq_false', Bool.not_true, Bool.not_false, decide_eq_true_eq, decide_eq_false_iff_not] at _h); (try (guard_hyp _h : True; clear _h)); first | done | contradiction | exact absurd ((Eq.symm _h).trans (show _ = true by assumption)) (by decide) | exact absurd ((Eq.symm _h).trans (show _ = false by assumption)) (by decide) | (conv => whnf)))))
      · refine acallI (f37 xs ((k : Int) - 1) (by omega)) rfl fun r hr => ?_
        subst hr
        ((conv => whnf); repeat' (first | (refine And.intro ?_ ?_; (focus (first | rfl | decide | assumption | omega | decide +kernel | exact ⟨rfl, rfl⟩ | exact ⟨rfl, rfl, rfl, rfl⟩ | exact fun h => Bool.noConfusion h | exact fun _ => rfl | exact Nat.le_of_ble_eq_true rfl | (simp only [List.length_map, List.length_append, List.length_replicate, List.length_take, List.length_drop, List.length_set, List.length_cons, List.length_nil]; omega))); (conv => whnf)) | ((refine And.intro ?_ ?_ <;> intro _h); all_goals ((first | replace _h := of_decide_eq_true _h | replace _h := of_decide_eq_false _h | skip); (try simp only [Bool.not_eq_true', Bool.not_eq_false', Bool.not_true, Bool.not_false, decide_eq_true_eq, decide_eq_false_iff_not] at _h); (try (guard_hyp _h : True; clear _h)); first | done | contradiction | exact absurd ((Eq.symm _h).trans (show _ = true by assumption)) (by decide) | exact absurd ((Eq.symm _h).trans (show _ = false by assumption)) (by decide) | (conv => whnf))) | (intro _h; ((first | replace _h := of_decide_eq_true _h | replace _h := of_decide_eq_false _h | skip); (try simp only [Bool.not_eq_true', Bool.not_eq_false', Bool.not_true, Bool.not_false, decide_eq_true_eq, decide_eq_false_iff_not] at _h); (try (guard_hyp _h : True; clear _h)); first | done | contradiction | exact absurd ((Eq.symm _h).trans (show _ = true by assumption)) (by decide) | exact absurd ((Eq.symm _h).trans (show _ = false by assumption)) (by decide) | (conv => whnf)))))
        refine acallI (f37 ys ((k : Int) - 1) (by omega)) rfl fun r hr => ?_
        subst hr
        ((conv => whnf); repeat' (first | (refine And.intro ?_ ?_; (focus (first | rfl | decide | assumption | omega | decide +kernel | exact ⟨rfl, rfl⟩ | exact ⟨rfl, rfl, rfl, rfl⟩ | exact fun h => Bool.noConfusion h | exact fun _ => rfl | exact Nat.le_of_ble_eq_true rfl | (simp only [List.length_map, List.length_append, List.length_replicate, List.length_take, List.length_drop, List.length_set, List.length_cons, List.length_nil]; omega))); (conv => whnf)) | ((refine And.intro ?_ ?_ <;> intro _h); all_goals ((first | replace _h := of_decide_eq_true _h | replace _h := of_decide_eq_false _h | skip); (try simp only [Bool.not_eq_true', Bool.not_eq_false', Bool.not_true, Bool.not_false, decide_eq_true_eq, decide_eq_false_iff_not] at _h); (try (guard_hyp _h : True; clear _h)); first | done | contradiction | exact absurd ((Eq.symm _h).trans (show _ = true by assumption)) (by decide) | exact absurd ((Eq.symm _h).trans (show _ = false by assumption)) (by decide) | (conv => whnf))) | (intro _h; ((first | replace _h := of_decide_eq_true _h | replace _h := of_decide_eq_false _h | skip); (try simp only [Bool.not_eq_true', Bool.not_eq_false', Bool.not_true, Bool.not_false, decide_eq_true_eq, decide_eq_false_iff_not] at _h); (try (guard_hyp _h : True; clear _h)); first | done | contradiction | exact absurd ((Eq.symm _h).trans (show _ = true by assumption)) (by decide) | exact absurd ((Eq.symm _h).trans (show _ = false by assumption)) (by decide) | (conv => whnf)))))
        refine acallI (f36 _ _) rfl fun r hr => ?_
        subst hr
        obtain ⟨m, rfl⟩ : ∃ m, k = m + 1 := ⟨k - 1, by omega⟩
        have em : ((m + 1 : Nat) : Int) - 1 = m := by omega
        rw [em, Int.toNat_natCast]
        ((conv => whnf); repeat' (first | (refine And.intro ?_ ?_; (focus (first | rfl | decide | assumption | omega | decide +kernel | exact ⟨rfl, rfl⟩ | exact ⟨rfl, rfl, rfl, rfl⟩ | exact fun h => Bool.noConfusion h | exact fun _ => rfl | exact Nat.le_of_ble_eq_true rfl | (simp only [List.length_map, List.length_append, List.length_replicate, List.length_take, List.length_drop, List.length_set, List.length_cons, List.length_nil]; omega))); (conv => whnf)) | ((refine And.intro ?_ ?_ <;> intro _h); all_goals ((first | replace _h := of_decide_eq_true _h | replace _h := of_decide_eq_false _h | skip); (try simp only [Bool.not_eq_true', Bool.not_eq_false', Bool.not_true, Bool.not_false, decide_eq_true_eq, decide_eq_false_iff_not] at _h); (try (guard_hyp _h : True; clear _h)); first | done | contradiction | exact absurd ((Eq.symm _h).trans (show _ = true by assumption)) (by decide) | exact absurd ((Eq.symm _h).trans (show _ = false by assumption)) (by decide) | (conv => whnf))) | (intro _h; ((first | replace _h := of_decide_eq_true _h | replace _h := of_decide_eq_false _h | skip); (try simp only [Bool.not_eq_true', Bool.not_eq_false', Bool.not_true, Bool.not_false, decide_eq_true_eq, decide_eq_false_iff_not] at _h); (try (guard_hyp _h : True; clear _h)); first | done | contradiction | exact absurd ((Eq.symm _h).trans (show _ = true by assumption)) (by decide) | exact absurd ((Eq.symm _h).trans (show _ = false by assumption)) (by decide) | (conv => whnf)))))
        · refine Ends.imm rfl (di ?_)
          have hgt : ∀ j, m < j → xs.getD j 0 = ys.getD j 0 := fun j hj => he j hj
          have l1 := cmp_lt m xs ys hx hy
          have l2 := cmp_lt m ys xs hy hx
          unfold sgn at _h ⊢
          rcases Int.lt_trichotomy (xs.getD m 0) (ys.getD m 0) with h1 | h1 | h1
          · have := l1 h1 hgt
            rw [if_pos h1, if_pos this]
          · rw [h1] at _h; simp at _h
          · have := l2 h1 fun j hj => (hgt j hj).symm
            rw [if_neg (by omega), if_pos h1, if_neg (by omega), if_pos this]
        · refine ⟨m, [], by omega, ⟨by omega, fun j hj => ?_⟩, rfl, ?_⟩
          · rcases Nat.lt_or_ge m j with h | h
            · exact he j h
            · have : j = m := by omega
              subst this
              unfold sgn at _h
              rcases Int.lt_trichotomy (xs.getD j 0) (ys.getD j 0) with h1 | h1 | h1
              · rw [if_pos h1] at _h; simp at _h
              · exact h1
              · rw [if_neg (by omega), if_pos h1] at _h; simp at _h
          · (refine ⟨rfl, rfl, ?_, ?_⟩ <;> repeat' (first | exact True.intro | rfl | decide | (refine And.intro ?_ ?_)))
            refine di ?_
            rw [wrap_i64 (by omega) (by omega)]
      · refine Ends.imm rfl (di ?_)
        have : k = 0 := by omega
        subst this
        rw [val_ext (max xs.length ys.length) xs ys (by omega) (by omega) fun j => he j (by omega)]
        simp [sgn]

/-- A ring, as the code has it. -/
abbrev ringD (n : List Int) (n0 : Int) (rr : List Int) : D := .ptr (.agg [nat n, .int .u32 n0, nat rr])

theorem mod_of {n x zs : List Int} {c : Int} (hz : wfl zs) (hzl : zs.length = x.length) (hv : val zs - pw x.length * c = val x - val n) : val zs = (val x - val n) % pw x.length := by
  rw [← hv, Int.sub_mul_emod_self_left]
  have h1 := val_lt hz
  rw [hzl] at h1
  exact (Int.emod_eq_of_lt (val_nonneg hz) h1).symm

/-- What 'less' gives. -/
def lessS (n x : List Int) (over : Bool) (z : List Int) : Prop :=
  z.length = n.length ∧ wfl z ∧ (if over = true ∨ val n ≤ val x then val z = (val x - val n) % pw n.length else z = x)

theorem f41 (n : List Int) (n0 : Int) (rr x : List Int) (over : Bool) (hn : wfl n) (hx : wfl x) (hbn : bad n = false) (hl : x.length = n.length) :
    Imm Tryd.prog 88 [.d (ringD n n0 rr), .d (nat x), bool over] (fun r => ∃ z, r = .d (nat z) ∧ lessS n x over z) := by
  have hbx : bad x = false := by unfold bad at hbn ⊢; rw [hl]; exact hbn
  (refine Imm.of_awp told0 [] Tryd.func88 rfl (by decide) (Nat.le_of_ble_eq_true rfl) ?_; intro _w0 _S0 _E0 _B0; ((conv => whnf); repeat' (first | (refine And.intro ?_ ?_; (focus (first | rfl | decide | assumption | omega | decide +kernel | exact ⟨rfl, rfl⟩ | exact ⟨rfl, rfl, rfl, rfl⟩ | exact fun h => Bool.noConfusion h | exact fun _ => rfl | exact Nat.le_of_ble_eq_true rfl | (simp only [List.length_map, List.length_append, List.length_replicate, List.length_take, List.length_drop, List.length_set, List.length_cons, List.length_nil]; omega))); (conv => whnf)) | ((refine And.intro ?_ ?_ <;> intro _h); all_goals ((first | replace _h := of_decide_eq_true _h | replace _h := of_decide_eq_false _h | skip); (try simp only [Bool.not_eq_true', Bool.not_eq_false', Bool.not_true, Bool.not_false, decide_eq_true_eq, decide_eq_false_iff_not] at _h); (try (guard_hyp _h : True; clear _h)); first | done | contradiction | exact absurd ((Eq.symm _h).trans (show _ = true by assumption)) (by decide) | exact absurd ((Eq.symm _h).trans (show _ = false by assumption)) (by decide) | (conv => whnf))) | (intro _h; ((first | replace _h := of_decide_eq_true _h | replace _h := of_decide_eq_false _h | skip); (try simp only [Bool.not_eq_true', Bool.not_eq_false', Bool.not_true, Bool.not_false, decide_eq_true_eq, decide_eq_false_iff_not] at _h); (try (guard_hyp _h : True; clear _h)); first | done | contradiction | exact absurd ((Eq.symm _h).trans (show _ = true by assumption)) (by decide) | exact absurd ((Eq.symm _h).trans (show _ = false by assumption)) (by decide) | (conv => whnf))))))
  refine acallI (f50 x n hx hn) rfl fun r hr => ?_
  rw [if_neg (by simp [hbx, hbn, hl])] at hr
  obtain ⟨zs, c, rfl, hzl, hz, hc, hv⟩ := hr
  ((conv => whnf); repeat' (first | (refine And.intro ?_ ?_; (focus (first | rfl | decide | assumption | omega | decide +kernel | exact ⟨rfl, rfl⟩ | exact ⟨rfl, rfl, rfl, rfl⟩ | exact fun h => Bool.noConfusion h | exact fun _ => rfl | exact Nat.le_of_ble_eq_true rfl | (simp only [List.length_map, List.length_append, List.length_replicate, List.length_take, List.length_drop, List.length_set, List.length_cons, List.length_nil]; omega))); (conv => whnf)) | ((refine And.intro ?_ ?_ <;> intro _h); all_goals ((first | replace _h := of_decide_eq_true _h | replace _h := of_decide_eq_false _h | skip); (try simp only [Bool.not_eq_true', Bool.not_eq_false', Bool.not_true, Bool.not_false, decide_eq_true_eq, decide_eq_false_iff_not] at _h); (try (guard_hyp _h : True; clear _h)); first | done | contradiction | exact absurd ((Eq.symm _h).trans (show _ = true by assumption)) (by decide) | exact absurd ((Eq.symm _h).trans (show _ = false by assumption)) (by decide) | (conv => whnf))) | (intro _h; ((first | replace _h := of_decide_eq_true _h | replace _h := of_decide_eq_false _h | skip); (try simp only [Bool.not_eq_true', Bool.not_eq_false', Bool.not_true, Bool.not_false, decide_eq_true_eq, decide_eq_false_iff_not] at _h); (try (guard_hyp _h : True; clear _h)); first | done | contradiction | exact absurd ((Eq.symm _h).trans (show _ = true by assumption)) (by decide) | exact absurd ((Eq.symm _h).trans (show _ = false by assumption)) (by decide) | (conv => whnf)))))
  all_goals refine Ends.imm rfl ?_
  · refine ⟨zs, rfl, by rw [hzl, hl], hz, ?_⟩
    have : c = 0 := by omega
    subst this
    rw [if_pos (.inr (by have := val_nonneg hz; omega)), ← hl, mod_of hz hzl hv]
  · refine ⟨x, rfl, hl, hx, ?_⟩
    rw [if_neg]
    have h1 := val_lt hz
    rw [hzl] at h1
    have : over = false := by assumption
    subst this
    subst c
    simp; omega
  · refine ⟨zs, rfl, by rw [hzl, hl], hz, ?_⟩
    rw [if_pos (.inl (by assumption)), ← hl, mod_of hz hzl hv]

theorem dbl {n x zs z : List Int} {c : Int} (hn : wfl n) (hx : wfl x) (hl : x.length = n.length) (hv : val x < val n) (hzl : zs.length = x.length) (hz : wfl zs) (hc : c = 0 ∨ c = 1)
    (hvz : val zs + pw x.length * c = val x + val x) (hz1 : z.length = n.length) (hz2 : wfl z)
    (hz3 : if (decide (c = 1)) = true ∨ val n ≤ val zs then val z = (val zs - val n) % pw n.length else z = zs) : val z = (2 * val x) % val n := by
  have h0 := val_nonneg hx
  have h1 := val_lt hz
  have h2 := val_nonneg hz
  have h3 := val_lt hn
  rw [hzl, hl] at h1
  rw [hl] at hvz
  by_cases hbig : val n ≤ 2 * val x
  · have e1 : (2 * val x) % val n = 2 * val x - val n := by
      rw [← Int.sub_emod_right, Int.emod_eq_of_lt] <;> omega
    rw [if_pos] at hz3
    · rw [hz3, e1]
      have : val zs - val n = 2 * val x - val n - pw n.length * c := by omega
      rw [this, Int.sub_mul_emod_self_left, Int.emod_eq_of_lt] <;> omega
    · rcases hc with rfl | rfl
      · right; omega
      · left; simp
  · have hc0 : c = 0 := by
      rcases hc with h | h
      · exact h
      · subst h; have := pw_pos n.length; omega
    subst hc0
    rw [if_neg (by simp; omega)] at hz3
    rw [hz3, Int.emod_eq_of_lt] <;> omega

/-- A copy: new, and the caller's own. -/
theorem f27 (xs : List Int) (hne : xs ≠ []) (hl : xs.length ≤ 1000000) : CSpec Tryd.prog 57 [.d (nat xs)] [] 0 (fun st nx r => st = [(0, .row .u32 79 xs)] ∧ nx = 1 ∧ r = .own 0) := by
  refine CSpec.ends (CSpec.of_awp told0 [] Tryd.func57 rfl (by decide) (Nat.le_of_ble_eq_true rfl) fun _w0 _S0 _E0 _B0 => ?_)
  ((conv => whnf); repeat' (first | (refine And.intro ?_ ?_; (focus (first | rfl | decide | assumption | omega | decide +kernel | exact ⟨rfl, rfl⟩ | exact ⟨rfl, rfl, rfl, rfl⟩ | exact fun h => Bool.noConfusion h | exact fun _ => rfl | exact Nat.le_of_ble_eq_true rfl | (simp only [List.length_map, List.length_append, List.length_replicate, List.length_take, List.length_drop, List.length_set, List.length_cons, List.length_nil]; omega))); (conv => whnf)) | ((refine And.intro ?_ ?_ <;> intro _h); all_goals ((first | replace _h := of_decide_eq_true _h | replace _h := of_decide_eq_false _h | skip); (try simp only [Bool.not_eq_true', Bool.not_eq_false', Bool.not_true, Bool.not_false, decide_eq_true_eq, decide_eq_false_iff_not] at _h); (try (guard_hyp _h : True; clear _h)); first | done | contradiction | exact absurd ((Eq.symm _h).trans (show _ = true by assumption)) (by decide) | exact absurd ((Eq.symm _h).trans (show _ = false by assumption)) (by decide) | (conv => whnf))) | (intro _h; ((first | replace _h := of_decide_eq_true _h | replace _h := of_decide_eq_false _h | skip); (try simp only [Bool.not_eq_true', Bool.not_eq_false', Bool.not_true, Bool.not_false, decide_eq_true_eq, decide_eq_false_iff_not] at _h); (try (guard_hyp _h : True; clear _h)); first | done | contradiction | exact absurd ((Eq.symm _h).trans (show _ = true by assumption)) (by decide) | exact absurd ((Eq.symm _h).trans (show _ = false by assumption)) (by decide) | (conv => whnf)))))
  refine ⟨fun h => absurd h hne, ?_⟩
  ((conv => whnf); repeat' (first | (refine And.intro ?_ ?_; (focus (first | rfl | decide | assumption | omega | decide +kernel | exact ⟨rfl, rfl⟩ | exact ⟨rfl, rfl, rfl, rfl⟩ | exact fun h => Bool.noConfusion h | exact fun _ => rfl | exact Nat.le_of_ble_eq_true rfl | (simp only [List.length_map, List.length_append, List.length_replicate, List.length_take, List.length_drop, List.length_set, List.length_cons, List.length_nil]; omega))); (conv => whnf)) | ((refine And.intro ?_ ?_ <;> intro _h); all_goals ((first | replace _h := of_decide_eq_true _h | replace _h := of_decide_eq_false _h | skip); (try simp only [Bool.not_eq_true', Bool.not_eq_false', Bool.not_true, Bool.not_false, decide_eq_true_eq, decide_eq_false_iff_not] at _h); (try (guard_hyp _h : True; clear _h)); first | done | contradiction | exact absurd ((Eq.symm _h).trans (show _ = true by assumption)) (by decide) | exact absurd ((Eq.symm _h).trans (show _ = false by assumption)) (by decide) | (conv => whnf))) | (intro _h; ((first | replace _h := of_decide_eq_true _h | replace _h := of_decide_eq_false _h | skip); (try simp only [Bool.not_eq_true', Bool.not_eq_false', Bool.not_true, Bool.not_false, decide_eq_true_eq, decide_eq_false_iff_not] at _h); (try (guard_hyp _h : True; clear _h)); first | done | contradiction | exact absurd ((Eq.symm _h).trans (show _ = true by assumption)) (by decide) | exact absurd ((Eq.symm _h).trans (show _ = false by assumption)) (by decide) | (conv => whnf)))))
  refine ⟨by show (0 + xs.length) * 4 ≤ 140737488355328; omega, ?_⟩
  ((conv => whnf); repeat' (first | (refine And.intro ?_ ?_; (focus (first | rfl | decide | assumption | omega | decide +kernel | exact ⟨rfl, rfl⟩ | exact ⟨rfl, rfl, rfl, rfl⟩ | exact fun h => Bool.noConfusion h | exact fun _ => rfl | exact Nat.le_of_ble_eq_true rfl | (simp only [List.length_map, List.length_append, List.length_replicate, List.length_take, List.length_drop, List.length_set, List.length_cons, List.length_nil]; omega))); (conv => whnf)) | ((refine And.intro ?_ ?_ <;> intro _h); all_goals ((first | replace _h := of_decide_eq_true _h | replace _h := of_decide_eq_false _h | skip); (try simp only [Bool.not_eq_true', Bool.not_eq_false', Bool.not_true, Bool.not_false, decide_eq_true_eq, decide_eq_false_iff_not] at _h); (try (guard_hyp _h : True; clear _h)); first | done | contradiction | exact absurd ((Eq.symm _h).trans (show _ = true by assumption)) (by decide) | exact absurd ((Eq.symm _h).trans (show _ = false by assumption)) (by decide) | (conv => whnf))) | (intro _h; ((first | replace _h := of_decide_eq_true _h | replace _h := of_decide_eq_false _h | skip); (try simp only [Bool.not_eq_true', Bool.not_eq_false', Bool.not_true, Bool.not_false, decide_eq_true_eq, decide_eq_false_iff_not] at _h); (try (guard_hyp _h : True; clear _h)); first | done | contradiction | exact absurd ((Eq.symm _h).trans (show _ = true by assumption)) (by decide) | exact absurd ((Eq.symm _h).trans (show _ = false by assumption)) (by decide) | (conv => whnf)))))
  exact ⟨[0], [(0, .row .u32 79 xs)], .own 0, ⟨rfl, ⟨⟨by decide, rfl⟩, trivial⟩, rfl⟩, rfl, rfl, rfl⟩

theorem f46 (xs : List Int) (hne : xs ≠ []) (hl : xs.length ≤ 1000000) : CSpec Tryd.prog 94 [.d (nat xs)] [] 0 (fun st nx r => st = [(0, .row .u32 79 xs)] ∧ nx = 1 ∧ r = .own 0) := by
  refine CSpec.ends (CSpec.of_awp told0 [] Tryd.func94 rfl (by decide) (Nat.le_of_ble_eq_true rfl) fun _w0 _S0 _E0 _B0 => ?_)
  ((conv => whnf); repeat' (first | (refine And.intro ?_ ?_; (focus (first | rfl | decide | assumption | omega | decide +kernel | exact ⟨rfl, rfl⟩ | exact ⟨rfl, rfl, rfl, rfl⟩ | exact fun h => Bool.noConfusion h | exact fun _ => rfl | exact Nat.le_of_ble_eq_true rfl | (simp only [List.length_map, List.length_append, List.length_replicate, List.length_take, List.length_drop, List.length_set, List.length_cons, List.length_nil]; omega))); (conv => whnf)) | ((refine And.intro ?_ ?_ <;> intro _h); all_goals ((first | replace _h := of_decide_eq_true _h | replace _h := of_decide_eq_false _h | skip); (try simp only [Bool.not_eq_true', Bool.not_eq_false', Bool.not_true, Bool.not_false, decide_eq_true_eq, decide_eq_false_iff_not] at _h); (try (guard_hyp _h : True; clear _h)); first | done | contradiction | exact absurd ((Eq.symm _h).trans (show _ = true by assumption)) (by decide) | exact absurd ((Eq.symm _h).trans (show _ = false by assumption)) (by decide) | (conv => whnf))) | (intro _h; ((first | replace _h := of_decide_eq_true _h | replace _h := of_decide_eq_false _h | skip); (try simp only [Bool.not_eq_true', Bool.not_eq_false', Bool.not_true, Bool.not_false, decide_eq_true_eq, decide_eq_false_iff_not] at _h); (try (guard_hyp _h : True; clear _h)); first | done | contradiction | exact absurd ((Eq.symm _h).trans (show _ = true by assumption)) (by decide) | exact absurd ((Eq.symm _h).trans (show _ = false by assumption)) (by decide) | (conv => whnf)))))
  refine ⟨fun h => absurd h hne, ?_⟩
  ((conv => whnf); repeat' (first | (refine And.intro ?_ ?_; (focus (first | rfl | decide | assumption | omega | decide +kernel | exact ⟨rfl, rfl⟩ | exact ⟨rfl, rfl, rfl, rfl⟩ | exact fun h => Bool.noConfusion h | exact fun _ => rfl | exact Nat.le_of_ble_eq_true rfl | (simp only [List.length_map, List.length_append, List.length_replicate, List.length_take, List.length_drop, List.length_set, List.length_cons, List.length_nil]; omega))); (conv => whnf)) | ((refine And.intro ?_ ?_ <;> intro _h); all_goals ((first | replace _h := of_decide_eq_true _h | replace _h := of_decide_eq_false _h | skip); (try simp only [Bool.not_eq_true', Bool.not_eq_false', Bool.not_true, Bool.not_false, decide_eq_true_eq, decide_eq_false_iff_not] at _h); (try (guard_hyp _h : True; clear _h)); first | done | contradiction | exact absurd ((Eq.symm _h).trans (show _ = true by assumption)) (by decide) | exact absurd ((Eq.symm _h).trans (show _ = false by assumption)) (by decide) | (conv => whnf))) | (intro _h; ((first | replace _h := of_decide_eq_true _h | replace _h := of_decide_eq_false _h | skip); (try simp only [Bool.not_eq_true', Bool.not_eq_false', Bool.not_true, Bool.not_false, decide_eq_true_eq, decide_eq_false_iff_not] at _h); (try (guard_hyp _h : True; clear _h)); first | done | contradiction | exact absurd ((Eq.symm _h).trans (show _ = true by assumption)) (by decide) | exact absurd ((Eq.symm _h).trans (show _ = false by assumption)) (by decide) | (conv => whnf)))))
  refine ⟨by show (0 + xs.length) * 4 ≤ 140737488355328; omega, ?_⟩
  ((conv => whnf); repeat' (first | (refine And.intro ?_ ?_; (focus (first | rfl | decide | assumption | omega | decide +kernel | exact ⟨rfl, rfl⟩ | exact ⟨rfl, rfl, rfl, rfl⟩ | exact fun h => Bool.noConfusion h | exact fun _ => rfl | exact Nat.le_of_ble_eq_true rfl | (simp only [List.length_map, List.length_append, List.length_replicate, List.length_take, List.length_drop, List.length_set, List.length_cons, List.length_nil]; omega))); (conv => whnf)) | ((refine And.intro ?_ ?_ <;> intro _h); all_goals ((first | replace _h := of_decide_eq_true _h | replace _h := of_decide_eq_false _h | skip); (try simp only [Bool.not_eq_true', Bool.not_eq_false', Bool.not_true, Bool.not_false, decide_eq_true_eq, decide_eq_false_iff_not] at _h); (try (guard_hyp _h : True; clear _h)); first | done | contradiction | exact absurd ((Eq.symm _h).trans (show _ = true by assumption)) (by decide) | exact absurd ((Eq.symm _h).trans (show _ = false by assumption)) (by decide) | (conv => whnf))) | (intro _h; ((first | replace _h := of_decide_eq_true _h | replace _h := of_decide_eq_false _h | skip); (try simp only [Bool.not_eq_true', Bool.not_eq_false', Bool.not_true, Bool.not_false, decide_eq_true_eq, decide_eq_false_iff_not] at _h); (try (guard_hyp _h : True; clear _h)); first | done | contradiction | exact absurd ((Eq.symm _h).trans (show _ = true by assumption)) (by decide) | exact absurd ((Eq.symm _h).trans (show _ = false by assumption)) (by decide) | (conv => whnf)))))
  exact ⟨[0], [(0, .row .u32 79 xs)], .own 0, ⟨rfl, ⟨⟨by decide, rfl⟩, trivial⟩, rfl⟩, rfl, rfl, rfl⟩

end Go.Proofs.YtniaeiikdgbnfaaDoor.R
namespace Go.Proofs.YtniaeiikdgbnfaaDoor.R
set_option linter.unusedVariables false

theorem vstep (xs : List Int) : val xs = xs.getD 0 0 + 4294967296 * val xs.tail := by
  cases xs with
  | nil => simp [val]
  | cons x xs => simp [val]

/-- The lowest limb goes out. -/
theorem mont_zero {us1 us2 n : List Int} {c n0 : Int} {w : Nat} (hu : wfl us2) (h : val us2 + pw (w + 1) * c = val us1 + (us1.getD 0 0 * n0) % 4294967296 * val n) (hinv : (n.getD 0 0 * n0 + 1) % 4294967296 = 0) : us2.getD 0 0 = 0 := by
  have h0 := hu.get 0
  have e1 := vstep us2
  have e2 := vstep us1
  have e3 := vstep n
  have e4 : (us1.getD 0 0 * n0) % 4294967296 = us1.getD 0 0 * n0 - 4294967296 * ((us1.getD 0 0 * n0) / 4294967296) := by omega
  have e5 : n.getD 0 0 * n0 + 1 = 4294967296 * ((n.getD 0 0 * n0 + 1) / 4294967296) := by omega
  rw [e4] at h
  rw [pw_succ] at h
  generalize us1.getD 0 0 * n0 / 4294967296 = k at *
  generalize (n.getD 0 0 * n0 + 1) / 4294967296 = e at *
  generalize us2.getD 0 0 = u at *
  generalize us1.getD 0 0 = t at *
  generalize n.getD 0 0 = m at *
  generalize val us2.tail = a at *
  generalize val us1.tail = b at *
  generalize val n.tail = d at *
  have : u = 4294967296 * (t * e - k * m + b + (t * n0 - 4294967296 * k) * d - a - pw w * c) := by grind
  omega

theorem mont_round {l us1 us3 : List Int} {p c1 c2 x q B N : Int} {w : Nat} (hl3 : us3.length = w) (r1 : val us1 + pw (w + 1) * c1 = val l + x * B) (r2 : val (0 :: us3) + pw (w + 1) * c2 = val us1 + q * N) :
    4294967296 * (val (us3 ++ [((p + c1) % 4294967296 + c2) % 4294967296]) + pw (w + 1) * ((p + c1) / 4294967296 + ((p + c1) % 4294967296 + c2) / 4294967296)) = val l + pw (w + 1) * p + x * B + q * N := by
  rw [val_snoc, hl3]
  simp only [val, pw_succ] at *
  have e1 : (p + c1) % 4294967296 = p + c1 - 4294967296 * ((p + c1) / 4294967296) := by omega
  generalize (p + c1) / 4294967296 = k1 at *
  rw [e1]
  have e2 : (p + c1 - 4294967296 * k1 + c2) % 4294967296 = p + c1 - 4294967296 * k1 + c2 - 4294967296 * ((p + c1 - 4294967296 * k1 + c2) / 4294967296) := by omega
  generalize (p + c1 - 4294967296 * k1 + c2) / 4294967296 = k2 at *
  rw [e2]
  grind

theorem mont_inv {T T' A B N Q x q : Int} (i : Nat) (h : pw i * T = A * B + Q * N) (hr : 4294967296 * T' = T + x * B + q * N) : pw (i + 1) * T' = (A + pw i * x) * B + (Q + pw i * q) * N := by
  rw [pw_succ]
  grind

theorem mont_bound {Q q : Int} (i : Nat) (h : 0 ≤ Q ∧ Q < pw i) (hq : 0 ≤ q ∧ q < 4294967296) : 0 ≤ Q + pw i * q ∧ Q + pw i * q < pw (i + 1) := by
  have hp := pw_pos i
  have h1 : 0 ≤ pw i * q := Int.mul_nonneg (by omega) hq.1
  have h2 : pw i * q ≤ pw i * 4294967295 := Int.mul_le_mul_of_nonneg_left (by omega) (by omega)
  rw [pw_succ]
  omega

/-- At the end: less than twice the modulus. -/
theorem mont_end {T A B N Q : Int} (w : Nat) (h : pw w * T = A * B + Q * N) (hA : 0 ≤ A ∧ A < pw w) (hQ : 0 ≤ Q ∧ Q < pw w) (hB : 0 ≤ B ∧ B < N) : T < 2 * N := by
  have hp := pw_pos w
  have h1 : A * B ≤ pw w * B := Int.mul_le_mul_of_nonneg_right (by omega) hB.1
  have h2 : Q * N ≤ pw w * N := Int.mul_le_mul_of_nonneg_right (by omega) (by omega)
  have h3 : pw w * B < pw w * N := Int.mul_lt_mul_of_pos_left hB.2 hp
  have h4 : pw w * T < pw w * (2 * N) := by rw [h, show pw w * (2 * N) = pw w * N + pw w * N by grind]; omega
  exact Int.lt_of_mul_lt_mul_left h4 (by omega)

theorem mont_less {l n z : List Int} {p A B Q : Int} {w : Nat} (hl : wfl l) (hll : l.length = w) (hn : wfl n) (hnl : n.length = w) (hz : wfl z) (hzl : z.length = w) (hp : 0 ≤ p)
    (h : pw w * (val l + pw w * p) = A * B + Q * val n) (hA : 0 ≤ A ∧ A < pw w) (hQ : 0 ≤ Q ∧ Q < pw w) (hB : 0 ≤ B ∧ B < val n)
    (hs : if (!decide (p = 0)) = true ∨ val n ≤ val l then val z = (val l - val n) % pw w else z = l) :
    val z < val n ∧ ∃ Q', pw w * val z = A * B + Q' * val n := by
  have hT := mont_end w h hA hQ hB
  have h0 := val_nonneg hl
  have hN := val_lt hn
  rw [hnl] at hN
  have hpw := pw_pos w
  by_cases hc : (!decide (p = 0)) = true ∨ val n ≤ val l
  · rw [if_pos hc] at hs
    have hge : val n ≤ val l + pw w * p := by
      have : 0 ≤ pw w * p := Int.mul_nonneg (by omega) hp
      rcases hc with hc | hc
      · have hp1 : 1 ≤ p := by simp at hc; omega
        have : pw w * 1 ≤ pw w * p := Int.mul_le_mul_of_nonneg_left hp1 (by omega)
        omega
      · omega
    have e : val l - val n = (val l + pw w * p - val n) - pw w * p := by omega
    rw [e, Int.sub_mul_emod_self_left, Int.emod_eq_of_lt (by omega) (by omega)] at hs
    refine ⟨by omega, Q - pw w, ?_⟩
    rw [hs]
    grind
  · rw [if_neg hc] at hs
    have hp0 : p = 0 := by
      rcases Decidable.em (p = 0) with h | h
      · exact h
      · exact (hc (.inl (by simp [h]))).elim
    subst hp0
    subst hs
    refine ⟨by omega, Q, by simpa using h⟩

end Go.Proofs.YtniaeiikdgbnfaaDoor.R
namespace Go.Proofs.YtniaeiikdgbnfaaDoor.R
open Go Go.RowKit Go.Proofs Go.Proofs.YtniaeiikdgbnfaaDoor.AW
set_option linter.unusedSectionVars false
variable [Globs]
set_option maxRecDepth 100000
set_option linter.unusedSimpArgs false
set_option linter.unusedVariables false
set_option maxHeartbeats 4000000

/-- A row's product, a limb further. -/
theorem row_limb {a b d x : Int} (p : Int) {y t c : Int} (h : a + p * c = b + x * d) :
    a + p * ((x * y + t + c) % 4294967296) + p * 4294967296 * ((x * y + t + c) / 4294967296) = b + p * t + x * (d + p * y) := by
  have e : (x * y + t + c) % 4294967296 + 4294967296 * ((x * y + t + c) / 4294967296) = x * y + t + c := by omega
  have : p * ((x * y + t + c) % 4294967296) + p * 4294967296 * ((x * y + t + c) / 4294967296) = p * (x * y + t + c) := by rw [Int.mul_assoc, ← Int.mul_add, e]
  rw [Int.mul_add, Int.mul_add] at this
  have e2 : x * (d + p * y) = x * d + p * (x * y) := by rw [Int.mul_add, ← Int.mul_assoc, ← Int.mul_assoc, Int.mul_comm x p]
  omega

theorem set_row {us ts : List Int} {i : Nat} (h : us.length = i) (hi : i < ts.length) {v : Int} : (us ++ ts.drop i).set i v = us ++ [v] ++ ts.drop (i + 1) := by
  have e : (ts.drop i).set 0 v = v :: ts.drop (i + 1) := by rw [List.drop_eq_getElem_cons hi]; rfl
  rw [List.set_append_right _ _ (by omega), h, Nat.sub_self, e]
  simp
theorem wrap_u32 {n : Int} (h1 : 0 ≤ n) (h2 : n ≤ 4294967295) : IntKind.u32.wrap n = n := wrap_in.2 ⟨h1, h2⟩

theorem wrap_mod (n : Int) : IntKind.u32.wrap n = n % 4294967296 := by simp [IntKind.wrap, IntKind.bits, IntKind.signed]

/-- What a row's product leaves. -/
def rowS (ts ys us : List Int) (x c : Int) : Prop :=
  us.length = ys.length ∧ wfl us ∧ (0 ≤ c ∧ c < 4294967296) ∧ val us + pw ys.length * c = val (ts.take ys.length) + x * val ys

theorem f44 (ts ys : List Int) (x : Int) (ht : wfl ts) (hy : wfl ys) (hx : 0 ≤ x ∧ x < 4294967296) (hl : ys.length ≤ ts.length) (hs : ts.length ≤ 1000000) :
    CSpec Tryd.prog 92 [.own 0, u32 x, .d (nat ys)] [(0, .row .u32 79 ts)] 1 (fun st nx r => ∃ us c, st = [(0, .row .u32 79 (us ++ ts.drop ys.length))] ∧ nx = 1 ∧ r = u32 c ∧ rowS ts ys us x c) := by
  refine CSpec.ends (CSpec.of_awp told0 [] Tryd.func92 rfl (by decide) (Nat.le_of_ble_eq_true rfl) fun _w0 _S0 _E0 _B0 => ?_)
  ((conv => whnf); repeat' (first | (refine And.intro ?_ ?_; (focus (first | rfl | decide | assumption | omega | decide +kernel | exact ⟨rfl, rfl⟩ | exact ⟨rfl, rfl, rfl, rfl⟩ | exact fun h => Bool.noConfusion h | exact fun _ => rfl | exact Nat.le_of_ble_eq_true rfl | (simp only [List.length_map, List.length_append, List.length_replicate, List.length_take, List.length_drop, List.length_set, List.length_cons, List.length_nil]; omega))); (conv => whnf)) | ((refine And.intro ?_ ?_ <;> intro _h); all_goals ((first | replace _h := of_decide_eq_true _h | replace _h := of_decide_eq_false _h | skip); (try simp only [Bool.not_eq_true', Bool.not_eq_false', Bool.not_true, Bool.not_false, decide_eq_true_eq, decide_eq_false_iff_not] at _h); (try (guard_hyp _h : True; clear _h)); first | done | contradiction | exact absurd ((Eq.symm _h).trans (show _ = true by assumption)) (by decide) | exact absurd ((Eq.symm _h).trans (show _ = false by assumption)) (by decide) | (conv => whnf))) | (intro _h; ((first | replace _h := of_decide_eq_true _h | replace _h := of_decide_eq_false _h | skip); (try simp only [Bool.not_eq_true', Bool.not_eq_false', Bool.not_true, Bool.not_false, decide_eq_true_eq, decide_eq_false_iff_not] at _h); (try (guard_hyp _h : True; clear _h)); first | done | contradiction | exact absurd ((Eq.symm _h).trans (show _ = true by assumption)) (by decide) | exact absurd ((Eq.symm _h).trans (show _ = false by assumption)) (by decide) | (conv => whnf)))))
  refine aloop (T := told0) (ι := Nat × List Int × Int) (fun p => [(0, .own 0), (1, u32 x), (13, .d (nat ys)), (14, i64 ys.length), (15, i64 p.1), (7, u32 p.2.2)]) (fun p => [(0, .row .u32 79 (p.2.1 ++ ts.drop p.1))]) 52 1
    (fun p => ys.length - p.1) (fun p => p.1 ≤ ys.length ∧ p.2.1.length = p.1 ∧ wfl p.2.1 ∧ (0 ≤ p.2.2 ∧ p.2.2 < 4294967296) ∧ val p.2.1 + pw p.1 * p.2.2 = val (ts.take p.1) + x * val (ys.take p.1))
    ⟨(0, [], 0), [0], rfl, ⟨by omega, rfl, by simp [wfl], by decide, by simp [val]⟩, by (refine ⟨rfl, rfl, ?_, ?_⟩ <;> repeat' (first | exact True.intro | rfl | decide | (refine And.intro ?_ ?_)))⟩ ?_
  intro ⟨i, us, c⟩ ⟨hi, hul, hu, hc, hv⟩
  dsimp only at hi hul hu hc hv ⊢
  ((conv => whnf); repeat' (first | (refine And.intro ?_ ?_; (focus (first | rfl | decide | assumption | omega | decide +kernel | exact ⟨rfl, rfl⟩ | exact ⟨rfl, rfl, rfl, rfl⟩ | exact fun h => Bool.noConfusion h | exact fun _ => rfl | exact Nat.le_of_ble_eq_true rfl | (simp only [List.length_map, List.length_append, List.length_replicate, List.length_take, List.length_drop, List.length_set, List.length_cons, List.length_nil]; omega))); (conv => whnf)) | ((refine And.intro ?_ ?_ <;> intro _h); all_goals ((first | replace _h := of_decide_eq_true _h | replace _h := of_decide_eq_false _h | skip); (try simp only [Bool.not_eq_true', Bool.not_eq_false', Bool.not_true, Bool.not_false, decide_eq_true_eq, decide_eq_false_iff_not] at _h); (try (guard_hyp _h : True; clear _h)); first | done | contradiction | exact absurd ((Eq.symm _h).trans (show _ = true by assumption)) (by decide) | exact absurd ((Eq.symm _h).trans (show _ = false by assumption)) (by decide) | (conv => whnf))) | (intro _h; ((first | replace _h := of_decide_eq_true _h | replace _h := of_decide_eq_false _h | skip); (try simp only [Bool.not_eq_true', Bool.not_eq_false', Bool.not_true, Bool.not_false, decide_eq_true_eq, decide_eq_false_iff_not] at _h); (try (guard_hyp _h : True; clear _h)); first | done | contradiction | exact absurd ((Eq.symm _h).trans (show _ = true by assumption)) (by decide) | exact absurd ((Eq.symm _h).trans (show _ = false by assumption)) (by decide) | (conv => whnf)))))
  · have hyi := hy.get i
    have hti := ht.get i
    have et : (us ++ ts.drop i).getD (i : Int).toNat 0 = ts.getD i 0 := by
      rw [Int.toNat_natCast, List.getD_eq_getElem?_getD, List.getElem?_append_right (by omega), List.getElem?_drop, ← List.getD_eq_getElem?_getD, hul]
      congr 1; omega
    generalize hy0 : ys.getD i 0 = y at *
    generalize ht0 : ts.getD i 0 = t at *
    have p0 : 0 ≤ x * y := Int.mul_nonneg hx.1 hyi.1
    have p1 : x * y ≤ 4294967295 * 4294967295 := Int.mul_le_mul (by omega) (by omega) hyi.1 (by omega)
    refine acallI (f52 x y hx hyi) (by rw [← hy0]; rfl) fun r hr => ?_
    subst hr
    ((conv => whnf); repeat' (first | (refine And.intro ?_ ?_; (focus (first | rfl | decide | assumption | omega | decide +kernel | exact ⟨rfl, rfl⟩ | exact ⟨rfl, rfl, rfl, rfl⟩ | exact fun h => Bool.noConfusion h | exact fun _ => rfl | exact Nat.le_of_ble_eq_true rfl | (simp only [List.length_map, List.length_append, List.length_replicate, List.length_take, List.length_drop, List.length_set, List.length_cons, List.length_nil]; omega))); (conv => whnf)) | ((refine And.intro ?_ ?_ <;> intro _h); all_goals ((first | replace _h := of_decide_eq_true _h | replace _h := of_decide_eq_false _h | skip); (try simp only [Bool.not_eq_true', Bool.not_eq_false', Bool.not_true, Bool.not_false, decide_eq_true_eq, decide_eq_false_iff_not] at _h); (try (guard_hyp _h : True; clear _h)); first | done | contradiction | exact absurd ((Eq.symm _h).trans (show _ = true by assumption)) (by decide) | exact absurd ((Eq.symm _h).trans (show _ = false by assumption)) (by decide) | (conv => whnf))) | (intro _h; ((first | replace _h := of_decide_eq_true _h | replace _h := of_decide_eq_false _h | skip); (try simp only [Bool.not_eq_true', Bool.not_eq_false', Bool.not_true, Bool.not_false, decide_eq_true_eq, decide_eq_false_iff_not] at _h); (try (guard_hyp _h : True; clear _h)); first | done | contradiction | exact absurd ((Eq.symm _h).trans (show _ = true by assumption)) (by decide) | exact absurd ((Eq.symm _h).trans (show _ = false by assumption)) (by decide) | (conv => whnf)))))
    refine acallI (f45 (x * y % 4294967296) t 0 (by omega) hti (by omega)) (by rw [← et]; rfl) fun r hr => ?_
    subst hr
    ((conv => whnf); repeat' (first | (refine And.intro ?_ ?_; (focus (first | rfl | decide | assumption | omega | decide +kernel | exact ⟨rfl, rfl⟩ | exact ⟨rfl, rfl, rfl, rfl⟩ | exact fun h => Bool.noConfusion h | exact fun _ => rfl | exact Nat.le_of_ble_eq_true rfl | (simp only [List.length_map, List.length_append, List.length_replicate, List.length_take, List.length_drop, List.length_set, List.length_cons, List.length_nil]; omega))); (conv => whnf)) | ((refine And.intro ?_ ?_ <;> intro _h); all_goals ((first | replace _h := of_decide_eq_true _h | replace _h := of_decide_eq_false _h | skip); (try simp only [Bool.not_eq_true', Bool.not_eq_false', Bool.not_true, Bool.not_false, decide_eq_true_eq, decide_eq_false_iff_not] at _h); (try (guard_hyp _h : True; clear _h)); first | done | contradiction | exact absurd ((Eq.symm _h).trans (show _ = true by assumption)) (by decide) | exact absurd ((Eq.symm _h).trans (show _ = false by assumption)) (by decide) | (conv => whnf))) | (intro _h; ((first | replace _h := of_decide_eq_true _h | replace _h := of_decide_eq_false _h | skip); (try simp only [Bool.not_eq_true', Bool.not_eq_false', Bool.not_true, Bool.not_false, decide_eq_true_eq, decide_eq_false_iff_not] at _h); (try (guard_hyp _h : True; clear _h)); first | done | contradiction | exact absurd ((Eq.symm _h).trans (show _ = true by assumption)) (by decide) | exact absurd ((Eq.symm _h).trans (show _ = false by assumption)) (by decide) | (conv => whnf)))))
    refine acallI (f45 _ c 0 (by omega) hc (by omega)) rfl fun r hr => ?_
    subst hr
    ((conv => whnf); repeat' (first | (refine And.intro ?_ ?_; (focus (first | rfl | decide | assumption | omega | decide +kernel | exact ⟨rfl, rfl⟩ | exact ⟨rfl, rfl, rfl, rfl⟩ | exact fun h => Bool.noConfusion h | exact fun _ => rfl | exact Nat.le_of_ble_eq_true rfl | (simp only [List.length_map, List.length_append, List.length_replicate, List.length_take, List.length_drop, List.length_set, List.length_cons, List.length_nil]; omega))); (conv => whnf)) | ((refine And.intro ?_ ?_ <;> intro _h); all_goals ((first | replace _h := of_decide_eq_true _h | replace _h := of_decide_eq_false _h | skip); (try simp only [Bool.not_eq_true', Bool.not_eq_false', Bool.not_true, Bool.not_false, decide_eq_true_eq, decide_eq_false_iff_not] at _h); (try (guard_hyp _h : True; clear _h)); first | done | contradiction | exact absurd ((Eq.symm _h).trans (show _ = true by assumption)) (by decide) | exact absurd ((Eq.symm _h).trans (show _ = false by assumption)) (by decide) | (conv => whnf))) | (intro _h; ((first | replace _h := of_decide_eq_true _h | replace _h := of_decide_eq_false _h | skip); (try simp only [Bool.not_eq_true', Bool.not_eq_false', Bool.not_true, Bool.not_false, decide_eq_true_eq, decide_eq_false_iff_not] at _h); (try (guard_hyp _h : True; clear _h)); first | done | contradiction | exact absurd ((Eq.symm _h).trans (show _ = true by assumption)) (by decide) | exact absurd ((Eq.symm _h).trans (show _ = false by assumption)) (by decide) | (conv => whnf)))))
    generalize hp : x * y = p at *
    have e1 : (((p % 4294967296 + t + 0) % 4294967296 + c + 0) % 4294967296) = (p + t + c) % 4294967296 := by omega
    have e2 : IntKind.u32.wrap (IntKind.u32.wrap (p / 4294967296 + (p % 4294967296 + t + 0) / 4294967296) + ((p % 4294967296 + t + 0) % 4294967296 + c + 0) / 4294967296) = (p + t + c) / 4294967296 := by
      rw [wrap_u32 (n := p / 4294967296 + (p % 4294967296 + t + 0) / 4294967296) (by omega) (by omega), wrap_u32 (by omega) (by omega)]; omega
    refine ⟨(i + 1, us ++ [(p + t + c) % 4294967296], (p + t + c) / 4294967296), [0], by dsimp only; omega, ⟨by dsimp only; omega, by simp [hul], ?_, by dsimp only; omega, ?_⟩, rfl, ?_⟩
    · exact hu.append (wfl.one (by omega))
    · dsimp only
      rw [val_snoc, hul, take_snoc (by omega), take_snoc (by omega), val_snoc, val_snoc, List.length_take, List.length_take, Nat.min_eq_left (by omega), Nat.min_eq_left (by omega), pw_succ, hy0, ht0, ← hp]
      exact row_limb (pw i) hv
    · (refine ⟨rfl, rfl, ?_, ?_⟩ <;> repeat' (first | exact True.intro | rfl | decide | (refine And.intro ?_ ?_)))
      · refine di ?_
        rw [wrap_i64 (by omega) (by omega)]; rfl
      · exact di e2
      · show some (Ob.row .u32 79 ((us ++ ts.drop i).set (i : Int).toNat _)) = some (Ob.row .u32 79 _)
        rw [e1, Int.toNat_natCast, set_row hul (by omega)]
  · have hie : i = ys.length := by omega
    subst hie
    refine ⟨[0], [(0, .row .u32 79 (us ++ ts.drop ys.length))], u32 c, ⟨rfl, ⟨⟨by decide, rfl⟩, trivial⟩, rfl⟩, us, c, rfl, rfl, rfl, hul, hu, hc, ?_⟩
    rw [hv, List.take_of_length_le (Nat.le_refl ys.length)]

theorem mono {P : Program} {f : FuncId} {args : List AVal} {st : List (Nat × Ob)} {m : Nat} {K K' : List (Nat × Ob) → Nat → AVal → Prop} (h : CSpec P f args st m K) (hk : ∀ st nx r, K st nx r → K' st nx r) : CSpec P f args st m K' :=
  ⟨h.1, fun w β S vs h1 h2 h3 => Calls.mono (h.2 w β S vs h1 h2 h3) fun _ _ ⟨v, st', nx', r, β', S', a1, a2, a3, a4, a5, a6, a7, a8⟩ => ⟨v, st', nx', r, β', S', a1, a2, a3, a4, a5, a6, a7, hk _ _ _ a8⟩⟩

theorem f44' (l t ys : List Int) (x : Int) (hl : wfl l) (ht : wfl t) (hy : wfl ys) (hx : 0 ≤ x ∧ x < 4294967296) (hll : l.length = ys.length) (hs : l.length + t.length ≤ 1000000) :
    CSpec Tryd.prog 92 [.own 0, u32 x, .d (nat ys)] [(0, .row .u32 79 (l ++ t))] 1 (fun st nx r => ∃ us c, st = [(0, .row .u32 79 (us ++ t))] ∧ nx = 1 ∧ r = u32 c ∧ us.length = ys.length ∧ wfl us ∧ (0 ≤ c ∧ c < 4294967296) ∧ val us + pw ys.length * c = val l + x * val ys) := by
  refine mono (f44 (l ++ t) ys x (hl.append ht) hy hx (by simp; omega) (by simp; omega)) fun st nx r ⟨us, c, h1, h2, h3, h4, h5, h6, h7⟩ => ⟨us, c, ?_, h2, h3, h4, h5, h6, ?_⟩
  · rw [h1, ← hll, List.drop_left]
  · rw [h7, ← hll, List.take_left]

theorem get_mid {us : List Int} {w : Nat} (h : us.length = w) (p : Int) (t : List Int) : (us ++ p :: t).getD (w : Int).toNat 0 = p := by
  rw [Int.toNat_natCast, List.getD_eq_getElem?_getD, List.getElem?_append_right (by omega), h]
  simp
theorem get_mid1 {us : List Int} {w : Nat} (h : us.length = w) (p q : Int) (t : List Int) : (us ++ p :: q :: t).getD ((w + 1 : Nat) : Int).toNat 0 = q := by
  rw [Int.toNat_natCast, List.getD_eq_getElem?_getD, List.getElem?_append_right (by omega), h, Nat.add_sub_cancel_left]
  simp
theorem set_mid {us : List Int} {w : Nat} (h : us.length = w) (p v : Int) (t : List Int) : (us ++ p :: t).set (w : Int).toNat v = us ++ v :: t := by
  rw [Int.toNat_natCast, List.set_append_right _ _ (by omega), h, Nat.sub_self]; rfl
theorem set_mid1 {us : List Int} {w : Nat} (h : us.length = w) (p q v : Int) (t : List Int) : (us ++ p :: q :: t).set ((w + 1 : Nat) : Int).toNat v = us ++ p :: v :: t := by
  rw [Int.toNat_natCast, List.set_append_right _ _ (by omega), h, Nat.add_sub_cancel_left]; rfl

def told34 : AW.Told := ⟨fun g => g == 92, fun r i => if r == 16 && i == 10 then [99] else [], fun r => if r == 10 then .take 0 (.take 1 (.take 2 (.take 3 (.take 4 (.take 5 (.take 6 (.take 7 (.take 8 (.take 9 (.take 10 (.take 11 (.take 12 (.one 13 (.take 14 .done))))))))))))))
  else if r == 16 then .take 0 (.take 1 (.take 2 (.take 3 (.take 5 (.take 6 (.take 7 (.take 8 (.take 9 (.one 4 (.one 10 (.take 11 .done))))))))))) else .done⟩

theorem shift {us3 : List Int} {w : Nat} (u p q : Int) (hw : us3.length + 1 = w) :
    (((((u :: us3) ++ [p, q]).drop 1).take (((u :: us3) ++ [p, q]).length - 1)).take ((u :: us3) ++ [p, q]).length ++ ((u :: us3) ++ [p, q]).drop ((((u :: us3) ++ [p, q]).drop 1).take (((u :: us3) ++ [p, q]).length - 1)).length).set (w + 1) 0 =
      us3 ++ [p] ++ [q, 0] := by
  have e1 : (((u :: us3) ++ [p, q]).drop 1).take (((u :: us3) ++ [p, q]).length - 1) = us3 ++ [p, q] := by
    have : ((u :: us3) ++ [p, q]).drop 1 = us3 ++ [p, q] := rfl
    rw [this, List.take_of_length_le (by simp)]
  rw [e1, List.take_of_length_le (by simp)]
  have e2 : ((u :: us3) ++ [p, q]).drop (us3 ++ [p, q]).length = [q] := by
    have : (u :: us3) ++ [p, q] = (u :: us3 ++ [p]) ++ [q] := by simp
    rw [this]
    exact List.drop_left' (by simp)
  rw [e2, List.set_append_right _ _ (by simp; omega)]
  have : w + 1 - (us3 ++ [p, q]).length = 0 := by simp; omega
  rw [this]
  simp

theorem val_zero : ∀ k, val (List.replicate k 0) = 0
  | 0 => rfl
  | k + 1 => by simp [List.replicate_succ, val, val_zero k]

/-- The code's short product of elements. -/
theorem f34 (n : List Int) (n0 : Int) (rr a b : List Int) (hn : wfl n) (hn0 : 0 ≤ n0 ∧ n0 < 4294967296) (ha : wfl a) (hb : wfl b) (hbn : bad n = false) (hla : a.length = n.length) (hlb : b.length = n.length) (hinv : (n.getD 0 0 * n0 + 1) % 4294967296 = 0) (hbv : val b < val n) :
    Imm Tryd.prog 60 [.d (ringD n n0 rr), .d (nat a), .d (nat b)] (fun r => ∃ z, r = .d (nat z) ∧ z.length = n.length ∧ wfl z ∧ val z < val n ∧ ∃ Q, pw n.length * val z = val a * val b + Q * val n) := by
  have hbl := hbn
  unfold bad at hbl
  simp at hbl
  have hw : IntKind.i64.wrap ((n.length : Int) + 2) = ((n.length + 2 : Nat) : Int) := by rw [wrap_i64 (by omega) (by omega)]; rfl
  have hw1 : IntKind.i64.wrap ((n.length : Int) + 1) = ((n.length + 1 : Nat) : Int) := by rw [wrap_i64 (by omega) (by omega)]; rfl
  (refine Imm.of_awp told34 [] Tryd.func60 rfl (by decide) (Nat.le_of_ble_eq_true rfl) ?_; intro _w0 _S0 _E0 _B0; ((conv => whnf); repeat' (first | (refine And.intro ?_ ?_; (focus (first | rfl | decide | assumption | omega | decide +kernel | exact ⟨rfl, rfl⟩ | exact ⟨rfl, rfl, rfl, rfl⟩ | exact fun h => Bool.noConfusion h | exact fun _ => rfl | exact Nat.le_of_ble_eq_true rfl | (simp only [List.length_map, List.length_append, List.length_replicate, List.length_take, List.length_drop, List.length_set, List.length_cons, List.length_nil]; omega))); (conv => whnf)) | ((refine And.intro ?_ ?_ <;> intro _h); all_goals ((first | replace _h := of_decide_eq_true _h | replace _h := of_decide_eq_false _h | skip); (try simp only [Bool.not_eq_true', Bool.not_eq_false', Bool.not_true, Bool.not_false, decide_eq_true_eq, decide_eq_false_iff_not] at _h); (try (guard_hyp _h : True; clear _h)); first | done | contradiction | exact absurd ((Eq.symm _h).trans (show _ = true by assumption)) (by decide) | exact absurd ((Eq.symm _h).trans (show _ = false by assumption)) (by decide) | (conv => whnf))) | (intro _h; ((first | replace _h := of_decide_eq_true _h | replace _h := of_decide_eq_false _h | skip); (try simp only [Bool.not_eq_true', Bool.not_eq_false', Bool.not_true, Bool.not_false, decide_eq_true_eq, decide_eq_false_iff_not] at _h); (try (guard_hyp _h : True; clear _h)); first | done | contradiction | exact absurd ((Eq.symm _h).trans (show _ = true by assumption)) (by decide) | exact absurd ((Eq.symm _h).trans (show _ = false by assumption)) (by decide) | (conv => whnf))))))
  rw [hw]
  ((conv => whnf); repeat' (first | (refine And.intro ?_ ?_; (focus (first | rfl | decide | assumption | omega | decide +kernel | exact ⟨rfl, rfl⟩ | exact ⟨rfl, rfl, rfl, rfl⟩ | exact fun h => Bool.noConfusion h | exact fun _ => rfl | exact Nat.le_of_ble_eq_true rfl | (simp only [List.length_map, List.length_append, List.length_replicate, List.length_take, List.length_drop, List.length_set, List.length_cons, List.length_nil]; omega))); (conv => whnf)) | ((refine And.intro ?_ ?_ <;> intro _h); all_goals ((first | replace _h := of_decide_eq_true _h | replace _h := of_decide_eq_false _h | skip); (try simp only [Bool.not_eq_true', Bool.not_eq_false', Bool.not_true, Bool.not_false, decide_eq_true_eq, decide_eq_false_iff_not] at _h); (try (guard_hyp _h : True; clear _h)); first | done | contradiction | exact absurd ((Eq.symm _h).trans (show _ = true by assumption)) (by decide) | exact absurd ((Eq.symm _h).trans (show _ = false by assumption)) (by decide) | (conv => whnf))) | (intro _h; ((first | replace _h := of_decide_eq_true _h | replace _h := of_decide_eq_false _h | skip); (try simp only [Bool.not_eq_true', Bool.not_eq_false', Bool.not_true, Bool.not_false, decide_eq_true_eq, decide_eq_false_iff_not] at _h); (try (guard_hyp _h : True; clear _h)); first | done | contradiction | exact absurd ((Eq.symm _h).trans (show _ = true by assumption)) (by decide) | exact absurd ((Eq.symm _h).trans (show _ = false by assumption)) (by decide) | (conv => whnf)))))
  refine aloop (T := told34) (ι := Nat × List Int × Int × Int) (fun x => [(0, .d (ringD n n0 rr)), (2, .d (nat b)), (7, i64 n.length), (8, .own 0), (22, .d (nat a)), (23, i64 a.length), (24, i64 x.1)]) (fun x => [(0, .row .u32 79 (x.2.1 ++ [x.2.2.1, 0]))]) 106 1
    (fun x => a.length - x.1) (fun x => x.1 ≤ a.length ∧ x.2.1.length = n.length ∧ wfl x.2.1 ∧ (0 ≤ x.2.2.1 ∧ x.2.2.1 < 4294967296) ∧ (0 ≤ x.2.2.2 ∧ x.2.2.2 < pw x.1) ∧ pw x.1 * (val x.2.1 + pw n.length * x.2.2.1) = val (a.take x.1) * val b + x.2.2.2 * val n)
    ⟨(0, List.replicate n.length 0, 0, 0), [0], rfl, ⟨by omega, by simp, ?_, by dsimp only; omega, ⟨by dsimp only; omega, pw_pos 0⟩, ?_⟩, ?_⟩ ?_
  · intro y hy; simp at hy; omega
  · simp [val, val_zero]
  · (refine ⟨rfl, rfl, ?_, ?_⟩ <;> repeat' (first | exact True.intro | rfl | decide | (refine And.intro ?_ ?_)))
    show some (Ob.row .u32 79 (List.replicate ((n.length + 2 : Nat) : Int).toNat 0)) = some (.row .u32 79 (List.replicate n.length 0 ++ [0, 0]))
    rw [Int.toNat_natCast, show List.replicate (n.length + 2) (0 : Int) = List.replicate n.length 0 ++ List.replicate 2 0 by rw [List.replicate_append_replicate]]; rfl
  intro ⟨i, l, p, Q⟩ ⟨hi, hll, hl, hp, hQ, hv⟩
  dsimp only at hi hll hl hp hQ hv ⊢
  have hai := ha.get i
  ((conv => whnf); repeat' (first | (refine And.intro ?_ ?_; (focus (first | rfl | decide | assumption | omega | decide +kernel | exact ⟨rfl, rfl⟩ | exact ⟨rfl, rfl, rfl, rfl⟩ | exact fun h => Bool.noConfusion h | exact fun _ => rfl | exact Nat.le_of_ble_eq_true rfl | (simp only [List.length_map, List.length_append, List.length_replicate, List.length_take, List.length_drop, List.length_set, List.length_cons, List.length_nil]; omega))); (conv => whnf)) | ((refine And.intro ?_ ?_ <;> intro _h); all_goals ((first | replace _h := of_decide_eq_true _h | replace _h := of_decide_eq_false _h | skip); (try simp only [Bool.not_eq_true', Bool.not_eq_false', Bool.not_true, Bool.not_false, decide_eq_true_eq, decide_eq_false_iff_not] at _h); (try (guard_hyp _h : True; clear _h)); first | done | contradiction | exact absurd ((Eq.symm _h).trans (show _ = true by assumption)) (by decide) | exact absurd ((Eq.symm _h).trans (show _ = false by assumption)) (by decide) | (conv => whnf))) | (intro _h; ((first | replace _h := of_decide_eq_true _h | replace _h := of_decide_eq_false _h | skip); (try simp only [Bool.not_eq_true', Bool.not_eq_false', Bool.not_true, Bool.not_false, decide_eq_true_eq, decide_eq_false_iff_not] at _h); (try (guard_hyp _h : True; clear _h)); first | done | contradiction | exact absurd ((Eq.symm _h).trans (show _ = true by assumption)) (by decide) | exact absurd ((Eq.symm _h).trans (show _ = false by assumption)) (by decide) | (conv => whnf)))))
  · refine acall [0] (f44' l [p, 0] b (a.getD i 0) hl (by intro y hy; simp at hy; omega) hb hai (by omega) (by simp; omega)) rfl ⟨⟨by decide, rfl⟩, trivial⟩ rfl (fun h => absurd h (by decide)) fun st' nx' r hr => ?_
    obtain ⟨us, c, rfl, rfl, rfl, hul, hu, hc, hv1⟩ := hr
    have el : us.length = n.length := by omega
    ((conv => whnf); repeat' (first | (refine And.intro ?_ ?_; (focus (first | rfl | decide | assumption | omega | decide +kernel | exact ⟨rfl, rfl⟩ | exact ⟨rfl, rfl, rfl, rfl⟩ | exact fun h => Bool.noConfusion h | exact fun _ => rfl | exact Nat.le_of_ble_eq_true rfl | (simp only [List.length_map, List.length_append, List.length_replicate, List.length_take, List.length_drop, List.length_set, List.length_cons, List.length_nil]; omega))); (conv => whnf)) | ((refine And.intro ?_ ?_ <;> intro _h); all_goals ((first | replace _h := of_decide_eq_true _h | replace _h := of_decide_eq_false _h | skip); (try simp only [Bool.not_eq_true', Bool.not_eq_false', Bool.not_true, Bool.not_false, decide_eq_true_eq, decide_eq_false_iff_not] at _h); (try (guard_hyp _h : True; clear _h)); first | done | contradiction | exact absurd ((Eq.symm _h).trans (show _ = true by assumption)) (by decide) | exact absurd ((Eq.symm _h).trans (show _ = false by assumption)) (by decide) | (conv => whnf))) | (intro _h; ((first | replace _h := of_decide_eq_true _h | replace _h := of_decide_eq_false _h | skip); (try simp only [Bool.not_eq_true', Bool.not_eq_false', Bool.not_true, Bool.not_false, decide_eq_true_eq, decide_eq_false_iff_not] at _h); (try (guard_hyp _h : True; clear _h)); first | done | contradiction | exact absurd ((Eq.symm _h).trans (show _ = true by assumption)) (by decide) | exact absurd ((Eq.symm _h).trans (show _ = false by assumption)) (by decide) | (conv => whnf)))))
    rw [get_mid el]
    refine acallI (f45 p c 0 hp hc (by omega)) rfl fun r hr => ?_
    subst hr
    ((conv => whnf); repeat' (first | (refine And.intro ?_ ?_; (focus (first | rfl | decide | assumption | omega | decide +kernel | exact ⟨rfl, rfl⟩ | exact ⟨rfl, rfl, rfl, rfl⟩ | exact fun h => Bool.noConfusion h | exact fun _ => rfl | exact Nat.le_of_ble_eq_true rfl | (simp only [List.length_map, List.length_append, List.length_replicate, List.length_take, List.length_drop, List.length_set, List.length_cons, List.length_nil]; omega))); (conv => whnf)) | ((refine And.intro ?_ ?_ <;> intro _h); all_goals ((first | replace _h := of_decide_eq_true _h | replace _h := of_decide_eq_false _h | skip); (try simp only [Bool.not_eq_true', Bool.not_eq_false', Bool.not_true, Bool.not_false, decide_eq_true_eq, decide_eq_false_iff_not] at _h); (try (guard_hyp _h : True; clear _h)); first | done | contradiction | exact absurd ((Eq.symm _h).trans (show _ = true by assumption)) (by decide) | exact absurd ((Eq.symm _h).trans (show _ = false by assumption)) (by decide) | (conv => whnf))) | (intro _h; ((first | replace _h := of_decide_eq_true _h | replace _h := of_decide_eq_false _h | skip); (try simp only [Bool.not_eq_true', Bool.not_eq_false', Bool.not_true, Bool.not_false, decide_eq_true_eq, decide_eq_false_iff_not] at _h); (try (guard_hyp _h : True; clear _h)); first | done | contradiction | exact absurd ((Eq.symm _h).trans (show _ = true by assumption)) (by decide) | exact absurd ((Eq.symm _h).trans (show _ = false by assumption)) (by decide) | (conv => whnf)))))
    rw [set_mid el, Int.add_zero]
    ((conv => whnf); repeat' (first | (refine And.intro ?_ ?_; (focus (first | rfl | decide | assumption | omega | decide +kernel | exact ⟨rfl, rfl⟩ | exact ⟨rfl, rfl, rfl, rfl⟩ | exact fun h => Bool.noConfusion h | exact fun _ => rfl | exact Nat.le_of_ble_eq_true rfl | (simp only [List.length_map, List.length_append, List.length_replicate, List.length_take, List.length_drop, List.length_set, List.length_cons, List.length_nil]; omega))); (conv => whnf)) | ((refine And.intro ?_ ?_ <;> intro _h); all_goals ((first | replace _h := of_decide_eq_true _h | replace _h := of_decide_eq_false _h | skip); (try simp only [Bool.not_eq_true', Bool.not_eq_false', Bool.not_true, Bool.not_false, decide_eq_true_eq, decide_eq_false_iff_not] at _h); (try (guard_hyp _h : True; clear _h)); first | done | contradiction | exact absurd ((Eq.symm _h).trans (show _ = true by assumption)) (by decide) | exact absurd ((Eq.symm _h).trans (show _ = false by assumption)) (by decide) | (conv => whnf))) | (intro _h; ((first | replace _h := of_decide_eq_true _h | replace _h := of_decide_eq_false _h | skip); (try simp only [Bool.not_eq_true', Bool.not_eq_false', Bool.not_true, Bool.not_false, decide_eq_true_eq, decide_eq_false_iff_not] at _h); (try (guard_hyp _h : True; clear _h)); first | done | contradiction | exact absurd ((Eq.symm _h).trans (show _ = true by assumption)) (by decide) | exact absurd ((Eq.symm _h).trans (show _ = false by assumption)) (by decide) | (conv => whnf)))))
    rw [hw1]
    ((conv => whnf); repeat' (first | (refine And.intro ?_ ?_; (focus (first | rfl | decide | assumption | omega | decide +kernel | exact ⟨rfl, rfl⟩ | exact ⟨rfl, rfl, rfl, rfl⟩ | exact fun h => Bool.noConfusion h | exact fun _ => rfl | exact Nat.le_of_ble_eq_true rfl | (simp only [List.length_map, List.length_append, List.length_replicate, List.length_take, List.length_drop, List.length_set, List.length_cons, List.length_nil]; omega))); (conv => whnf)) | ((refine And.intro ?_ ?_ <;> intro _h); all_goals ((first | replace _h := of_decide_eq_true _h | replace _h := of_decide_eq_false _h | skip); (try simp only [Bool.not_eq_true', Bool.not_eq_false', Bool.not_true, Bool.not_false, decide_eq_true_eq, decide_eq_false_iff_not] at _h); (try (guard_hyp _h : True; clear _h)); first | done | contradiction | exact absurd ((Eq.symm _h).trans (show _ = true by assumption)) (by decide) | exact absurd ((Eq.symm _h).trans (show _ = false by assumption)) (by decide) | (conv => whnf))) | (intro _h; ((first | replace _h := of_decide_eq_true _h | replace _h := of_decide_eq_false _h | skip); (try simp only [Bool.not_eq_true', Bool.not_eq_false', Bool.not_true, Bool.not_false, decide_eq_true_eq, decide_eq_false_iff_not] at _h); (try (guard_hyp _h : True; clear _h)); first | done | contradiction | exact absurd ((Eq.symm _h).trans (show _ = true by assumption)) (by decide) | exact absurd ((Eq.symm _h).trans (show _ = false by assumption)) (by decide) | (conv => whnf)))))
    rw [get_mid1 el, set_mid1 el, Int.zero_add, wrap_u32 (n := (p + c) / 4294967296) (by omega) (by omega)]
    ((conv => whnf); repeat' (first | (refine And.intro ?_ ?_; (focus (first | rfl | decide | assumption | omega | decide +kernel | exact ⟨rfl, rfl⟩ | exact ⟨rfl, rfl, rfl, rfl⟩ | exact fun h => Bool.noConfusion h | exact fun _ => rfl | exact Nat.le_of_ble_eq_true rfl | (simp only [List.length_map, List.length_append, List.length_replicate, List.length_take, List.length_drop, List.length_set, List.length_cons, List.length_nil]; omega))); (conv => whnf)) | ((refine And.intro ?_ ?_ <;> intro _h); all_goals ((first | replace _h := of_decide_eq_true _h | replace _h := of_decide_eq_false _h | skip); (try simp only [Bool.not_eq_true', Bool.not_eq_false', Bool.not_true, Bool.not_false, decide_eq_true_eq, decide_eq_false_iff_not] at _h); (try (guard_hyp _h : True; clear _h)); first | done | contradiction | exact absurd ((Eq.symm _h).trans (show _ = true by assumption)) (by decide) | exact absurd ((Eq.symm _h).trans (show _ = false by assumption)) (by decide) | (conv => whnf))) | (intro _h; ((first | replace _h := of_decide_eq_true _h | replace _h := of_decide_eq_false _h | skip); (try simp only [Bool.not_eq_true', Bool.not_eq_false', Bool.not_true, Bool.not_false, decide_eq_true_eq, decide_eq_false_iff_not] at _h); (try (guard_hyp _h : True; clear _h)); first | done | contradiction | exact absurd ((Eq.symm _h).trans (show _ = true by assumption)) (by decide) | exact absurd ((Eq.symm _h).trans (show _ = false by assumption)) (by decide) | (conv => whnf)))))
    have e0 : IntKind.u32.wrap ((us ++ [(p + c) % 4294967296, (p + c) / 4294967296]).getD (0 : Int).toNat 0 * n0) = (us.getD 0 0 * n0) % 4294967296 := by
      rw [wrap_mod]
      congr 2
      show (us ++ _).getD 0 0 = _
      rw [List.getD_eq_getElem?_getD, List.getElem?_append_left (by omega), ← List.getD_eq_getElem?_getD]
    refine acall [0] (f44' us [(p + c) % 4294967296, (p + c) / 4294967296] n ((us.getD 0 0 * n0) % 4294967296) hu (by intro y hy; simp at hy; omega) hn (by omega) el (by simp; omega)) rfl ⟨⟨by decide, rfl⟩, trivial⟩ (by rw [← e0]; rfl) (fun h => absurd h (by decide)) fun st' nx' r hr => ?_
    obtain ⟨us2, c2, rfl, rfl, rfl, hul2, hu2, hc2, hv2⟩ := hr
    ((conv => whnf); repeat' (first | (refine And.intro ?_ ?_; (focus (first | rfl | decide | assumption | omega | decide +kernel | exact ⟨rfl, rfl⟩ | exact ⟨rfl, rfl, rfl, rfl⟩ | exact fun h => Bool.noConfusion h | exact fun _ => rfl | exact Nat.le_of_ble_eq_true rfl | (simp only [List.length_map, List.length_append, List.length_replicate, List.length_take, List.length_drop, List.length_set, List.length_cons, List.length_nil]; omega))); (conv => whnf)) | ((refine And.intro ?_ ?_ <;> intro _h); all_goals ((first | replace _h := of_decide_eq_true _h | replace _h := of_decide_eq_false _h | skip); (try simp only [Bool.not_eq_true', Bool.not_eq_false', Bool.not_true, Bool.not_false, decide_eq_true_eq, decide_eq_false_iff_not] at _h); (try (guard_hyp _h : True; clear _h)); first | done | contradiction | exact absurd ((Eq.symm _h).trans (show _ = true by assumption)) (by decide) | exact absurd ((Eq.symm _h).trans (show _ = false by assumption)) (by decide) | (conv => whnf))) | (intro _h; ((first | replace _h := of_decide_eq_true _h | replace _h := of_decide_eq_false _h | skip); (try simp only [Bool.not_eq_true', Bool.not_eq_false', Bool.not_true, Bool.not_false, decide_eq_true_eq, decide_eq_false_iff_not] at _h); (try (guard_hyp _h : True; clear _h)); first | done | contradiction | exact absurd ((Eq.symm _h).trans (show _ = true by assumption)) (by decide) | exact absurd ((Eq.symm _h).trans (show _ = false by assumption)) (by decide) | (conv => whnf)))))
    rw [get_mid hul2]
    refine acallI (f45 ((p + c) % 4294967296) c2 0 (by omega) hc2 (by omega)) rfl fun r hr => ?_
    subst hr
    ((conv => whnf); repeat' (first | (refine And.intro ?_ ?_; (focus (first | rfl | decide | assumption | omega | decide +kernel | exact ⟨rfl, rfl⟩ | exact ⟨rfl, rfl, rfl, rfl⟩ | exact fun h => Bool.noConfusion h | exact fun _ => rfl | exact Nat.le_of_ble_eq_true rfl | (simp only [List.length_map, List.length_append, List.length_replicate, List.length_take, List.length_drop, List.length_set, List.length_cons, List.length_nil]; omega))); (conv => whnf)) | ((refine And.intro ?_ ?_ <;> intro _h); all_goals ((first | replace _h := of_decide_eq_true _h | replace _h := of_decide_eq_false _h | skip); (try simp only [Bool.not_eq_true', Bool.not_eq_false', Bool.not_true, Bool.not_false, decide_eq_true_eq, decide_eq_false_iff_not] at _h); (try (guard_hyp _h : True; clear _h)); first | done | contradiction | exact absurd ((Eq.symm _h).trans (show _ = true by assumption)) (by decide) | exact absurd ((Eq.symm _h).trans (show _ = false by assumption)) (by decide) | (conv => whnf))) | (intro _h; ((first | replace _h := of_decide_eq_true _h | replace _h := of_decide_eq_false _h | skip); (try simp only [Bool.not_eq_true', Bool.not_eq_false', Bool.not_true, Bool.not_false, decide_eq_true_eq, decide_eq_false_iff_not] at _h); (try (guard_hyp _h : True; clear _h)); first | done | contradiction | exact absurd ((Eq.symm _h).trans (show _ = true by assumption)) (by decide) | exact absurd ((Eq.symm _h).trans (show _ = false by assumption)) (by decide) | (conv => whnf)))))
    rw [set_mid hul2, Int.add_zero]
    ((conv => whnf); repeat' (first | (refine And.intro ?_ ?_; (focus (first | rfl | decide | assumption | omega | decide +kernel | exact ⟨rfl, rfl⟩ | exact ⟨rfl, rfl, rfl, rfl⟩ | exact fun h => Bool.noConfusion h | exact fun _ => rfl | exact Nat.le_of_ble_eq_true rfl | (simp only [List.length_map, List.length_append, List.length_replicate, List.length_take, List.length_drop, List.length_set, List.length_cons, List.length_nil]; omega))); (conv => whnf)) | ((refine And.intro ?_ ?_ <;> intro _h); all_goals ((first | replace _h := of_decide_eq_true _h | replace _h := of_decide_eq_false _h | skip); (try simp only [Bool.not_eq_true', Bool.not_eq_false', Bool.not_true, Bool.not_false, decide_eq_true_eq, decide_eq_false_iff_not] at _h); (try (guard_hyp _h : True; clear _h)); first | done | contradiction | exact absurd ((Eq.symm _h).trans (show _ = true by assumption)) (by decide) | exact absurd ((Eq.symm _h).trans (show _ = false by assumption)) (by decide) | (conv => whnf))) | (intro _h; ((first | replace _h := of_decide_eq_true _h | replace _h := of_decide_eq_false _h | skip); (try simp only [Bool.not_eq_true', Bool.not_eq_false', Bool.not_true, Bool.not_false, decide_eq_true_eq, decide_eq_false_iff_not] at _h); (try (guard_hyp _h : True; clear _h)); first | done | contradiction | exact absurd ((Eq.symm _h).trans (show _ = true by assumption)) (by decide) | exact absurd ((Eq.symm _h).trans (show _ = false by assumption)) (by decide) | (conv => whnf)))))
    rw [hw1]
    ((conv => whnf); repeat' (first | (refine And.intro ?_ ?_; (focus (first | rfl | decide | assumption | omega | decide +kernel | exact ⟨rfl, rfl⟩ | exact ⟨rfl, rfl, rfl, rfl⟩ | exact fun h => Bool.noConfusion h | exact fun _ => rfl | exact Nat.le_of_ble_eq_true rfl | (simp only [List.length_map, List.length_append, List.length_replicate, List.length_take, List.length_drop, List.length_set, List.length_cons, List.length_nil]; omega))); (conv => whnf)) | ((refine And.intro ?_ ?_ <;> intro _h); all_goals ((first | replace _h := of_decide_eq_true _h | replace _h := of_decide_eq_false _h | skip); (try simp only [Bool.not_eq_true', Bool.not_eq_false', Bool.not_true, Bool.not_false, decide_eq_true_eq, decide_eq_false_iff_not] at _h); (try (guard_hyp _h : True; clear _h)); first | done | contradiction | exact absurd ((Eq.symm _h).trans (show _ = true by assumption)) (by decide) | exact absurd ((Eq.symm _h).trans (show _ = false by assumption)) (by decide) | (conv => whnf))) | (intro _h; ((first | replace _h := of_decide_eq_true _h | replace _h := of_decide_eq_false _h | skip); (try simp only [Bool.not_eq_true', Bool.not_eq_false', Bool.not_true, Bool.not_false, decide_eq_true_eq, decide_eq_false_iff_not] at _h); (try (guard_hyp _h : True; clear _h)); first | done | contradiction | exact absurd ((Eq.symm _h).trans (show _ = true by assumption)) (by decide) | exact absurd ((Eq.symm _h).trans (show _ = false by assumption)) (by decide) | (conv => whnf)))))
    rw [get_mid1 hul2, set_mid1 hul2, wrap_u32 (n := (p + c) / 4294967296 + ((p + c) % 4294967296 + c2) / 4294967296) (by omega) (by omega)]
    ((conv => whnf); repeat' (first | (refine And.intro ?_ ?_; (focus (first | rfl | decide | assumption | omega | decide +kernel | exact ⟨rfl, rfl⟩ | exact ⟨rfl, rfl, rfl, rfl⟩ | exact fun h => Bool.noConfusion h | exact fun _ => rfl | exact Nat.le_of_ble_eq_true rfl | (simp only [List.length_map, List.length_append, List.length_replicate, List.length_take, List.length_drop, List.length_set, List.length_cons, List.length_nil]; omega))); (conv => whnf)) | ((refine And.intro ?_ ?_ <;> intro _h); all_goals ((first | replace _h := of_decide_eq_true _h | replace _h := of_decide_eq_false _h | skip); (try simp only [Bool.not_eq_true', Bool.not_eq_false', Bool.not_true, Bool.not_false, decide_eq_true_eq, decide_eq_false_iff_not] at _h); (try (guard_hyp _h : True; clear _h)); first | done | contradiction | exact absurd ((Eq.symm _h).trans (show _ = true by assumption)) (by decide) | exact absurd ((Eq.symm _h).trans (show _ = false by assumption)) (by decide) | (conv => whnf))) | (intro _h; ((first | replace _h := of_decide_eq_true _h | replace _h := of_decide_eq_false _h | skip); (try simp only [Bool.not_eq_true', Bool.not_eq_false', Bool.not_true, Bool.not_false, decide_eq_true_eq, decide_eq_false_iff_not] at _h); (try (guard_hyp _h : True; clear _h)); first | done | contradiction | exact absurd ((Eq.symm _h).trans (show _ = true by assumption)) (by decide) | exact absurd ((Eq.symm _h).trans (show _ = false by assumption)) (by decide) | (conv => whnf)))))
    obtain ⟨w', hw'⟩ : ∃ w', n.length = w' + 1 := ⟨n.length - 1, by have := List.length_pos_iff.2 hbl.1; omega⟩
    have hz := mont_zero (w := w') hu2 (by rw [← hw']; exact hv2) hinv
    obtain ⟨u0, us3, rfl⟩ : ∃ u us3, us2 = u :: us3 := by
      cases us2 with
      | nil => simp at hul2; omega
      | cons u us3 => exact ⟨u, us3, rfl⟩
    have hz0 : u0 = 0 := by simpa using hz
    subst hz0
    have hl3 : us3.length = w' := by simp at hul2; omega
    have hq : 0 ≤ (us.getD 0 0 * n0) % 4294967296 ∧ (us.getD 0 0 * n0) % 4294967296 < 4294967296 := by omega
    refine ⟨(i + 1, us3 ++ [((p + c) % 4294967296 + c2) % 4294967296], (p + c) / 4294967296 + ((p + c) % 4294967296 + c2) / 4294967296, Q + pw i * ((us.getD 0 0 * n0) % 4294967296)), [0], by dsimp only; omega,
      ⟨by dsimp only; omega, by simp [hl3, hw'], ?_, by dsimp only; omega, mont_bound i hQ hq, ?_⟩, rfl, ?_⟩
    · exact hu2.cons.2.append (wfl.one (by omega))
    · dsimp only
      have hr1 : val us + pw (w' + 1) * c = val l + a.getD i 0 * val b := by rw [← hw', ← hlb]; exact hv1
      have hr2 : val (0 :: us3) + pw (w' + 1) * c2 = val us + (us.getD 0 0 * n0) % 4294967296 * val n := by rw [← hw']; exact hv2
      have hr := mont_round (w := w') hl3 hr1 hr2 (p := p)
      rw [take_snoc (by omega), val_snoc (a.take i), List.length_take, Nat.min_eq_left (by omega)]
      rw [hw'] at hv ⊢
      exact mont_inv i hv hr
    · (refine ⟨rfl, rfl, ?_, ?_⟩ <;> repeat' (first | exact True.intro | rfl | decide | (refine And.intro ?_ ?_)))
      · refine di ?_
        rw [wrap_i64 (by omega) (by omega)]; rfl
      · exact congrArg (fun x => some (Ob.row .u32 79 x)) (shift 0 _ _ (by omega))
  · have hia : i = a.length := by omega
    subst hia
    have hne : l ≠ [] := by intro h; subst h; simp at hll; exact hbl.1 (List.eq_nil_of_length_eq_zero hll.symm)
    refine acallP [] [] (f46 l hne (by omega)) rfl trivial trivial ?_ (fun _ => rfl) fun st' nx' r ⟨e1, e2, e3⟩ => ?_
    · show [AVal.d (nat l)] = [if 0 + ((n.length : Int).toNat - 0) ≤ (l ++ [p, 0]).length then AVal.d (D.ints .u32 (((l ++ [p, 0]).drop 0).take ((n.length : Int).toNat - 0))) else .any]
      rw [if_pos (by simp; omega), List.drop_zero, Int.toNat_natCast, Nat.sub_zero, ← hll, List.take_left]
    subst e1; subst e2; subst e3
    refine ⟨rfl, rfl, ?_⟩
    ((conv => whnf); repeat' (first | (refine And.intro ?_ ?_; (focus (first | rfl | decide | assumption | omega | decide +kernel | exact ⟨rfl, rfl⟩ | exact ⟨rfl, rfl, rfl, rfl⟩ | exact fun h => Bool.noConfusion h | exact fun _ => rfl | exact Nat.le_of_ble_eq_true rfl | (simp only [List.length_map, List.length_append, List.length_replicate, List.length_take, List.length_drop, List.length_set, List.length_cons, List.length_nil]; omega))); (conv => whnf)) | ((refine And.intro ?_ ?_ <;> intro _h); all_goals ((first | replace _h := of_decide_eq_true _h | replace _h := of_decide_eq_false _h | skip); (try simp only [Bool.not_eq_true', Bool.not_eq_false', Bool.not_true, Bool.not_false, decide_eq_true_eq, decide_eq_false_iff_not] at _h); (try (guard_hyp _h : True; clear _h)); first | done | contradiction | exact absurd ((Eq.symm _h).trans (show _ = true by assumption)) (by decide) | exact absurd ((Eq.symm _h).trans (show _ = false by assumption)) (by decide) | (conv => whnf))) | (intro _h; ((first | replace _h := of_decide_eq_true _h | replace _h := of_decide_eq_false _h | skip); (try simp only [Bool.not_eq_true', Bool.not_eq_false', Bool.not_true, Bool.not_false, decide_eq_true_eq, decide_eq_false_iff_not] at _h); (try (guard_hyp _h : True; clear _h)); first | done | contradiction | exact absurd ((Eq.symm _h).trans (show _ = true by assumption)) (by decide) | exact absurd ((Eq.symm _h).trans (show _ = false by assumption)) (by decide) | (conv => whnf)))))
    rw [get_mid hll]
    refine acallI (f41 n n0 rr l (!decide (p = 0)) hn hl hbn hll) rfl fun r hr => ?_
    obtain ⟨z, rfl, hz1, hz2, hz3⟩ := hr
    ((conv => whnf); repeat' (first | (refine And.intro ?_ ?_; (focus (first | rfl | decide | assumption | omega | decide +kernel | exact ⟨rfl, rfl⟩ | exact ⟨rfl, rfl, rfl, rfl⟩ | exact fun h => Bool.noConfusion h | exact fun _ => rfl | exact Nat.le_of_ble_eq_true rfl | (simp only [List.length_map, List.length_append, List.length_replicate, List.length_take, List.length_drop, List.length_set, List.length_cons, List.length_nil]; omega))); (conv => whnf)) | ((refine And.intro ?_ ?_ <;> intro _h); all_goals ((first | replace _h := of_decide_eq_true _h | replace _h := of_decide_eq_false _h | skip); (try simp only [Bool.not_eq_true', Bool.not_eq_false', Bool.not_true, Bool.not_false, decide_eq_true_eq, decide_eq_false_iff_not] at _h); (try (guard_hyp _h : True; clear _h)); first | done | contradiction | exact absurd ((Eq.symm _h).trans (show _ = true by assumption)) (by decide) | exact absurd ((Eq.symm _h).trans (show _ = false by assumption)) (by decide) | (conv => whnf))) | (intro _h; ((first | replace _h := of_decide_eq_true _h | replace _h := of_decide_eq_false _h | skip); (try simp only [Bool.not_eq_true', Bool.not_eq_false', Bool.not_true, Bool.not_false, decide_eq_true_eq, decide_eq_false_iff_not] at _h); (try (guard_hyp _h : True; clear _h)); first | done | contradiction | exact absurd ((Eq.symm _h).trans (show _ = true by assumption)) (by decide) | exact absurd ((Eq.symm _h).trans (show _ = false by assumption)) (by decide) | (conv => whnf)))))
    refine Ends.imm rfl ⟨z, rfl, hz1, hz2, ?_⟩
    rw [List.take_of_length_le (Nat.le_refl _)] at hv
    rw [hla] at hv hQ
    refine mont_less hl hll hn rfl hz2 hz1 hp.1 hv ⟨val_nonneg ha, ?_⟩ hQ ⟨val_nonneg hb, hbv⟩ hz3
    rw [← hla]; exact val_lt ha

end Go.Proofs.YtniaeiikdgbnfaaDoor.R
