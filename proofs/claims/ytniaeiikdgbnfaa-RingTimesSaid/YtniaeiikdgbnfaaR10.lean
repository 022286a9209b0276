/- The reference's code, part 3: comparison, powers of 2, digits. -/
import Derived.Test.YtniaeiikdgbnfaaR9
namespace Go.Proofs.Ytniaeiikdgbnfaa.R
open Go Go.RowKit Go.Proofs Go.Proofs.Ytniaeiikdgbnfaa.AW
set_option maxRecDepth 100000
set_option linter.unusedSimpArgs false
set_option linter.unusedVariables false
set_option maxHeartbeats 4000000

theorem dpw_le {m n : Nat} (h : m ≤ n) : dpw m ≤ dpw n := by
  obtain ⟨j, rfl⟩ : ∃ j, n = m + j := ⟨n - m, by omega⟩
  rw [dpw_add m j]
  have := dpw_pos m
  have := dpw_pos j
  have : dpw m * 1 ≤ dpw m * dpw j := Int.mul_le_mul_of_nonneg_left (by omega) (by omega)
  omega

/-- The shorter one is less. -/
theorem short_lt {xs ys : List Int} (hx : wfd xs) (hy : wfd ys) (ht : trimmed ys) (hl : xs.length < ys.length) : dval xs < dval ys := by
  have h1 := dval_lt hx
  obtain ⟨n, hn⟩ : ∃ n, ys.length = n + 1 := ⟨ys.length - 1, by omega⟩
  have h2 : ys.getD n 0 ≠ 0 := by
    rcases ht with h | h
    · subst h; simp at hn
    · rw [hn] at h; exact h
  have h3 := hy.get n
  have h4 := dval_take_succ ys n
  rw [List.take_of_length_le (by omega)] at h4
  have h5 := dval_nonneg (hy.take n)
  have h6 := dpw_pos n
  have h7 : dpw n * 1 ≤ dpw n * ys.getD n 0 := Int.mul_le_mul_of_nonneg_left (by omega) (by omega)
  have h8 := dpw_le (show xs.length ≤ n by omega)
  omega

def told26 : AW.Told := ⟨fun _ => false, fun _ _ => [], fun r => if r == 8 || r == 10 then .take 0 (.take 1 (.take 2 (.take 3 (.take 4 (.take 5 (.take 6 (.take 7 (.take 8 .done)))))))) else .done⟩

theorem f26 (xs ys : List Int) (hx : wfd xs) (hy : wfd ys) (htx : trimmed xs) (hty : trimmed ys) (hs : xs.length ≤ 1000000) : Imm Try.prog 26 [.d (digs xs), .d (digs ys)] (fun r => r = i64 (sgn (dval xs) (dval ys))) := by
  have e0 : IntKind.i64.wrap ((xs.length : Int) - 1) = (xs.length : Int) - 1 := wrap_i64 (by omega) (by omega)
  (refine Imm.of_awp told26 [] Try.func26 rfl (by decide) (Nat.le_of_ble_eq_true rfl) ?_; intro _w0 _S0 _E0 _B0; ((conv => whnf); repeat' (first | (refine And.intro ?_ ?_; (focus (first | rfl | decide | assumption | omega | decide +kernel | exact ⟨rfl, rfl⟩ | exact ⟨rfl, rfl, rfl, rfl⟩ | exact fun h => Bool.noConfusion h | exact fun _ => rfl | exact Nat.le_of_ble_eq_true rfl | (simp only [List.length_map, List.length_append, List.length_replicate, List.length_take, List.length_drop, List.length_set, List.length_cons, List.length_nil]; omega))); (conv => whnf)) | ((refine And.intro ?_ ?_ <;> intro _h); all_goals ((first | replace _h := of_decide_eq_true _h | replace _h := of_decide_eq_false _h | skip); (try simp only [Bool.not_eq_true', Bool.not_eq_false', Bool.not_true, Bool.not_false, decide_eq_true_eq, decide_eq_false_iff_not] at _h); (try (guard_hyp _h : True; clear _h)); first | done | contradiction | exact absurd ((Eq.symm _h).trans (show _ = true by assumption)) (by decide) | exact absurd ((Eq.symm _h).trans (show _ = false by assumption)) (by decide) | (conv => whnf))) | (intro _h; ((first | replace _h := of_decide_eq_true _h | replace _h := of_decide_eq_false _h | skip); (try simp only [Bool.not_eq_true', Bool.not_eq_false', Bool.not_true, Bool.not_false, decide_eq_true_eq, decide_eq_false_iff_not] at _h); (try (guard_hyp _h : True; clear _h)); first | done | contradiction | exact absurd ((Eq.symm _h).trans (show _ = true by assumption)) (by decide) | exact absurd ((Eq.symm _h).trans (show _ = false by assumption)) (by decide) | (conv => whnf))))))
  · refine Ends.imm rfl (di ?_)
    have := short_lt hx hy hty (by omega)
    unfold sgn; rw [if_pos this]
  · refine Ends.imm rfl (di ?_)
    have := short_lt hy hx htx (by omega)
    unfold sgn; rw [if_neg (by omega), if_pos this]
  · have hl := _h
    rw [e0]
    refine aloop (T := told26) (ι := Nat) (fun n => [(0, .d (digs xs)), (1, .d (digs ys)), (5, i64 ((n : Int) - 1))]) (fun _ => []) 41 0 (fun n => n) (fun n => n ≤ xs.length ∧ ∀ j, n ≤ j → xs.getD j 0 = ys.getD j 0)
      ⟨xs.length, [], rfl, ⟨Nat.le_refl _, fun j hj => by rw [List.getD_eq_getElem?_getD, List.getD_eq_getElem?_getD, List.getElem?_eq_none hj, List.getElem?_eq_none (by omega)]⟩, by (refine ⟨rfl, rfl, ?_, ?_⟩ <;> repeat' (first | exact True.intro | rfl | decide | (refine And.intro ?_ ?_)))⟩ ?_
    intro n ⟨hn, he⟩
    have l1 := fun (m : Nat) => dcmp_lt m xs ys hx hy
    have l2 := fun (m : Nat) => dcmp_lt m ys xs hy hx
    ((conv => whnf); repeat' (first | (refine And.intro ?_ ?_; (focus (first | rfl | decide | assumption | omega | decide +kernel | exact ⟨rfl, rfl⟩ | exact ⟨rfl, rfl, rfl, rfl⟩ | exact fun h => Bool.noConfusion h | exact fun _ => rfl | exact Nat.le_of_ble_eq_true rfl | (simp only [List.length_map, List.length_append, List.length_replicate, List.length_take, List.length_drop, List.length_set, List.length_cons, List.length_nil]; omega))); (conv => whnf)) | ((refine And.intro ?_ ?_ <;> intro _h); all_goals ((first | replace _h := of_decide_eq_true _h | replace _h := of_decide_eq_false _h | skip); (try simp only [Bool.not_eq_true', Bool.not_eq_false', Bool.not_true, Bool.not_false, decide_eq_true_eq, decide_eq_false_iff_not] at _h); (try (guard_hyp _h : True; clear _h)); first | done | contradiction | exact absurd ((Eq.symm _h).trans (show _ = true by assumption)) (by decide) | exact absurd ((Eq.symm _h).trans (show _ = false by assumption)) (by decide) | (conv => whnf))) | (intro _h; ((first | replace _h := of_decide_eq_true _h | replace _h := of_decide_eq_false _h | skip); (try simp only [Bool.not_eq_true', Bool.not_eq_false', Bool.not_true, Bool.not_false, decide_eq_true_eq, decide_eq_false_iff_not] at _h); (try (guard_hyp _h : True; clear _h)); first | done | contradiction | exact absurd ((Eq.symm _h).trans (show _ = true by assumption)) (by decide) | exact absurd ((Eq.symm _h).trans (show _ = false by assumption)) (by decide) | (conv => whnf)))))
    · obtain ⟨m, rfl⟩ : ∃ m, n = m + 1 := ⟨n - 1, by omega⟩
      have em : ((m + 1 : Nat) : Int) - 1 = m := by omega
      rw [em, Int.toNat_natCast] at _h
      have := l1 m _h fun j hj => he j hj
      refine Ends.imm rfl (di ?_)
      unfold sgn; rw [if_pos this]
    · obtain ⟨m, rfl⟩ : ∃ m, n = m + 1 := ⟨n - 1, by omega⟩
      have em : ((m + 1 : Nat) : Int) - 1 = m := by omega
      rw [em, Int.toNat_natCast] at _h
      have := l2 m _h fun j hj => (he j hj).symm
      refine Ends.imm rfl (di ?_)
      unfold sgn; rw [if_neg (by omega), if_pos this]
    · obtain ⟨m, rfl⟩ : ∃ m, n = m + 1 := ⟨n - 1, by omega⟩
      have em : ((m + 1 : Nat) : Int) - 1 = m := by omega
      rename_i h1
      rw [em, Int.toNat_natCast] at _h h1
      refine ⟨m, [], by omega, ⟨by omega, fun j hj => ?_⟩, rfl, ?_⟩
      · rcases Nat.lt_or_ge m j with h | h
        · exact he j h
        · have : j = m := by omega
          subst this; omega
      · (refine ⟨rfl, rfl, ?_, ?_⟩ <;> repeat' (first | exact True.intro | rfl | decide | (refine And.intro ?_ ?_)))
        refine di ?_
        rw [em, wrap_i64 (by omega) (by omega)]
    · refine Ends.imm rfl (di ?_)
      have : n = 0 := by omega
      subst this
      rw [dval_ext xs.length xs ys (Nat.le_refl _) (by omega) fun j => he j (by omega)]
      simp [sgn]

theorem dpw_two (n : Nat) : dpw n = 2 ^ (8 * n) := by
  unfold dpw
  rw [Int.pow_mul]
  rfl

/-- A power of 2. -/
theorem f17 (n : Nat) (hs : n ≤ 100000) : Imm Try.prog 17 [i64 n] (fun r => ∃ zs, r = .d (digs zs) ∧ zs.length ≤ n + 1 ∧ wfd zs ∧ dval zs = 2 ^ n) := by
  have e1 : IntKind.i64.wrap ((n : Int).tdiv 8) = ((n / 8 : Nat) : Int) := by
    rw [Int.tdiv_eq_ediv_of_nonneg (by omega), wrap_i64 (by omega) (by omega)]; omega
  have e2 : (n : Int).tmod 8 = ((n % 8 : Nat) : Int) := by
    rw [Int.tmod_eq_emod_of_nonneg (by omega)]; omega
  have e3 : IntKind.i64.wrap (((n / 8 : Nat) : Int) + 1) = ((n / 8 + 1 : Nat) : Int) := by rw [wrap_i64 (by omega) (by omega)]; rfl
  (refine Imm.of_awp told0 [2] Try.func17 rfl (by decide) (Nat.le_of_ble_eq_true rfl) ?_; intro _w0 _S0 _E0 _B0; ((conv => whnf); repeat' (first | (refine And.intro ?_ ?_; (focus (first | rfl | decide | assumption | omega | decide +kernel | exact ⟨rfl, rfl⟩ | exact ⟨rfl, rfl, rfl, rfl⟩ | exact fun h => Bool.noConfusion h | exact fun _ => rfl | exact Nat.le_of_ble_eq_true rfl | (simp only [List.length_map, List.length_append, List.length_replicate, List.length_take, List.length_drop, List.length_set, List.length_cons, List.length_nil]; omega))); (conv => whnf)) | ((refine And.intro ?_ ?_ <;> intro _h); all_goals ((first | replace _h := of_decide_eq_true _h | replace _h := of_decide_eq_false _h | skip); (try simp only [Bool.not_eq_true', Bool.not_eq_false', Bool.not_true, Bool.not_false, decide_eq_true_eq, decide_eq_false_iff_not] at _h); (try (guard_hyp _h : True; clear _h)); first | done | contradiction | exact absurd ((Eq.symm _h).trans (show _ = true by assumption)) (by decide) | exact absurd ((Eq.symm _h).trans (show _ = false by assumption)) (by decide) | (conv => whnf))) | (intro _h; ((first | replace _h := of_decide_eq_true _h | replace _h := of_decide_eq_false _h | skip); (try simp only [Bool.not_eq_true', Bool.not_eq_false', Bool.not_true, Bool.not_false, decide_eq_true_eq, decide_eq_false_iff_not] at _h); (try (guard_hyp _h : True; clear _h)); first | done | contradiction | exact absurd ((Eq.symm _h).trans (show _ = true by assumption)) (by decide) | exact absurd ((Eq.symm _h).trans (show _ = false by assumption)) (by decide) | (conv => whnf))))))
  rw [e1, e3]
  ((conv => whnf); repeat' (first | (refine And.intro ?_ ?_; (focus (first | rfl | decide | assumption | omega | decide +kernel | exact ⟨rfl, rfl⟩ | exact ⟨rfl, rfl, rfl, rfl⟩ | exact fun h => Bool.noConfusion h | exact fun _ => rfl | exact Nat.le_of_ble_eq_true rfl | (simp only [List.length_map, List.length_append, List.length_replicate, List.length_take, List.length_drop, List.length_set, List.length_cons, List.length_nil]; omega))); (conv => whnf)) | ((refine And.intro ?_ ?_ <;> intro _h); all_goals ((first | replace _h := of_decide_eq_true _h | replace _h := of_decide_eq_false _h | skip); (try simp only [Bool.not_eq_true', Bool.not_eq_false', Bool.not_true, Bool.not_false, decide_eq_true_eq, decide_eq_false_iff_not] at _h); (try (guard_hyp _h : True; clear _h)); first | done | contradiction | exact absurd ((Eq.symm _h).trans (show _ = true by assumption)) (by decide) | exact absurd ((Eq.symm _h).trans (show _ = false by assumption)) (by decide) | (conv => whnf))) | (intro _h; ((first | replace _h := of_decide_eq_true _h | replace _h := of_decide_eq_false _h | skip); (try simp only [Bool.not_eq_true', Bool.not_eq_false', Bool.not_true, Bool.not_false, decide_eq_true_eq, decide_eq_false_iff_not] at _h); (try (guard_hyp _h : True; clear _h)); first | done | contradiction | exact absurd ((Eq.symm _h).trans (show _ = true by assumption)) (by decide) | exact absurd ((Eq.symm _h).trans (show _ = false by assumption)) (by decide) | (conv => whnf)))))
  rw [e2]
  ((conv => whnf); repeat' (first | (refine And.intro ?_ ?_; (focus (first | rfl | decide | assumption | omega | decide +kernel | exact ⟨rfl, rfl⟩ | exact ⟨rfl, rfl, rfl, rfl⟩ | exact fun h => Bool.noConfusion h | exact fun _ => rfl | exact Nat.le_of_ble_eq_true rfl | (simp only [List.length_map, List.length_append, List.length_replicate, List.length_take, List.length_drop, List.length_set, List.length_cons, List.length_nil]; omega))); (conv => whnf)) | ((refine And.intro ?_ ?_ <;> intro _h); all_goals ((first | replace _h := of_decide_eq_true _h | replace _h := of_decide_eq_false _h | skip); (try simp only [Bool.not_eq_true', Bool.not_eq_false', Bool.not_true, Bool.not_false, decide_eq_true_eq, decide_eq_false_iff_not] at _h); (try (guard_hyp _h : True; clear _h)); first | done | contradiction | exact absurd ((Eq.symm _h).trans (show _ = true by assumption)) (by decide) | exact absurd ((Eq.symm _h).trans (show _ = false by assumption)) (by decide) | (conv => whnf))) | (intro _h; ((first | replace _h := of_decide_eq_true _h | replace _h := of_decide_eq_false _h | skip); (try simp only [Bool.not_eq_true', Bool.not_eq_false', Bool.not_true, Bool.not_false, decide_eq_true_eq, decide_eq_false_iff_not] at _h); (try (guard_hyp _h : True; clear _h)); first | done | contradiction | exact absurd ((Eq.symm _h).trans (show _ = true by assumption)) (by decide) | exact absurd ((Eq.symm _h).trans (show _ = false by assumption)) (by decide) | (conv => whnf)))))
  rw [e1]
  have hb : ∀ k : Fin 8, IntKind.i64.wrap (1 * 2 ^ (min ((k.val : Nat) : Int).toNat (IntKind.bits .i64))) = 2 ^ k.val ∧ 0 ≤ (2 : Int) ^ k.val ∧ (2 : Int) ^ k.val < 256 := by decide
  obtain ⟨h1, h2⟩ := hb ⟨n % 8, by omega⟩
  dsimp only at h1 h2
  rw [h1, Int.toNat_natCast, Int.toNat_natCast]
  have e4 : (List.replicate (n / 8 + 1) (0 : Int)).set (n / 8) (2 ^ (n % 8)) = List.replicate (n / 8) 0 ++ [2 ^ (n % 8)] := by
    rw [show List.replicate (n / 8 + 1) (0 : Int) = List.replicate (n / 8) 0 ++ [0] by rw [show [(0 : Int)] = List.replicate 1 0 from rfl, List.replicate_append_replicate], List.set_append_right _ _ (by simp)]
    simp
  rw [e4]
  have hz : wfd (List.replicate (n / 8) (0 : Int)) := fun x hx => by simp at hx; omega
  refine Ends.imm rfl ⟨_, rfl, by simp; omega, hz.append (wfd.one h2), ?_⟩
  rw [dval_snoc, dval_zeros _ fun x hx => by simp at hx; omega, List.length_replicate, Int.zero_add, dpw_two, ← Int.pow_add]
  congr 1; omega

end Go.Proofs.Ytniaeiikdgbnfaa.R
