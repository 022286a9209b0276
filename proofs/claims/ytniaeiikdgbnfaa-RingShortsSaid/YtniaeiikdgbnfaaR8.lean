/- The reference's code, part 1. -/
import Derived.Test.YtniaeiikdgbnfaaR7
import Derived.Test.YtniaeiikdgbnfaaM3
namespace Go.Proofs.Ytniaeiikdgbnfaa.R
open Go Go.RowKit Go.Proofs Go.Proofs.Ytniaeiikdgbnfaa.AW
set_option maxRecDepth 100000
set_option linter.unusedSimpArgs false
set_option linter.unusedVariables false
set_option maxHeartbeats 4000000

abbrev digs (xs : List Int) : D := .ints .i64 xs

theorem f29 (xs : List Int) (hl : xs.length ≤ 1000000) : Imm Try.prog 29 [.d (digs xs)] (fun r => ∃ n, r = .d (digs (xs.take n)) ∧ n ≤ xs.length ∧ (∀ j, n ≤ j → xs.getD j 0 = 0) ∧ (n = 0 ∨ xs.getD (n - 1) 0 ≠ 0)) := by
  (refine Imm.of_awp told0 [] Try.func29 rfl (by decide) (Nat.le_of_ble_eq_true rfl) ?_; intro _w0 _S0 _E0 _B0; ((conv => whnf); repeat' (first | (refine And.intro ?_ ?_; (focus (first | rfl | decide | assumption | omega | decide +kernel | exact ⟨rfl, rfl⟩ | exact ⟨rfl, rfl, rfl, rfl⟩ | exact fun h => Bool.noConfusion h | exact fun _ => rfl | exact Nat.le_of_ble_eq_true rfl | (simp only [List.length_map, List.length_append, List.length_replicate, List.length_take, List.length_drop, List.length_set, List.length_cons, List.length_nil]; omega))); (conv => whnf)) | ((refine And.intro ?_ ?_ <;> intro _h); all_goals ((first | replace _h := of_decide_eq_true _h | replace _h := of_decide_eq_false _h | skip); (try simp only [Bool.not_eq_true', Bool.not_eq_false', Bool.not_true, Bool.not_false, decide_eq_true_eq, decide_eq_false_iff_not] at _h); (try (guard_hyp _h : True; clear _h)); first | done | contradiction | exact absurd ((Eq.symm _h).trans (show _ = true by assumption)) (by decide) | exact absurd ((Eq.symm _h).trans (show _ = false by assumption)) (by decide) | (conv => whnf))) | (intro _h; ((first | replace _h := of_decide_eq_true _h | replace _h := of_decide_eq_false _h | skip); (try simp only [Bool.not_eq_true', Bool.not_eq_false', Bool.not_true, Bool.not_false, decide_eq_true_eq, decide_eq_false_iff_not] at _h); (try (guard_hyp _h : True; clear _h)); first | done | contradiction | exact absurd ((Eq.symm _h).trans (show _ = true by assumption)) (by decide) | exact absurd ((Eq.symm _h).trans (show _ = false by assumption)) (by decide) | (conv => whnf))))))
  refine aloop (T := told0) (ι := Nat) (fun n => [(0, .d (digs xs)), (3, i64 n)]) (fun _ => []) 21 0 (fun n => n) (fun n => n ≤ xs.length ∧ ∀ j, n ≤ j → xs.getD j 0 = 0)
    ⟨xs.length, [], rfl, ⟨Nat.le_refl _, fun j hj => by rw [List.getD_eq_getElem?_getD, List.getElem?_eq_none hj]; rfl⟩, by (refine ⟨rfl, rfl, ?_, ?_⟩ <;> repeat' (first | exact True.intro | rfl | decide | (refine And.intro ?_ ?_)))⟩ ?_
  intro n ⟨hn, hz⟩
  ((conv => whnf); repeat' (first | (refine And.intro ?_ ?_; (focus (first | rfl | decide | assumption | omega | decide +kernel | exact ⟨rfl, rfl⟩ | exact ⟨rfl, rfl, rfl, rfl⟩ | exact fun h => Bool.noConfusion h | exact fun _ => rfl | exact Nat.le_of_ble_eq_true rfl | (simp only [List.length_map, List.length_append, List.length_replicate, List.length_take, List.length_drop, List.length_set, List.length_cons, List.length_nil]; omega))); (conv => whnf)) | ((refine And.intro ?_ ?_ <;> intro _h); all_goals ((first | replace _h := of_decide_eq_true _h | replace _h := of_decide_eq_false _h | skip); (try simp only [Bool.not_eq_true', Bool.not_eq_false', Bool.not_true, Bool.not_false, decide_eq_true_eq, decide_eq_false_iff_not] at _h); (try (guard_hyp _h : True; clear _h)); first | done | contradiction | exact absurd ((Eq.symm _h).trans (show _ = true by assumption)) (by decide) | exact absurd ((Eq.symm _h).trans (show _ = false by assumption)) (by decide) | (conv => whnf))) | (intro _h; ((first | replace _h := of_decide_eq_true _h | replace _h := of_decide_eq_false _h | skip); (try simp only [Bool.not_eq_true', Bool.not_eq_false', Bool.not_true, Bool.not_false, decide_eq_true_eq, decide_eq_false_iff_not] at _h); (try (guard_hyp _h : True; clear _h)); first | done | contradiction | exact absurd ((Eq.symm _h).trans (show _ = true by assumption)) (by decide) | exact absurd ((Eq.symm _h).trans (show _ = false by assumption)) (by decide) | (conv => whnf)))))
  · obtain ⟨m, rfl⟩ : ∃ m, n = m + 1 := ⟨n - 1, by omega⟩
    have em : IntKind.i64.wrap (((m + 1 : Nat) : Int) - 1) = m := by rw [wrap_i64 (by omega) (by omega)]; omega
    rw [em]
    ((conv => whnf); repeat' (first | (refine And.intro ?_ ?_; (focus (first | rfl | decide | assumption | omega | decide +kernel | exact ⟨rfl, rfl⟩ | exact ⟨rfl, rfl, rfl, rfl⟩ | exact fun h => Bool.noConfusion h | exact fun _ => rfl | exact Nat.le_of_ble_eq_true rfl | (simp only [List.length_map, List.length_append, List.length_replicate, List.length_take, List.length_drop, List.length_set, List.length_cons, List.length_nil]; omega))); (conv => whnf)) | ((refine And.intro ?_ ?_ <;> intro _h); all_goals ((first | replace _h := of_decide_eq_true _h | replace _h := of_decide_eq_false _h | skip); (try simp only [Bool.not_eq_true', Bool.not_eq_false', Bool.not_true, Bool.not_false, decide_eq_true_eq, decide_eq_false_iff_not] at _h); (try (guard_hyp _h : True; clear _h)); first | done | contradiction | exact absurd ((Eq.symm _h).trans (show _ = true by assumption)) (by decide) | exact absurd ((Eq.symm _h).trans (show _ = false by assumption)) (by decide) | (conv => whnf))) | (intro _h; ((first | replace _h := of_decide_eq_true _h | replace _h := of_decide_eq_false _h | skip); (try simp only [Bool.not_eq_true', Bool.not_eq_false', Bool.not_true, Bool.not_false, decide_eq_true_eq, decide_eq_false_iff_not] at _h); (try (guard_hyp _h : True; clear _h)); first | done | contradiction | exact absurd ((Eq.symm _h).trans (show _ = true by assumption)) (by decide) | exact absurd ((Eq.symm _h).trans (show _ = false by assumption)) (by decide) | (conv => whnf)))))
    · refine ⟨m, [], by omega, ⟨by omega, fun j hj => ?_⟩, rfl, ?_⟩
      · rcases Nat.lt_or_ge m j with h | h
        · exact hz j h
        · have : j = m := by omega
          subst this; exact _h
      · (refine ⟨rfl, rfl, ?_, ?_⟩ <;> repeat' (first | exact True.intro | rfl | decide | (refine And.intro ?_ ?_)))
        exact di em
    · exact Ends.imm rfl ⟨m + 1, rfl, hn, hz, .inr _h⟩
  · exact Ends.imm rfl ⟨n, rfl, hn, hz, .inl (by omega)⟩

/-- Is the one not less than the other, from above? -/
theorem dvstep (xs : List Int) : dval xs = xs.getD 0 0 + 256 * dval xs.tail := by
  cases xs with
  | nil => simp [dval]
  | cons x xs => simp [dval]
theorem dval_ext : ∀ (n : Nat) (xs ys : List Int), xs.length ≤ n → ys.length ≤ n → (∀ j, xs.getD j 0 = ys.getD j 0) → dval xs = dval ys
  | 0, xs, ys, h1, h2, _ => by
    rw [List.eq_nil_of_length_eq_zero (Nat.le_zero.1 h1), List.eq_nil_of_length_eq_zero (Nat.le_zero.1 h2)]
  | n + 1, xs, ys, h1, h2, h => by
    rw [dvstep xs, dvstep ys, h 0, dval_ext n xs.tail ys.tail (by simp; omega) (by simp; omega) fun j => by rw [getD_tail, getD_tail, h]]
theorem wfd.tail {xs : List Int} (h : wfd xs) : wfd xs.tail := fun x hx => h x (List.mem_of_mem_tail hx)
theorem dcmp_lt : ∀ (k : Nat) (xs ys : List Int), wfd xs → wfd ys → xs.getD k 0 < ys.getD k 0 → (∀ j, k < j → xs.getD j 0 = ys.getD j 0) → dval xs < dval ys
  | 0, xs, ys, hx, hy, h, he => by
    rw [dvstep xs, dvstep ys, dval_ext (max xs.length ys.length) xs.tail ys.tail (by simp; omega) (by simp; omega) fun j => by rw [getD_tail, getD_tail, he _ (by omega)]]
    omega
  | k + 1, xs, ys, hx, hy, h, he => by
    have ih := dcmp_lt k xs.tail ys.tail hx.tail hy.tail (by rw [getD_tail, getD_tail]; exact h) fun j hj => by rw [getD_tail, getD_tail, he _ (by omega)]
    rw [dvstep xs, dvstep ys]
    have := hx.get 0
    have := hy.get 0
    omega

def told31 : AW.Told := ⟨fun _ => false, fun _ _ => [], fun r => if r == 4 then .take 0 (.take 1 (.take 2 (.take 3 (.take 4 (.take 5 (.take 6 (.take 7 (.take 8 .done))))))))
  else if r == 5 then .take 0 (.take 1 (.take 2 (.take 3 (.take 4 (.take 5 (.take 6 (.take 7 (.take 8 (.take 9 .done))))))))) else .done⟩

theorem f31 (xs ys : List Int) (hx : wfd xs) (hy : wfd ys) (hl : xs.length = ys.length) (hs : xs.length ≤ 1000000) : Imm Try.prog 31 [.d (digs xs), .d (digs ys)] (fun r => r = bool (decide (dval ys ≤ dval xs))) := by
  have e0 : IntKind.i64.wrap ((xs.length : Int) - 1) = (xs.length : Int) - 1 := wrap_i64 (by omega) (by omega)
  (refine Imm.of_awp told31 [] Try.func31 rfl (by decide) (Nat.le_of_ble_eq_true rfl) ?_; intro _w0 _S0 _E0 _B0; ((conv => whnf); repeat' (first | (refine And.intro ?_ ?_; (focus (first | rfl | decide | assumption | omega | decide +kernel | exact ⟨rfl, rfl⟩ | exact ⟨rfl, rfl, rfl, rfl⟩ | exact fun h => Bool.noConfusion h | exact fun _ => rfl | exact Nat.le_of_ble_eq_true rfl | (simp only [List.length_map, List.length_append, List.length_replicate, List.length_take, List.length_drop, List.length_set, List.length_cons, List.length_nil]; omega))); (conv => whnf)) | ((refine And.intro ?_ ?_ <;> intro _h); all_goals ((first | replace _h := of_decide_eq_true _h | replace _h := of_decide_eq_false _h | skip); (try simp only [Bool.not_eq_true', Bool.not_eq_false', Bool.not_true, Bool.not_false, decide_eq_true_eq, decide_eq_false_iff_not] at _h); (try (guard_hyp _h : True; clear _h)); first | done | contradiction | exact absurd ((Eq.symm _h).trans (show _ = true by assumption)) (by decide) | exact absurd ((Eq.symm _h).trans (show _ = false by assumption)) (by decide) | (conv => whnf))) | (intro _h; ((first | replace _h := of_decide_eq_true _h | replace _h := of_decide_eq_false _h | skip); (try simp only [Bool.not_eq_true', Bool.not_eq_false', Bool.not_true, Bool.not_false, decide_eq_true_eq, decide_eq_false_iff_not] at _h); (try (guard_hyp _h : True; clear _h)); first | done | contradiction | exact absurd ((Eq.symm _h).trans (show _ = true by assumption)) (by decide) | exact absurd ((Eq.symm _h).trans (show _ = false by assumption)) (by decide) | (conv => whnf))))))
  rw [e0]
  refine aloop (T := told31) (ι := Nat) (fun n => [(0, .d (digs xs)), (1, .d (digs ys)), (5, i64 ((n : Int) - 1))]) (fun _ => []) 31 0 (fun n => n) (fun n => n ≤ xs.length ∧ ∀ j, n ≤ j → xs.getD j 0 = ys.getD j 0)
    ⟨xs.length, [], rfl, ⟨Nat.le_refl _, fun j hj => by rw [List.getD_eq_getElem?_getD, List.getD_eq_getElem?_getD, List.getElem?_eq_none hj, List.getElem?_eq_none (by omega)]⟩, by (refine ⟨rfl, rfl, ?_, ?_⟩ <;> repeat' (first | exact True.intro | rfl | decide | (refine And.intro ?_ ?_)))⟩ ?_
  intro n ⟨hn, he⟩
  ((conv => whnf); repeat' (first | (refine And.intro ?_ ?_; (focus (first | rfl | decide | assumption | omega | decide +kernel | exact ⟨rfl, rfl⟩ | exact ⟨rfl, rfl, rfl, rfl⟩ | exact fun h => Bool.noConfusion h | exact fun _ => rfl | exact Nat.le_of_ble_eq_true rfl | (simp only [List.length_map, List.length_append, List.length_replicate, List.length_take, List.length_drop, List.length_set, List.length_cons, List.length_nil]; omega))); (conv => whnf)) | ((refine And.intro ?_ ?_ <;> intro _h); all_goals ((first | replace _h := of_decide_eq_true _h | replace _h := of_decide_eq_false _h | skip); (try simp only [Bool.not_eq_true', Bool.not_eq_false', Bool.not_true, Bool.not_false, decide_eq_true_eq, decide_eq_false_iff_not] at _h); (try (guard_hyp _h : True; clear _h)); first | done | contradiction | exact absurd ((Eq.symm _h).trans (show _ = true by assumption)) (by decide) | exact absurd ((Eq.symm _h).trans (show _ = false by assumption)) (by decide) | (conv => whnf))) | (intro _h; ((first | replace _h := of_decide_eq_true _h | replace _h := of_decide_eq_false _h | skip); (try simp only [Bool.not_eq_true', Bool.not_eq_false', Bool.not_true, Bool.not_false, decide_eq_true_eq, decide_eq_false_iff_not] at _h); (try (guard_hyp _h : True; clear _h)); first | done | contradiction | exact absurd ((Eq.symm _h).trans (show _ = true by assumption)) (by decide) | exact absurd ((Eq.symm _h).trans (show _ = false by assumption)) (by decide) | (conv => whnf)))))
  · obtain ⟨m, rfl⟩ : ∃ m, n = m + 1 := ⟨n - 1, by omega⟩
    have em : ((m + 1 : Nat) : Int) - 1 = m := by omega
    rw [em, Int.toNat_natCast] at _h ⊢
    refine Ends.imm rfl ?_
    unfold bool
    congr 2
    rw [decide_eq_decide]
    have l1 := dcmp_lt m xs ys hx hy
    have l2 := dcmp_lt m ys xs hy hx
    constructor
    · intro h; have := l2 h fun j hj => (he j hj).symm; omega
    · intro h
      rcases Int.lt_trichotomy (xs.getD m 0) (ys.getD m 0) with h1 | h1 | h1
      · have := l1 h1 fun j hj => he j hj; omega
      · exact (_h h1).elim
      · exact h1
  · obtain ⟨m, rfl⟩ : ∃ m, n = m + 1 := ⟨n - 1, by omega⟩
    have em : ((m + 1 : Nat) : Int) - 1 = m := by omega
    rw [em, Int.toNat_natCast] at _h
    refine ⟨m, [], by omega, ⟨by omega, fun j hj => ?_⟩, rfl, ?_⟩
    · rcases Nat.lt_or_ge m j with h | h
      · exact he j h
      · have : j = m := by omega
        subst this; exact _h
    · (refine ⟨rfl, rfl, ?_, ?_⟩ <;> repeat' (first | exact True.intro | rfl | decide | (refine And.intro ?_ ?_)))
      refine di ?_
      rw [em, wrap_i64 (by omega) (by omega)]
  · refine Ends.imm rfl ?_
    have : n = 0 := by omega
    subst this
    rw [dval_ext xs.length xs ys (Nat.le_refl _) (by omega) fun j => he j (by omega)]
    simp

def told32 : AW.Told := ⟨fun _ => false, fun _ _ => [], fun r => if r == 4 then .take 0 (.take 1 (.take 2 (.take 3 (.take 4 (.take 5 (.take 6 (.take 7 (.take 8 (.take 9 (.take 10 (.take 11 .done))))))))))) else .done⟩

/-- 'Take': a difference, in its place. -/
theorem f32 (xs ys : List Int) (hx : wfd xs) (hy : wfd ys) (hl : xs.length = ys.length) (hs : xs.length ≤ 1000000) (hle : dval ys ≤ dval xs) :
    CSpec Try.prog 32 [.own 0, .d (digs ys)] [(0, .row .i64 3 xs)] 1 (fun st nx r => ∃ zs, st = [(0, .row .i64 3 zs)] ∧ nx = 1 ∧ r = .tup [] ∧ zs.length = xs.length ∧ wfd zs ∧ dval zs = dval xs - dval ys) := by
  refine CSpec.ends (CSpec.of_awp told32 [] Try.func32 rfl (by decide) (Nat.le_of_ble_eq_true rfl) fun _w0 _S0 _E0 _B0 => ?_)
  ((conv => whnf); repeat' (first | (refine And.intro ?_ ?_; (focus (first | rfl | decide | assumption | omega | decide +kernel | exact ⟨rfl, rfl⟩ | exact ⟨rfl, rfl, rfl, rfl⟩ | exact fun h => Bool.noConfusion h | exact fun _ => rfl | exact Nat.le_of_ble_eq_true rfl | (simp only [List.length_map, List.length_append, List.length_replicate, List.length_take, List.length_drop, List.length_set, List.length_cons, List.length_nil]; omega))); (conv => whnf)) | ((refine And.intro ?_ ?_ <;> intro _h); all_goals ((first | replace _h := of_decide_eq_true _h | replace _h := of_decide_eq_false _h | skip); (try simp only [Bool.not_eq_true', Bool.not_eq_false', Bool.not_true, Bool.not_false, decide_eq_true_eq, decide_eq_false_iff_not] at _h); (try (guard_hyp _h : True; clear _h)); first | done | contradiction | exact absurd ((Eq.symm _h).trans (show _ = true by assumption)) (by decide) | exact absurd ((Eq.symm _h).trans (show _ = false by assumption)) (by decide) | (conv => whnf))) | (intro _h; ((first | replace _h := of_decide_eq_true _h | replace _h := of_decide_eq_false _h | skip); (try simp only [Bool.not_eq_true', Bool.not_eq_false', Bool.not_true, Bool.not_false, decide_eq_true_eq, decide_eq_false_iff_not] at _h); (try (guard_hyp _h : True; clear _h)); first | done | contradiction | exact absurd ((Eq.symm _h).trans (show _ = true by assumption)) (by decide) | exact absurd ((Eq.symm _h).trans (show _ = false by assumption)) (by decide) | (conv => whnf)))))
  refine aloop (T := told32) (ι := Nat × List Int × Int) (fun p => [(0, .own 0), (1, .d (digs ys)), (4, i64 p.2.2), (5, i64 p.1)]) (fun p => [(0, .row .i64 3 (p.2.1 ++ xs.drop p.1))]) 32 1
    (fun p => xs.length - p.1) (fun p => p.1 ≤ xs.length ∧ p.2.1.length = p.1 ∧ wfd p.2.1 ∧ (p.2.2 = 0 ∨ p.2.2 = 1) ∧ dval p.2.1 - dpw p.1 * p.2.2 = dval (xs.take p.1) - dval (ys.take p.1))
    ⟨(0, [], 0), [0], rfl, ⟨by omega, rfl, by simp [wfd], .inl rfl, by simp [dval]⟩, by (refine ⟨rfl, rfl, ?_, ?_⟩ <;> repeat' (first | exact True.intro | rfl | decide | (refine And.intro ?_ ?_)))⟩ ?_
  intro ⟨i, zs, c⟩ ⟨hi, hzl, hz, hc, hv⟩
  dsimp only at hi hzl hz hc hv ⊢
  have hlen : (zs ++ xs.drop i).length = xs.length := by simp; omega
  have et : i < xs.length → (zs ++ xs.drop i).getD (i : Int).toNat 0 = xs.getD i 0 := fun hi => by
    rw [Int.toNat_natCast, List.getD_eq_getElem?_getD, List.getElem?_append_right (by omega), List.getElem?_drop, ← List.getD_eq_getElem?_getD, hzl]
    congr 1; omega
  have hxi := hx.get i
  have hyi := hy.get i
  have e1 : IntKind.i64.wrap (IntKind.i64.wrap (xs.getD i 0 - ys.getD i 0) - c) = xs.getD i 0 - ys.getD i 0 - c := by
    rw [wrap_i64 (n := xs.getD i 0 - ys.getD i 0) (by omega) (by omega), wrap_i64 (by omega) (by omega)]
  have key : ∀ (b : Bool) (x : Int), i < xs.length → x = (xs.getD i 0 - ys.getD i 0 - c) % 256 → (b = true ↔ xs.getD i 0 < ys.getD i 0 + c) →
      (0 ≤ x ∧ x < 256) ∧ dval (zs ++ [x]) - dpw (i + 1) * (if b = true then 1 else 0) = dval (xs.take (i + 1)) - dval (ys.take (i + 1)) := fun b x hi hx2 hb => by
    refine ⟨by omega, ?_⟩
    rw [dval_snoc, hzl, take_snoc (by omega), take_snoc (by omega), dval_snoc, dval_snoc, List.length_take, List.length_take, Nat.min_eq_left (by omega), Nat.min_eq_left (by omega), dpw_succ, hx2]
    have := sub_dig (dpw i) hxi hyi hc hv
    by_cases hbb : xs.getD i 0 < ys.getD i 0 + c
    · rw [if_pos (hb.2 hbb)]; rw [if_pos hbb] at this; exact this
    · rw [if_neg (fun h => hbb (hb.1 h))]; rw [if_neg hbb] at this; exact this
  ((conv => whnf); repeat' (first | (refine And.intro ?_ ?_; (focus (first | rfl | decide | assumption | omega | decide +kernel | exact ⟨rfl, rfl⟩ | exact ⟨rfl, rfl, rfl, rfl⟩ | exact fun h => Bool.noConfusion h | exact fun _ => rfl | exact Nat.le_of_ble_eq_true rfl | (simp only [List.length_map, List.length_append, List.length_replicate, List.length_take, List.length_drop, List.length_set, List.length_cons, List.length_nil]; omega))); (conv => whnf)) | ((refine And.intro ?_ ?_ <;> intro _h); all_goals ((first | replace _h := of_decide_eq_true _h | replace _h := of_decide_eq_false _h | skip); (try simp only [Bool.not_eq_true', Bool.not_eq_false', Bool.not_true, Bool.not_false, decide_eq_true_eq, decide_eq_false_iff_not] at _h); (try (guard_hyp _h : True; clear _h)); first | done | contradiction | exact absurd ((Eq.symm _h).trans (show _ = true by assumption)) (by decide) | exact absurd ((Eq.symm _h).trans (show _ = false by assumption)) (by decide) | (conv => whnf))) | (intro _h; ((first | replace _h := of_decide_eq_true _h | replace _h := of_decide_eq_false _h | skip); (try simp only [Bool.not_eq_true', Bool.not_eq_false', Bool.not_true, Bool.not_false, decide_eq_true_eq, decide_eq_false_iff_not] at _h); (try (guard_hyp _h : True; clear _h)); first | done | contradiction | exact absurd ((Eq.symm _h).trans (show _ = true by assumption)) (by decide) | exact absurd ((Eq.symm _h).trans (show _ = false by assumption)) (by decide) | (conv => whnf)))))
  · rw [et (by omega), Int.toNat_natCast, e1] at _h
    have k := key true (xs.getD i 0 - ys.getD i 0 - c + 256) (by omega) (by omega) ⟨fun _ => by omega, fun _ => rfl⟩
    refine ⟨(i + 1, zs ++ [xs.getD i 0 - ys.getD i 0 - c + 256], 1), [0], by dsimp only; omega, ⟨by dsimp only; omega, by simp [hzl], hz.append (wfd.one k.1), .inr rfl, by simpa using k.2⟩, rfl, ?_⟩
    (refine ⟨rfl, rfl, ?_, ?_⟩ <;> repeat' (first | exact True.intro | rfl | decide | (refine And.intro ?_ ?_)))
    · refine di ?_
      rw [wrap_i64 (by omega) (by omega)]; rfl
    · show some (Ob.row .i64 3 ((zs ++ xs.drop i).set (i : Int).toNat _)) = some (Ob.row .i64 3 _)
      rw [et (by omega), Int.toNat_natCast, e1, wrap_i64 (by omega) (by omega), set_row hzl (by omega)]
  · rw [et (by omega), Int.toNat_natCast, e1] at _h
    have k := key false (xs.getD i 0 - ys.getD i 0 - c) (by omega) (by omega) ⟨(fun h => by cases h), fun h => by omega⟩
    refine ⟨(i + 1, zs ++ [xs.getD i 0 - ys.getD i 0 - c], 0), [0], by dsimp only; omega, ⟨by dsimp only; omega, by simp [hzl], hz.append (wfd.one k.1), .inl rfl, by simpa using k.2⟩, rfl, ?_⟩
    (refine ⟨rfl, rfl, ?_, ?_⟩ <;> repeat' (first | exact True.intro | rfl | decide | (refine And.intro ?_ ?_)))
    · refine di ?_
      rw [wrap_i64 (by omega) (by omega)]; rfl
    · show some (Ob.row .i64 3 ((zs ++ xs.drop i).set (i : Int).toNat _)) = some (Ob.row .i64 3 _)
      rw [et (by omega), Int.toNat_natCast, e1, set_row hzl (by omega)]
  · have hie : i = xs.length := by omega
    subst hie
    have hc0 : c = 0 := by
      rcases hc with h | h
      · exact h
      · subst h
        have h1 := dval_lt hz
        rw [List.take_of_length_le (Nat.le_refl _), List.take_of_length_le (by omega)] at hv
        rw [hzl] at h1
        omega
    subst hc0
    refine ⟨[0], [(0, .row .i64 3 zs)], .tup [], ⟨rfl, ⟨⟨by decide, ?_⟩, trivial⟩, rfl⟩, zs, rfl, rfl, rfl, hzl, hz, ?_⟩
    · show some (Ob.row .i64 3 (zs ++ xs.drop xs.length)) = some (Ob.row .i64 3 zs)
      rw [List.drop_length, List.append_nil]
    · rw [List.take_of_length_le (Nat.le_refl _), List.take_of_length_le (by omega)] at hv
      omega

end Go.Proofs.Ytniaeiikdgbnfaa.R
