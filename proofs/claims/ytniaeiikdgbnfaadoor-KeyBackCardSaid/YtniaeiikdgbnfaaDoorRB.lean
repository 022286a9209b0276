/- Plain law, part 3: numbers in bytes, the lowest first, as the reference has them. -/
import Derived.Test.YtniaeiikdgbnfaaDoorRA
import Derived.Test.YtniaeiikdgbnfaaDoorA2
namespace Go.Proofs.YtniaeiikdgbnfaaDoor.R

/-- What digits are worth: the lowest first. -/
def dval : List Int → Int
  | [] => 0
  | x :: xs => x + 256 * dval xs

def wfd (xs : List Int) : Prop := ∀ x ∈ xs, 0 ≤ x ∧ x < 256

theorem wfd.cons {x : Int} {xs : List Int} (h : wfd (x :: xs)) : (0 ≤ x ∧ x < 256) ∧ wfd xs := ⟨h x (by simp), fun y hy => h y (by simp [hy])⟩
theorem wfd.append {xs ys : List Int} (h1 : wfd xs) (h2 : wfd ys) : wfd (xs ++ ys) := fun x hx => by
  rcases List.mem_append.1 hx with h | h
  · exact h1 x h
  · exact h2 x h
theorem wfd.take {xs : List Int} (h : wfd xs) (n : Nat) : wfd (xs.take n) := fun x hx => h x (List.mem_of_mem_take hx)
theorem wfd.drop {xs : List Int} (h : wfd xs) (n : Nat) : wfd (xs.drop n) := fun x hx => h x (List.mem_of_mem_drop hx)
theorem wfd.get {xs : List Int} (h : wfd xs) (i : Nat) : 0 ≤ xs.getD i 0 ∧ xs.getD i 0 < 256 := by
  rw [List.getD_eq_getElem?_getD]
  rcases Nat.lt_or_ge i xs.length with hi | hi
  · rw [List.getElem?_eq_getElem hi]; exact h _ (List.getElem_mem hi)
  · rw [List.getElem?_eq_none hi]; simp
theorem wfd.one {x : Int} (h : 0 ≤ x ∧ x < 256) : wfd [x] := fun y hy => by simp at hy; subst hy; exact h
theorem wfd.set {xs : List Int} (h : wfd xs) (i : Nat) {x : Int} (hx : 0 ≤ x ∧ x < 256) : wfd (xs.set i x) := fun y hy => by
  rcases List.mem_or_eq_of_mem_set hy with h' | h'
  · exact h y h'
  · subst h'; exact hx

/-- The weight of digit number n. -/
def dpw (n : Nat) : Int := 256 ^ n
theorem dpw_zero : dpw 0 = 1 := rfl
theorem dpw_succ (n : Nat) : dpw (n + 1) = dpw n * 256 := Int.pow_succ ..
theorem dpw_pos (n : Nat) : 0 < dpw n := Int.pow_pos (by omega)
theorem dpw_add (m n : Nat) : dpw (m + n) = dpw m * dpw n := Int.pow_add ..

theorem dval_append : ∀ (xs ys : List Int), dval (xs ++ ys) = dval xs + dpw xs.length * dval ys
  | [], ys => by simp [dval, dpw_zero]
  | x :: xs, ys => by
    simp only [List.cons_append, dval, dval_append xs ys, List.length_cons, dpw_succ, Int.mul_add, Int.add_assoc]
    rw [Int.mul_comm (dpw xs.length) 256, Int.mul_assoc]
theorem dval_snoc (xs : List Int) (x : Int) : dval (xs ++ [x]) = dval xs + dpw xs.length * x := by
  rw [dval_append]; simp [dval]

theorem dval_nonneg : ∀ {xs : List Int}, wfd xs → 0 ≤ dval xs
  | [], _ => by simp [dval]
  | x :: xs, h => by
    have := dval_nonneg h.cons.2
    have := h.cons.1
    simp only [dval]; omega
theorem dval_lt : ∀ {xs : List Int}, wfd xs → dval xs < dpw xs.length
  | [], _ => by simp [dval, dpw_zero]
  | x :: xs, h => by
    have := dval_lt h.cons.2
    have := h.cons.1
    simp only [dval, List.length_cons, dpw_succ]; omega

theorem dval_inj : ∀ {xs ys : List Int}, wfd xs → wfd ys → xs.length = ys.length → dval xs = dval ys → xs = ys
  | [], [], _, _, _, _ => rfl
  | x :: xs, y :: ys, hx, hy, hl, hv => by
    simp only [dval] at hv
    have h1 := hx.cons.1
    have h2 := hy.cons.1
    have e1 : x = y := by omega
    have e2 : dval xs = dval ys := by omega
    rw [e1, dval_inj hx.cons.2 hy.cons.2 (by simpa using hl) e2]

/-- A difference, a digit further. -/
theorem sub_dig {a b d : Int} (p : Int) {x y c : Int} (hx : 0 ≤ x ∧ x < 256) (hy : 0 ≤ y ∧ y < 256) (hc : c = 0 ∨ c = 1) (h : a - p * c = b - d) :
    a + p * ((x - y - c) % 256) - p * 256 * (if x < y + c then 1 else 0) = b + p * x - (d + p * y) := by
  have e : (x - y - c) % 256 - 256 * (if x < y + c then 1 else 0) = x - y - c := by
    rcases hc with rfl | rfl <;> split <;> omega
  have : p * ((x - y - c) % 256) - p * 256 * (if x < y + c then 1 else 0) = p * (x - y - c) := by rw [Int.mul_assoc, ← Int.mul_sub, e]
  rw [Int.mul_sub, Int.mul_sub] at this
  omega

/-- Without noughts at its upper end. -/
def trimmed (xs : List Int) : Prop := xs = [] ∨ xs.getD (xs.length - 1) 0 ≠ 0

theorem dval_zeros : ∀ (xs : List Int), (∀ x ∈ xs, x = 0) → dval xs = 0
  | [], _ => rfl
  | x :: xs, h => by
    have h1 := h x (by simp)
    have h2 := dval_zeros xs fun y hy => h y (by simp [hy])
    simp [dval, h1, h2]

theorem dval_take {xs : List Int} {n : Nat} (h : ∀ j, n ≤ j → xs.getD j 0 = 0) : dval (xs.take n) = dval xs := by
  conv => rhs; rw [← List.take_append_drop n xs]
  rw [dval_append, dval_zeros (xs.drop n) fun x hx => ?_]
  · omega
  · obtain ⟨i, hi, rfl⟩ := List.getElem_of_mem hx
    have := h (n + i) (by omega)
    rw [List.getD_eq_getElem?_getD, List.getElem?_eq_getElem (by simp at hi; omega)] at this
    simpa using this

end Go.Proofs.YtniaeiikdgbnfaaDoor.R

/- The reference's code, part 1. -/
namespace Go.Proofs.YtniaeiikdgbnfaaDoor.R
open Go Go.RowKit Go.Proofs Go.Proofs.YtniaeiikdgbnfaaDoor.AW
set_option linter.unusedSectionVars false
variable [Globs]
set_option maxRecDepth 100000
set_option linter.unusedSimpArgs false
set_option linter.unusedVariables false
set_option maxHeartbeats 4000000

abbrev digs (xs : List Int) : D := .ints .i64 xs

theorem f29 (xs : List Int) (hl : xs.length ≤ 1000000) : Imm Tryd.prog 80 [.d (digs xs)] (fun r => ∃ n, r = .d (digs (xs.take n)) ∧ n ≤ xs.length ∧ (∀ j, n ≤ j → xs.getD j 0 = 0) ∧ (n = 0 ∨ xs.getD (n - 1) 0 ≠ 0)) := by
  (refine Imm.of_awp told0 [] Tryd.func80 rfl (by decide) (Nat.le_of_ble_eq_true rfl) ?_; intro _w0 _S0 _E0 _B0; ((conv => whnf); repeat' (first | (refine And.intro ?_ ?_; (focus (first | rfl | decide | assumption | omega | decide +kernel | exact ⟨rfl, rfl⟩ | exact ⟨rfl, rfl, rfl, rfl⟩ | exact fun h => Bool.noConfusion h | exact fun _ => rfl | exact Nat.le_of_ble_eq_true rfl | (simp only [List.length_map, List.length_append, List.length_replicate, List.length_take, List.length_drop, List.length_set, List.length_cons, List.length_nil]; omega))); (conv => whnf)) | ((refine And.intro ?_ ?_ <;> intro _h); all_goals ((first | replace _h := of_decide_eq_true _h | replace _h := of_decide_eq_false _h | skip); (try simp only [Bool.not_eq_true', Bool.not_eq_false', Bool.not_true, Bool.not_false, decide_eq_true_eq, decide_eq_false_iff_not] at _h); (try (guard_hyp _h : True; clear _h)); first | done | contradiction | exact absurd ((Eq.symm _h).trans (show _ = true by assumption)) (by decide) | exact absurd ((Eq.symm _h).trans (show _ = false by assumption)) (by decide) | (conv => whnf))) | (intro _h; ((first | replace _h := of_decide_eq_true _h | replace _h := of_decide_eq_false _h | skip); (try simp only [Bool.not_eq_true', Bool.not_eq_false', Bool.not_true, Bool.not_false, decide_eq_true_eq, decide_eq_false_iff_not] at _h); (try (guard_hyp _h : True; clear _h)); first | done | contradiction | exact absurd ((Eq.symm _h).trans (show _ = true by assumption)) (by decide) | exact absurd ((Eq.symm _h).trans (show _ = false by assumption)) (by decide) | (conv => whnf))))))
  refine aloop (T := told0) (ι := Nat) (fun n => [(0, .d (digs xs)), (3, i64 n)]) (fun _ => []) 21 0 (fun n => n) (fun n => n ≤ xs.length ∧ ∀ j, n ≤ j → xs.getD j 0 = 0)
    ⟨xs.length, [], rfl, ⟨Nat.le_refl _, fun j hj => by rw [List.getD_eq_getElem?_getD, List.getElem?_eq_none hj]; rfl⟩, by (refine ⟨rfl, rfl, ?_, ?_⟩ <;> repeat' (first | exact True.intro | rfl | decide | (refine And.intro ?_ ?_)))⟩ ?_
  intro n ⟨hn, hz⟩
  ((conv => whnf); repeat' (first | (refine And.intro ?_ ?_; (focus (first | rfl | decide | assumption | omega | decide +kernel | exact ⟨rfl, rfl⟩ | exact ⟨rfl, rfl, rfl, rfl⟩ | exact fun h => Bool.noConfusion h | exact fun _ => rfl | exact Nat.le_of_ble_eq_true rfl | (simp only [List.length_map, List.length_append, List.length_replicate, List.length_take, List.length_drop, List.length_set, List.length_cons, List.length_nil]; omega))); (conv => whnf)) | ((refine And.intro ?_ ?_ <;> intro _h); all_goals ((first | replace _h := of_decide_eq_true _h | replace _h := of_decide_eq_false _h | skip); (try simp only [Bool.not_eq_true', Bool.not_eq_false', Bool.not_true, Bool.not_false, decide_eq_true_eq, decide_eq_false_iff_not] at _h); (try (guard_hyp _h : True; clear _h)); first | done | contradiction | exact absurd ((Eq.symm _h).trans (show _ = true by assumption)) (by decide) | exact absurd ((Eq.symm _h).trans (show _ = false by assumption)) (by decide) | (conv => whnf))) | (intro _h; ((first | replace _h := of_decide_eq_true _h | replace _h := of_decide_eq_false _h | skip); (try simp only [Bool.not_eq_true', Bool.not_eq_false', Bool.not_true, Bool.not_false, decide_eq_true_eq, decide_eq_false_iff_not] at _h); (try (guard_hyp _h : True; clear _h)); first | done | contradiction | exact absurd ((Eq.symm _h).trans (show _ = true by assumption)) (by decide) | exact absurd ((Eq.symm _h).trans (show _ = false by assumption)) (by decide) | (conv => whnf)))))
  · obtain ⟨m, rfl⟩ : ∃ m, n = m + 1 := ⟨n - 1, by omega⟩
    have em : IntKind.i64.wrap (((m + 1 : Nat) : Int) - 1) = m := by rw [wrap_i64 (by omega) (by omega)]; omega
    rw [em]
    ((conv => whnf); repeat' (first | (refine And.intro ?_ ?_; (focus (first | rfl | decide | assumption | omega | decide +kernel | exact ⟨rfl, rfl⟩ | exact ⟨rfl, rfl, rfl, rfl⟩ | exact fun h => Bool.noConfusion h | exact fun _ => rfl | exact Nat.le_of_ble_eq_true rfl | (simp only [List.length_map, List.length_append, List.length_replicate, List.length_take, List.length_drop, List.length_set, List.length_cons, List.length_nil]; omega))); (conv => whnf)) | ((refine And.intro ?_ ?_ <;> intro _h); all_goals ((first | replace _h := of_decide_eq_true _h | replace _h := of_decide_eq_false _h | skip); (try simp only [Bool.not_eq_true', Bool.not_eq_false', Bool.not_true, Bool.not_false, decide_eq_true_eq, decide_eq_false_iff_not] at _h); (try (guard_hyp _h : True; clear _h)); first | done | contradiction | exact absurd ((Eq.symm _h).trans (show _ = true by assumption)) (by decide) | exact absurd ((Eq.symm _h).trans (show _ = false by assumption)) (by decide) | (conv => whnf))) | (intro _h; ((first | replace _h := of_decide_eq_true _h | replace _h := of_decide_eq_false _h | skip); (try simp only [Bool.not_eq_true', Bool.not_eq_false', Bool.not_true, Bool.not_false, decide_eq_true_eq, decide_eq_false_iff_not] at _h); (try (guard_hyp _h : True; clear _h)); first | done | contradiction | exact absurd ((Eq.symm _h).trans (show _ = true by assumption)) (by decide) | exact absurd ((Eq.symm _h).trans (show _ = false by assumption)) (by decide) | (conv => whnf)))))
    · refine ⟨m, [], by omega, ⟨by omega, fun j hj => ?_⟩, rfl, ?_⟩
      · rcases Nat.lt_or_ge m j with h | h
        · exact hz j h
        · have : j = m := by omega
          subst this; exact _h
      · (refine ⟨rfl, rfl, ?_, ?_⟩ <;> repeat' (first | exact True.intro | rfl | decide | (refine And.intro ?_ ?_)))
        exact di em
    · exact Ends.imm rfl ⟨m + 1, rfl, hn, hz, .inr _h⟩
  · exact Ends.imm rfl ⟨n, rfl, hn, hz, .inl (by omega)⟩

/-- Is the one not less than the other, from above? -/
theorem dvstep (xs : List Int) : dval xs = xs.getD 0 0 + 256 * dval xs.tail := by
  cases xs with
  | nil => simp [dval]
  | cons x xs => simp [dval]
theorem dval_ext : ∀ (n : Nat) (xs ys : List Int), xs.length ≤ n → ys.length ≤ n → (∀ j, xs.getD j 0 = ys.getD j 0) → dval xs = dval ys
  | 0, xs, ys, h1, h2, _ => by
    rw [List.eq_nil_of_length_eq_zero (Nat.le_zero.1 h1), List.eq_nil_of_length_eq_zero (Nat.le_zero.1 h2)]
  | n + 1, xs, ys, h1, h2, h => by
    rw [dvstep xs, dvstep ys, h 0, dval_ext n xs.tail ys.tail (by simp; omega) (by simp; omega) fun j => by rw [getD_tail, getD_tail, h]]
theorem wfd.tail {xs : List Int} (h : wfd xs) : wfd xs.tail := fun x hx => h x (List.mem_of_mem_tail hx)
theorem dcmp_lt : ∀ (k : Nat) (xs ys : List Int), wfd xs → wfd ys → xs.getD k 0 < ys.getD k 0 → (∀ j, k < j → xs.getD j 0 = ys.getD j 0) → dval xs < dval ys
  | 0, xs, ys, hx, hy, h, he => by
    rw [dvstep xs, dvstep ys, dval_ext (max xs.length ys.length) xs.tail ys.tail (by simp; omega) (by simp; omega) fun j => by rw [getD_tail, getD_tail, he _ (by omega)]]
    omega
  | k + 1, xs, ys, hx, hy, h, he => by
    have ih := dcmp_lt k xs.tail ys.tail hx.tail hy.tail (by rw [getD_tail, getD_tail]; exact h) fun j hj => by rw [getD_tail, getD_tail, he _ (by omega)]
    rw [dvstep xs, dvstep ys]
    have := hx.get 0
    have := hy.get 0
    omega

def told31 : AW.Told := ⟨fun _ => false, fun _ _ => [], fun r => if r == 4 then .take 0 (.take 1 (.take 2 (.take 3 (.take 4 (.take 5 (.take 6 (.take 7 (.take 8 .done))))))))
  else if r == 5 then .take 0 (.take 1 (.take 2 (.take 3 (.take 4 (.take 5 (.take 6 (.take 7 (.take 8 (.take 9 .done))))))))) else .done⟩

theorem f31 (xs ys : List Int) (hx : wfd xs) (hy : wfd ys) (hl : xs.length = ys.length) (hs : xs.length ≤ 1000000) : Imm Tryd.prog 82 [.d (digs xs), .d (digs ys)] (fun r => r = bool (decide (dval ys ≤ dval xs))) := by
  have e0 : IntKind.i64.wrap ((xs.length : Int) - 1) = (xs.length : Int) - 1 := wrap_i64 (by omega) (by omega)
  (refine Imm.of_awp told31 [] Tryd.func82 rfl (by decide) (Nat.le_of_ble_eq_true rfl) ?_; intro _w0 _S0 _E0 _B0; ((conv => whnf); repeat' (first | (refine And.intro ?_ ?_; (focus (first | rfl | decide | assumption | omega | decide +kernel | exact ⟨rfl, rfl⟩ | exact ⟨rfl, rfl, rfl, rfl⟩ | exact fun h => Bool.noConfusion h | exact fun _ => rfl | exact Nat.le_of_ble_eq_true rfl | (simp only [List.length_map, List.length_append, List.length_replicate, List.length_take, List.length_drop, List.length_set, List.length_cons, List.length_nil]; omega))); (conv => whnf)) | ((refine And.intro ?_ ?_ <;> intro _h); all_goals ((first | replace _h := of_decide_eq_true _h | replace _h := of_decide_eq_false _h | skip); (try simp only [Bool.not_eq_true', Bool.not_eq_false', Bool.not_true, Bool.not_false, decide_eq_true_eq, decide_eq_false_iff_not] at _h); (try (guard_hyp _h : True; clear _h)); first | done | contradiction | exact absurd ((Eq.symm _h).trans (show _ = true by assumption)) (by decide) | exact absurd ((Eq.symm _h).trans (show _ = false by assumption)) (by decide) | (conv => whnf))) | (intro _h; ((first | replace _h := of_decide_eq_true _h | replace _h := of_decide_eq_false _h | skip); (try simp only [Bool.not_eq_true', Bool.not_eq_false', Bool.not_true, Bool.not_false, decide_eq_true_eq, decide_eq_false_iff_not] at _h); (try (guard_hyp _h : True; clear _h)); first | done | contradiction | exact absurd ((Eq.symm _h).trans (show _ = true by assumption)) (by decide) | exact absurd ((Eq.symm _h).trans (show _ = false by assumption)) (by decide) | (conv => whnf))))))
  rw [e0]
  refine aloop (T := told31) (ι := Nat) (fun n => [(0, .d (digs xs)), (1, .d (digs ys)), (5, i64 ((n : Int) - 1))]) (fun _ => []) 31 0 (fun n => n) (fun n => n ≤ xs.length ∧ ∀ j, n ≤ j → xs.getD j 0 = ys.getD j 0)
    ⟨xs.length, [], rfl, ⟨Nat.le_refl _, fun j hj => by rw [List.getD_eq_getElem?_getD, List.getD_eq_getElem?_getD, List.getElem?_eq_none hj, List.getElem?_eq_none (by omega)]⟩, by (refine ⟨rfl, rfl, ?_, ?_⟩ <;> repeat' (first | exact True.intro | rfl | decide | (refine And.intro ?_ ?_)))⟩ ?_
  intro n ⟨hn, he⟩
  ((conv => whnf); repeat' (first | (refine And.intro ?_ ?_; (focus (first | rfl | decide | assumption | omega | decide +kernel | exact ⟨rfl, rfl⟩ | exact ⟨rfl, rfl, rfl, rfl⟩ | exact fun h => Bool.noConfusion h | exact fun _ => rfl | exact Nat.le_of_ble_eq_true rfl | (simp only [List.length_map, List.length_append, List.length_replicate, List.length_take, List.length_drop, List.length_set, List.length_cons, List.length_nil]; omega))); (conv => whnf)) | ((refine And.intro ?_ ?_ <;> intro _h); all_goals ((first | replace _h := of_decide_eq_true _h | replace _h := of_decide_eq_false _h | skip); (try simp only [Bool.not_eq_true', Bool.not_eq_false', Bool.not_true, Bool.not_false, decide_eq_true_eq, decide_eq_false_iff_not] at _h); (try (guard_hyp _h : True; clear _h)); first | done | contradiction | exact absurd ((Eq.symm _h).trans (show _ = true by assumption)) (by decide) | exact absurd ((Eq.symm _h).trans (show _ = false by assumption)) (by decide) | (conv => whnf))) | (intro _h; ((first | replace _h := of_decide_eq_true _h | replace _h := of_decide_eq_false _h | skip); (try simp only [Bool.not_eq_true', Bool.not_eq_false', Bool.not_true, Bool.not_false, decide_eq_true_eq, decide_eq_false_iff_not] at _h); (try (guard_hyp _h : True; clear _h)); first | done | contradiction | exact absurd ((Eq.symm _h).trans (show _ = true by assumption)) (by decide) | exact absurd ((Eq.symm _h).trans (show _ = false by assumption)) (by decide) | (conv => whnf)))))
  · obtain ⟨m, rfl⟩ : ∃ m, n = m + 1 := ⟨n - 1, by omega⟩
    have em : ((m + 1 : Nat) : Int) - 1 = m := by omega
    rw [em, Int.toNat_natCast] at _h ⊢
    refine Ends.imm rfl ?_
    unfold bool
    congr 2
    rw [decide_eq_decide]
    have l1 := dcmp_lt m xs ys hx hy
    have l2 := dcmp_lt m ys xs hy hx
    constructor
    · intro h; have := l2 h fun j hj => (he j hj).symm; omega
    · intro h
      rcases Int.lt_trichotomy (xs.getD m 0) (ys.getD m 0) with h1 | h1 | h1
      · have := l1 h1 fun j hj => he j hj; omega
      · exact (_h h1).elim
      · exact h1
  · obtain ⟨m, rfl⟩ : ∃ m, n = m + 1 := ⟨n - 1, by omega⟩
    have em : ((m + 1 : Nat) : Int) - 1 = m := by omega
    rw [em, Int.toNat_natCast] at _h
    refine ⟨m, [], by omega, ⟨by omega, fun j hj => ?_⟩, rfl, ?_⟩
    · rcases Nat.lt_or_ge m j with h | h
      · exact he j h
      · have : j = m := by omega
        subst this; exact _h
    · (refine ⟨rfl, rfl, ?_, ?_⟩ <;> repeat' (first | exact True.intro | rfl | decide | (refine And.intro ?_ ?_)))
      refine di ?_
      rw [em, wrap_i64 (by omega) (by omega)]
  · refine Ends.imm rfl ?_
    have : n = 0 := by omega
    subst this
    rw [dval_ext xs.length xs ys (Nat.le_refl _) (by omega) fun j => he j (by omega)]
    simp

def told32 : AW.Told := ⟨fun _ => false, fun _ _ => [], fun r => if r == 4 then .take 0 (.take 1 (.take 2 (.take 3 (.take 4 (.take 5 (.take 6 (.take 7 (.take 8 (.take 9 (.take 10 (.take 11 .done))))))))))) else .done⟩

/-- 'Take': a difference, in its place. -/
theorem f32 (xs ys : List Int) (hx : wfd xs) (hy : wfd ys) (hl : xs.length = ys.length) (hs : xs.length ≤ 1000000) (hle : dval ys ≤ dval xs) :
    CSpec Tryd.prog 83 [.own 0, .d (digs ys)] [(0, .row .i64 3 xs)] 1 (fun st nx r => ∃ zs, st = [(0, .row .i64 3 zs)] ∧ nx = 1 ∧ r = .tup [] ∧ zs.length = xs.length ∧ wfd zs ∧ dval zs = dval xs - dval ys) := by
  refine CSpec.ends (CSpec.of_awp told32 [] Tryd.func83 rfl (by decide) (Nat.le_of_ble_eq_true rfl) fun _w0 _S0 _E0 _B0 => ?_)
  ((conv => whnf); repeat' (first | (refine And.intro ?_ ?_; (focus (first | rfl | decide | assumption | omega | decide +kernel | exact ⟨rfl, rfl⟩ | exact ⟨rfl, rfl, rfl, rfl⟩ | exact fun h => Bool.noConfusion h | exact fun _ => rfl | exact Nat.le_of_ble_eq_true rfl | (simp only [List.length_map, List.length_append, List.length_replicate, List.length_take, List.length_drop, List.length_set, List.length_cons, List.length_nil]; omega))); (conv => whnf)) | ((refine And.intro ?_ ?_ <;> intro _h); all_goals ((first | replace _h := of_decide_eq_true _h | replace _h := of_decide_eq_false _h | skip); (try simp only [Bool.not_eq_true', Bool.not_eq_false', Bool.not_true, Bool.not_false, decide_eq_true_eq, decide_eq_false_iff_not] at _h); (try (guard_hyp _h : True; clear _h)); first | done | contradiction | exact absurd ((Eq.symm _h).trans (show _ = true by assumption)) (by decide) | exact absurd ((Eq.symm _h).trans (show _ = false by assumption)) (by decide) | (conv => whnf))) | (intro _h; ((first | replace _h := of_decide_eq_true _h | replace _h := of_decide_eq_false _h | skip); (try simp only [Bool.not_eq_true', Bool.not_eq_false', Bool.not_true, Bool.not_false, decide_eq_true_eq, decide_eq_false_iff_not] at _h); (try (guard_hyp _h : True; clear _h)); first | done | contradiction | exact absurd ((Eq.symm _h).trans (show _ = true by assumption)) (by decide) | exact absurd ((Eq.symm _h).trans (show _ = false by assumption)) (by decide) | (conv => whnf)))))
  refine aloop (T := told32) (ι := Nat × List Int × Int) (fun p => [(0, .own 0), (1, .d (digs ys)), (4, i64 p.2.2), (5, i64 p.1)]) (fun p => [(0, .row .i64 3 (p.2.1 ++ xs.drop p.1))]) 32 1
    (fun p => xs.length - p.1) (fun p => p.1 ≤ xs.length ∧ p.2.1.length = p.1 ∧ wfd p.2.1 ∧ (p.2.2 = 0 ∨ p.2.2 = 1) ∧ dval p.2.1 - dpw p.1 * p.2.2 = dval (xs.take p.1) - dval (ys.take p.1))
    ⟨(0, [], 0), [0], rfl, ⟨by omega, rfl, by simp [wfd], .inl rfl, by simp [dval]⟩, by (refine ⟨rfl, rfl, ?_, ?_⟩ <;> repeat' (first | exact True.intro | rfl | decide | (refine And.intro ?_ ?_)))⟩ ?_
  intro ⟨i, zs, c⟩ ⟨hi, hzl, hz, hc, hv⟩
  dsimp only at hi hzl hz hc hv ⊢
  have hlen : (zs ++ xs.drop i).length = xs.length := by simp; omega
  have et : i < xs.length → (zs ++ xs.drop i).getD (i : Int).toNat 0 = xs.getD i 0 := fun hi => by
    rw [Int.toNat_natCast, List.getD_eq_getElem?_getD, List.getElem?_append_right (by omega), List.getElem?_drop, ← List.getD_eq_getElem?_getD, hzl]
    congr 1; omega
  have hxi := hx.get i
  have hyi := hy.get i
  have e1 : IntKind.i64.wrap (IntKind.i64.wrap (xs.getD i 0 - ys.getD i 0) - c) = xs.getD i 0 - ys.getD i 0 - c := by
    rw [wrap_i64 (n := xs.getD i 0 - ys.getD i 0) (by omega) (by omega), wrap_i64 (by omega) (by omega)]
  have key : ∀ (b : Bool) (x : Int), i < xs.length → x = (xs.getD i 0 - ys.getD i 0 - c) % 256 → (b = true ↔ xs.getD i 0 < ys.getD i 0 + c) →
      (0 ≤ x ∧ x < 256) ∧ dval (zs ++ [x]) - dpw (i + 1) * (if b = true then 1 else 0) = dval (xs.take (i + 1)) - dval (ys.take (i + 1)) := fun b x hi hx2 hb => by
    refine ⟨by omega, ?_⟩
    rw [dval_snoc, hzl, take_snoc (by omega), take_snoc (by omega), dval_snoc, dval_snoc, List.length_take, List.length_take, Nat.min_eq_left (by omega), Nat.min_eq_left (by omega), dpw_succ, hx2]
    have := sub_dig (dpw i) hxi hyi hc hv
    by_cases hbb : xs.getD i 0 < ys.getD i 0 + c
    · rw [if_pos (hb.2 hbb)]; rw [if_pos hbb] at this; exact this
    · rw [if_neg (fun h => hbb (hb.1 h))]; rw [if_neg hbb] at this; exact this
  ((conv => whnf); repeat' (first | (refine And.intro ?_ ?_; (focus (first | rfl | decide | assumption | omega | decide +kernel | exact ⟨rfl, rfl⟩ | exact ⟨rfl, rfl, rfl, rfl⟩ | exact fun h => Bool.noConfusion h | exact fun _ => rfl | exact Nat.le_of_ble_eq_true rfl | (simp only [List.length_map, List.length_append, List.length_replicate, List.length_take, List.length_drop, List.length_set, List.length_cons, List.length_nil]; omega))); (conv => whnf)) | ((refine And.intro ?_ ?_ <;> intro _h); all_goals ((first | replace _h := of_decide_eq_true _h | replace _h := of_decide_eq_false _h | skip); (try simp only [Bool.not_eq_true', Bool.not_eq_false', Bool.not_true, Bool.not_false, decide_eq_true_eq, decide_eq_false_iff_not] at _h); (try (guard_hyp _h : True; clear _h)); first | done | contradiction | exact absurd ((Eq.symm _h).trans (show _ = true by assumption)) (by decide) | exact absurd ((Eq.symm _h).trans (show _ = false by assumption)) (by decide) | (conv => whnf))) | (intro _h; ((first | replace _h := of_decide_eq_true _h | replace _h := of_decide_eq_false _h | skip); (try simp only [Bool.not_eq_true', Bool.not_eq_false', Bool.not_true, Bool.not_false, decide_eq_true_eq, decide_eq_false_iff_not] at _h); (try (guard_hyp _h : True; clear _h)); first | done | contradiction | exact absurd ((Eq.symm _h).trans (show _ = true by assumption)) (by decide) | exact absurd ((Eq.symm _h).trans (show _ = false by assumption)) (by decide) | (conv => whnf)))))
  · rw [et (by omega), Int.toNat_natCast, e1] at _h
    have k := key true (xs.getD i 0 - ys.getD i 0 - c + 256) (by omega) (by omega) ⟨fun _ => by omega, fun _ => rfl⟩
    refine ⟨(i + 1, zs ++ [xs.getD i 0 - ys.getD i 0 - c + 256], 1), [0], by dsimp only; omega, ⟨by dsimp only; omega, by simp [hzl], hz.append (wfd.one k.1), .inr rfl, by simpa using k.2⟩, rfl, ?_⟩
    (refine ⟨rfl, rfl, ?_, ?_⟩ <;> repeat' (first | exact True.intro | rfl | decide | (refine And.intro ?_ ?_)))
    · refine di ?_
      rw [wrap_i64 (by omega) (by omega)]; rfl
    · show some (Ob.row .i64 3 ((zs ++ xs.drop i).set (i : Int).toNat _)) = some (Ob.row .i64 3 _)
      rw [et (by omega), Int.toNat_natCast, e1, wrap_i64 (by omega) (by omega), set_row hzl (by omega)]
  · rw [et (by omega), Int.toNat_natCast, e1] at _h
    have k := key false (xs.getD i 0 - ys.getD i 0 - c) (by omega) (by omega) ⟨(fun h => by cases h), fun h => by omega⟩
    refine ⟨(i + 1, zs ++ [xs.getD i 0 - ys.getD i 0 - c], 0), [0], by dsimp only; omega, ⟨by dsimp only; omega, by simp [hzl], hz.append (wfd.one k.1), .inl rfl, by simpa using k.2⟩, rfl, ?_⟩
    (refine ⟨rfl, rfl, ?_, ?_⟩ <;> repeat' (first | exact True.intro | rfl | decide | (refine And.intro ?_ ?_)))
    · refine di ?_
      rw [wrap_i64 (by omega) (by omega)]; rfl
    · show some (Ob.row .i64 3 ((zs ++ xs.drop i).set (i : Int).toNat _)) = some (Ob.row .i64 3 _)
      rw [et (by omega), Int.toNat_natCast, e1, set_row hzl (by omega)]
  · have hie : i = xs.length := by omega
    subst hie
    have hc0 : c = 0 := by
      rcases hc with h | h
      · exact h
      · subst h
        have h1 := dval_lt hz
        rw [List.take_of_length_le (Nat.le_refl _), List.take_of_length_le (by omega)] at hv
        rw [hzl] at h1
        omega
    subst hc0
    refine ⟨[0], [(0, .row .i64 3 zs)], .tup [], ⟨rfl, ⟨⟨by decide, ?_⟩, trivial⟩, rfl⟩, zs, rfl, rfl, rfl, hzl, hz, ?_⟩
    · show some (Ob.row .i64 3 (zs ++ xs.drop xs.length)) = some (Ob.row .i64 3 zs)
      rw [List.drop_length, List.append_nil]
    · rw [List.take_of_length_le (Nat.le_refl _), List.take_of_length_le (by omega)] at hv
      omega

end Go.Proofs.YtniaeiikdgbnfaaDoor.R

/- The reference's code, part 2. -/
namespace Go.Proofs.YtniaeiikdgbnfaaDoor.R
open Go Go.RowKit Go.Proofs Go.Proofs.YtniaeiikdgbnfaaDoor.AW
set_option linter.unusedSectionVars false
variable [Globs]
set_option maxRecDepth 100000
set_option linter.unusedSimpArgs false
set_option linter.unusedVariables false
set_option maxHeartbeats 4000000

theorem dval_take_succ (m : List Int) (i : Nat) : dval (m.take (i + 1)) = dval (m.take i) + dpw i * m.getD i 0 := by
  rcases Nat.lt_or_ge i m.length with h | h
  · rw [take_snoc h, dval_snoc, List.length_take, Nat.min_eq_left (by omega)]
  · rw [List.take_of_length_le (by omega), List.take_of_length_le h, List.getD_eq_getElem?_getD, List.getElem?_eq_none h]
    simp

theorem f30 (m : List Int) (k n : Nat) (hm : wfd m) (hk : k ≤ 7) (hn : m.length + 1 ≤ n) (hs : n ≤ 1000000) :
    Imm Tryd.prog 81 [.d (digs m), i64 k, i64 n] (fun r => ∃ zs, r = .d (digs zs) ∧ zs.length = n ∧ wfd zs ∧ dval zs = dval m * 2 ^ k) := by
  (refine Imm.of_awp told0 [6] Tryd.func81 rfl (by decide) (Nat.le_of_ble_eq_true rfl) ?_; intro _w0 _S0 _E0 _B0; ((conv => whnf); repeat' (first | (refine And.intro ?_ ?_; (focus (first | rfl | decide | assumption | omega | decide +kernel | exact ⟨rfl, rfl⟩ | exact ⟨rfl, rfl, rfl, rfl⟩ | exact fun h => Bool.noConfusion h | exact fun _ => rfl | exact Nat.le_of_ble_eq_true rfl | (simp only [List.length_map, List.length_append, List.length_replicate, List.length_take, List.length_drop, List.length_set, List.length_cons, List.length_nil]; omega))); (conv => whnf)) | ((refine And.intro ?_ ?_ <;> intro _h); all_goals ((first | replace _h := of_decide_eq_true _h | replace _h := of_decide_eq_false _h | skip); (try simp only [Bool.not_eq_true', Bool.not_eq_false', Bool.not_true, Bool.not_false, decide_eq_true_eq, decide_eq_false_iff_not] at _h); (try (guard_hyp _h : True; clear _h)); first | done | contradiction | exact absurd ((Eq.symm _h).trans (show _ = true by assumption)) (by decide) | exact absurd ((Eq.symm _h).trans (show _ = false by assumption)) (by decide) | (conv => whnf))) | (intro _h; ((first | replace _h := of_decide_eq_true _h | replace _h := of_decide_eq_false _h | skip); (try simp only [Bool.not_eq_true', Bool.not_eq_false', Bool.not_true, Bool.not_false, decide_eq_true_eq, decide_eq_false_iff_not] at _h); (try (guard_hyp _h : True; clear _h)); first | done | contradiction | exact absurd ((Eq.symm _h).trans (show _ = true by assumption)) (by decide) | exact absurd ((Eq.symm _h).trans (show _ = false by assumption)) (by decide) | (conv => whnf))))))
  refine aloop (T := told0) (ι := Nat × List Int × Int) (fun p => [(0, .d (digs m)), (1, i64 k), (2, i64 n), (7, .own 0), (8, i64 p.2.2), (9, i64 p.1)]) (fun p => [(0, .row .i64 3 (p.2.1 ++ (List.replicate n 0).drop p.1))]) 37 1
    (fun p => n - p.1) (fun p => p.1 ≤ n ∧ p.2.1.length = p.1 ∧ wfd p.2.1 ∧ (0 ≤ p.2.2 ∧ p.2.2 < 2 ^ k) ∧ dval p.2.1 + dpw p.1 * p.2.2 = dval (m.take p.1) * 2 ^ k)
    ⟨(0, [], 0), [0], rfl, ⟨by omega, rfl, by simp [wfd], ⟨by dsimp only; omega, Int.pow_pos (by omega)⟩, by simp [dval]⟩, by (refine ⟨rfl, rfl, ?_, ?_⟩ <;> repeat' (first | exact True.intro | rfl | decide | (refine And.intro ?_ ?_)))⟩ ?_
  intro ⟨i, zs, c⟩ ⟨hi, hzl, hz, hc, hv⟩
  dsimp only at hi hzl hz hc hv ⊢
  have hmi := hm.get i
  have hlen : (zs ++ (List.replicate n (0 : Int)).drop i).length = n := by simp; omega
  have hP : (1 : Int) ≤ 2 ^ k ∧ (2 : Int) ^ k ≤ 128 := by
    have : ∀ k : Fin 8, (1 : Int) ≤ 2 ^ k.val ∧ (2 : Int) ^ k.val ≤ 128 := by decide
    exact this ⟨k, by omega⟩
  have hsh : (m.getD i 0) * 2 ^ (min (k : Int).toNat (IntKind.bits .i64)) = m.getD i 0 * 2 ^ k := by
    rw [Int.toNat_natCast, Nat.min_eq_left (by simp [IntKind.bits]; omega)]
  have hts := dval_take_succ m i
  have b1 : 0 ≤ m.getD i 0 * 2 ^ k := Int.mul_nonneg hmi.1 (by omega)
  have b2 : m.getD i 0 * 2 ^ k ≤ 255 * 2 ^ k := Int.mul_le_mul_of_nonneg_right (by omega) (by omega)
  have key : ∀ v : Int, v = c + m.getD i 0 * 2 ^ k → (0 ≤ v % 256 ∧ v % 256 < 256) ∧ (0 ≤ v / 256 ∧ v / 256 < 2 ^ k) ∧ dval (zs ++ [v % 256]) + dpw (i + 1) * (v / 256) = dval (m.take (i + 1)) * 2 ^ k := fun v hv2 => by
    refine ⟨by omega, ⟨by omega, by omega⟩, ?_⟩
    rw [dval_snoc, hzl, dpw_succ, hts]
    have e : v % 256 = v - 256 * (v / 256) := by omega
    rw [e]
    generalize v / 256 = q
    subst hv2
    grind
  ((conv => whnf); repeat' (first | (refine And.intro ?_ ?_; (focus (first | rfl | decide | assumption | omega | decide +kernel | exact ⟨rfl, rfl⟩ | exact ⟨rfl, rfl, rfl, rfl⟩ | exact fun h => Bool.noConfusion h | exact fun _ => rfl | exact Nat.le_of_ble_eq_true rfl | (simp only [List.length_map, List.length_append, List.length_replicate, List.length_take, List.length_drop, List.length_set, List.length_cons, List.length_nil]; omega))); (conv => whnf)) | ((refine And.intro ?_ ?_ <;> intro _h); all_goals ((first | replace _h := of_decide_eq_true _h | replace _h := of_decide_eq_false _h | skip); (try simp only [Bool.not_eq_true', Bool.not_eq_false', Bool.not_true, Bool.not_false, decide_eq_true_eq, decide_eq_false_iff_not] at _h); (try (guard_hyp _h : True; clear _h)); first | done | contradiction | exact absurd ((Eq.symm _h).trans (show _ = true by assumption)) (by decide) | exact absurd ((Eq.symm _h).trans (show _ = false by assumption)) (by decide) | (conv => whnf))) | (intro _h; ((first | replace _h := of_decide_eq_true _h | replace _h := of_decide_eq_false _h | skip); (try simp only [Bool.not_eq_true', Bool.not_eq_false', Bool.not_true, Bool.not_false, decide_eq_true_eq, decide_eq_false_iff_not] at _h); (try (guard_hyp _h : True; clear _h)); first | done | contradiction | exact absurd ((Eq.symm _h).trans (show _ = true by assumption)) (by decide) | exact absurd ((Eq.symm _h).trans (show _ = false by assumption)) (by decide) | (conv => whnf)))))
  · have e1 : IntKind.i64.wrap (c + IntKind.i64.wrap (m.getD (i : Int).toNat 0 * 2 ^ (min (k : Int).toNat (IntKind.bits .i64)))) = c + m.getD i 0 * 2 ^ k := by
      rw [Int.toNat_natCast, hsh, wrap_i64 (n := m.getD i 0 * 2 ^ k) (by omega) (by omega), wrap_i64 (by omega) (by omega)]
    obtain ⟨k1, k2, k3⟩ := key _ rfl
    generalize hv0 : c + m.getD i 0 * 2 ^ k = v at *
    refine ⟨(i + 1, zs ++ [v % 256], v / 256), [0], by dsimp only; omega, ⟨by dsimp only; omega, by simp [hzl], hz.append (wfd.one k1), k2, k3⟩, rfl, ?_⟩
    (refine ⟨rfl, rfl, ?_, ?_⟩ <;> repeat' (first | exact True.intro | rfl | decide | (refine And.intro ?_ ?_)))
    · refine di ?_
      rw [e1, Int.tdiv_eq_ediv_of_nonneg (by omega), wrap_i64 (by omega) (by omega)]
    · refine di ?_
      rw [wrap_i64 (by omega) (by omega)]; rfl
    · show some (Ob.row .i64 3 ((zs ++ (List.replicate n 0).drop i).set (i : Int).toNat _)) = some (Ob.row .i64 3 _)
      rw [e1, Int.tmod_eq_emod_of_nonneg (by omega), Int.toNat_natCast, set_row hzl (by simp; omega)]
  · have hm0 : m.getD i 0 = 0 := by rw [List.getD_eq_getElem?_getD, List.getElem?_eq_none (by omega)]; rfl
    obtain ⟨k1, k2, k3⟩ := key c (by rw [hm0]; omega)
    refine ⟨(i + 1, zs ++ [c % 256], c / 256), [0], by dsimp only; omega, ⟨by dsimp only; omega, by simp [hzl], hz.append (wfd.one k1), k2, k3⟩, rfl, ?_⟩
    (refine ⟨rfl, rfl, ?_, ?_⟩ <;> repeat' (first | exact True.intro | rfl | decide | (refine And.intro ?_ ?_)))
    · refine di ?_
      rw [Int.tdiv_eq_ediv_of_nonneg (by omega), wrap_i64 (by omega) (by omega)]
    · refine di ?_
      rw [wrap_i64 (by omega) (by omega)]; rfl
    · show some (Ob.row .i64 3 ((zs ++ (List.replicate n 0).drop i).set (i : Int).toNat _)) = some (Ob.row .i64 3 _)
      rw [Int.tmod_eq_emod_of_nonneg (by omega), Int.toNat_natCast, set_row hzl (by simp; omega)]
  · have hin : i = n := by omega
    subst hin
    have e0 : zs ++ (List.replicate i (0 : Int)).drop i = zs := by rw [List.drop_of_length_le (by simp), List.append_nil]
    rw [e0]
    refine Ends.imm rfl ⟨zs, rfl, hzl, hz, ?_⟩
    rw [List.take_of_length_le (by omega)] at hv
    have h1 := dval_lt hm
    have h2 := dval_nonneg hz
    have h3 : dpw (m.length + 1) ≤ dpw i := by
      obtain ⟨j, rfl⟩ : ∃ j, i = m.length + 1 + j := ⟨i - (m.length + 1), by omega⟩
      rw [dpw_add (m.length + 1) j]
      have := dpw_pos (m.length + 1)
      have := dpw_pos j
      have : dpw (m.length + 1) * 1 ≤ dpw (m.length + 1) * dpw j := Int.mul_le_mul_of_nonneg_left (by omega) (by omega)
      omega
    rw [dpw_succ] at h3
    have h4 : dval m * 2 ^ k ≤ dval m * 128 := Int.mul_le_mul_of_nonneg_left hP.2 (dval_nonneg hm)
    have h5 := dpw_pos m.length
    have hc0 : c = 0 := by
      rcases Int.lt_or_le 0 c with h | h
      · have : dpw i * 1 ≤ dpw i * c := Int.mul_le_mul_of_nonneg_left (by omega) (by have := dpw_pos i; omega)
        omega
      · omega
    subst hc0
    omega

end Go.Proofs.YtniaeiikdgbnfaaDoor.R

/- The reference's code, part 3: comparison, powers of 2, digits. -/
namespace Go.Proofs.YtniaeiikdgbnfaaDoor.R
open Go Go.RowKit Go.Proofs Go.Proofs.YtniaeiikdgbnfaaDoor.AW
set_option linter.unusedSectionVars false
variable [Globs]
set_option maxRecDepth 100000
set_option linter.unusedSimpArgs false
set_option linter.unusedVariables false
set_option maxHeartbeats 4000000

theorem dpw_le {m n : Nat} (h : m ≤ n) : dpw m ≤ dpw n := by
  obtain ⟨j, rfl⟩ : ∃ j, n = m + j := ⟨n - m, by omega⟩
  rw [dpw_add m j]
  have := dpw_pos m
  have := dpw_pos j
  have : dpw m * 1 ≤ dpw m * dpw j := Int.mul_le_mul_of_nonneg_left (by omega) (by omega)
  omega

/-- The shorter one is less. -/
theorem short_lt {xs ys : List Int} (hx : wfd xs) (hy : wfd ys) (ht : trimmed ys) (hl : xs.length < ys.length) : dval xs < dval ys := by
  have h1 := dval_lt hx
  obtain ⟨n, hn⟩ : ∃ n, ys.length = n + 1 := ⟨ys.length - 1, by omega⟩
  have h2 : ys.getD n 0 ≠ 0 := by
    rcases ht with h | h
    · subst h; simp at hn
    · rw [hn] at h; exact h
  have h3 := hy.get n
  have h4 := dval_take_succ ys n
  rw [List.take_of_length_le (by omega)] at h4
  have h5 := dval_nonneg (hy.take n)
  have h6 := dpw_pos n
  have h7 : dpw n * 1 ≤ dpw n * ys.getD n 0 := Int.mul_le_mul_of_nonneg_left (by omega) (by omega)
  have h8 := dpw_le (show xs.length ≤ n by omega)
  omega

def told26 : AW.Told := ⟨fun _ => false, fun _ _ => [], fun r => if r == 8 || r == 10 then .take 0 (.take 1 (.take 2 (.take 3 (.take 4 (.take 5 (.take 6 (.take 7 (.take 8 .done)))))))) else .done⟩

theorem f26 (xs ys : List Int) (hx : wfd xs) (hy : wfd ys) (htx : trimmed xs) (hty : trimmed ys) (hs : xs.length ≤ 1000000) : Imm Tryd.prog 50 [.d (digs xs), .d (digs ys)] (fun r => r = i64 (sgn (dval xs) (dval ys))) := by
  have e0 : IntKind.i64.wrap ((xs.length : Int) - 1) = (xs.length : Int) - 1 := wrap_i64 (by omega) (by omega)
  (refine Imm.of_awp told26 [] Tryd.func50 rfl (by decide) (Nat.le_of_ble_eq_true rfl) ?_; intro _w0 _S0 _E0 _B0; ((conv => whnf); repeat' (first | (refine And.intro ?_ ?_; (focus (first | rfl | decide | assumption | omega | decide +kernel | exact ⟨rfl, rfl⟩ | exact ⟨rfl, rfl, rfl, rfl⟩ | exact fun h => Bool.noConfusion h | exact fun _ => rfl | exact Nat.le_of_ble_eq_true rfl | (simp only [List.length_map, List.length_append, List.length_replicate, List.length_take, List.length_drop, List.length_set, List.length_cons, List.length_nil]; omega))); (conv => whnf)) | ((refine And.intro ?_ ?_ <;> intro _h); all_goals ((first | replace _h := of_decide_eq_true _h | replace _h := of_decide_eq_false _h | skip); (try simp only [Bool.not_eq_true', Bool.not_eq_false', Bool.not_true, Bool.not_false, decide_eq_true_eq, decide_eq_false_iff_not] at _h); (try (guard_hyp _h : True; clear _h)); first | done | contradiction | exact absurd ((Eq.symm _h).trans (show _ = true by assumption)) (by decide) | exact absurd ((Eq.symm _h).trans (show _ = false by assumption)) (by decide) | (conv => whnf))) | (intro _h; ((first | replace _h := of_decide_eq_true _h | replace _h := of_decide_eq_false _h | skip); (try simp only [Bool.not_eq_true', Bool.not_eq_false', Bool.not_true, Bool.not_false, decide_eq_true_eq, decide_eq_false_iff_not] at _h); (try (guard_hyp _h : True; clear _h)); first | done | contradiction | exact absurd ((Eq.symm _h).trans (show _ = true by assumption)) (by decide) | exact absurd ((Eq.symm _h).trans (show _ = false by assumption)) (by decide) | (conv => whnf))))))
  · refine Ends.imm rfl (di ?_)
    have := short_lt hx hy hty (by omega)
    unfold sgn; rw [if_pos this]
  · refine Ends.imm rfl (di ?_)
    have := short_lt hy hx htx (by omega)
    unfold sgn; rw [if_neg (by omega), if_pos this]
  · have hl := _h
    rw [e0]
    refine aloop (T := told26) (ι := Nat) (fun n => [(0, .d (digs xs)), (1, .d (digs ys)), (5, i64 ((n : Int) - 1))]) (fun _ => []) 41 0 (fun n => n) (fun n => n ≤ xs.length ∧ ∀ j, n ≤ j → xs.getD j 0 = ys.getD j 0)
      ⟨xs.length, [], rfl, ⟨Nat.le_refl _, fun j hj => by rw [List.getD_eq_getElem?_getD, List.getD_eq_getElem?_getD, List.getElem?_eq_none hj, List.getElem?_eq_none (by omega)]⟩, by (refine ⟨rfl, rfl, ?_, ?_⟩ <;> repeat' (first | exact True.intro | rfl | decide | (refine And.intro ?_ ?_)))⟩ ?_
    intro n ⟨hn, he⟩
    have l1 := fun (m : Nat) => dcmp_lt m xs ys hx hy
    have l2 := fun (m : Nat) => dcmp_lt m ys xs hy hx
    ((conv => whnf); repeat' (first | (refine And.intro ?_ ?_; (focus (first | rfl | decide | assumption | omega | decide +kernel | exact ⟨rfl, rfl⟩ | exact ⟨rfl, rfl, rfl, rfl⟩ | exact fun h => Bool.noConfusion h | exact fun _ => rfl | exact Nat.le_of_ble_eq_true rfl | (simp only [List.length_map, List.length_append, List.length_replicate, List.length_take, List.length_drop, List.length_set, List.length_cons, List.length_nil]; omega))); (conv => whnf)) | ((refine And.intro ?_ ?_ <;> intro _h); all_goals ((first | replace _h := of_decide_eq_true _h | replace _h := of_decide_eq_false _h | skip); (try simp only [Bool.not_eq_true', Bool.not_eq_false', Bool.not_true, Bool.not_false, decide_eq_true_eq, decide_eq_false_iff_not] at _h); (try (guard_hyp _h : True; clear _h)); first | done | contradiction | exact absurd ((Eq.symm _h).trans (show _ = true by assumption)) (by decide) | exact absurd ((Eq.symm _h).trans (show _ = false by assumption)) (by decide) | (conv => whnf))) | (intro _h; ((first | replace _h := of_decide_eq_true _h | replace _h := of_decide_eq_false _h | skip); (try simp only [Bool.not_eq_true', Bool.not_eq_false', Bool.not_true, Bool.not_false, decide_eq_true_eq, decide_eq_false_iff_not] at _h); (try (guard_hyp _h : True; clear _h)); first | done | contradiction | exact absurd ((Eq.symm _h).trans (show _ = true by assumption)) (by decide) | exact absurd ((Eq.symm _h).trans (show _ = false by assumption)) (by decide) | (conv => whnf)))))
    · obtain ⟨m, rfl⟩ : ∃ m, n = m + 1 := ⟨n - 1, by omega⟩
      have em : ((m + 1 : Nat) : Int) - 1 = m := by omega
      rw [em, Int.toNat_natCast] at _h
      have := l1 m _h fun j hj => he j hj
      refine Ends.imm rfl (di ?_)
      unfold sgn; rw [if_pos this]
    · obtain ⟨m, rfl⟩ : ∃ m, n = m + 1 := ⟨n - 1, by omega⟩
      have em : ((m + 1 : Nat) : Int) - 1 = m := by omega
      rw [em, Int.toNat_natCast] at _h
      have := l2 m _h fun j hj => (he j hj).symm
      refine Ends.imm rfl (di ?_)
      unfold sgn; rw [if_neg (by omega), if_pos this]
    · obtain ⟨m, rfl⟩ : ∃ m, n = m + 1 := ⟨n - 1, by omega⟩
      have em : ((m + 1 : Nat) : Int) - 1 = m := by omega
      rename_i h1
      rw [em, Int.toNat_natCast] at _h h1
      refine ⟨m, [], by omega, ⟨by omega, fun j hj => ?_⟩, rfl, ?_⟩
      · rcases Nat.lt_or_ge m j with h | h
        · exact he j h
        · have : j = m := by omega
          subst this; omega
      · (refine ⟨rfl, rfl, ?_, ?_⟩ <;> repeat' (first | exact True.intro | rfl | decide | (refine And.intro ?_ ?_)))
        refine di ?_
        rw [em, wrap_i64 (by omega) (by omega)]
    · refine Ends.imm rfl (di ?_)
      have : n = 0 := by omega
      subst this
      rw [dval_ext xs.length xs ys (Nat.le_refl _) (by omega) fun j => he j (by omega)]
      simp [sgn]

theorem dpw_two (n : Nat) : dpw n = 2 ^ (8 * n) := by
  unfold dpw
  rw [Int.pow_mul]
  rfl

/-- A power of 2. -/
theorem f17 (n : Nat) (hs : n ≤ 100000) : Imm Tryd.prog 70 [i64 n] (fun r => ∃ zs, r = .d (digs zs) ∧ zs.length ≤ n + 1 ∧ wfd zs ∧ dval zs = 2 ^ n) := by
  have e1 : IntKind.i64.wrap ((n : Int).tdiv 8) = ((n / 8 : Nat) : Int) := by
    rw [Int.tdiv_eq_ediv_of_nonneg (by omega), wrap_i64 (by omega) (by omega)]; omega
  have e2 : (n : Int).tmod 8 = ((n % 8 : Nat) : Int) := by
    rw [Int.tmod_eq_emod_of_nonneg (by omega)]; omega
  have e3 : IntKind.i64.wrap (((n / 8 : Nat) : Int) + 1) = ((n / 8 + 1 : Nat) : Int) := by rw [wrap_i64 (by omega) (by omega)]; rfl
  (refine Imm.of_awp told0 [2] Tryd.func70 rfl (by decide) (Nat.le_of_ble_eq_true rfl) ?_; intro _w0 _S0 _E0 _B0; ((conv => whnf); repeat' (first | (refine And.intro ?_ ?_; (focus (first | rfl | decide | assumption | omega | decide +kernel | exact ⟨rfl, rfl⟩ | exact ⟨rfl, rfl, rfl, rfl⟩ | exact fun h => Bool.noConfusion h | exact fun _ => rfl | exact Nat.le_of_ble_eq_true rfl | (simp only [List.length_map, List.length_append, List.length_replicate, List.length_take, List.length_drop, List.length_set, List.length_cons, List.length_nil]; omega))); (conv => whnf)) | ((refine And.intro ?_ ?_ <;> intro _h); all_goals ((first | replace _h := of_decide_eq_true _h | replace _h := of_decide_eq_false _h | skip); (try simp only [Bool.not_eq_true', Bool.not_eq_false', Bool.not_true, Bool.not_false, decide_eq_true_eq, decide_eq_false_iff_not] at _h); (try (guard_hyp _h : True; clear _h)); first | done | contradiction | exact absurd ((Eq.symm _h).trans (show _ = true by assumption)) (by decide) | exact absurd ((Eq.symm _h).trans (show _ = false by assumption)) (by decide) | (conv => whnf))) | (intro _h; ((first | replace _h := of_decide_eq_true _h | replace _h := of_decide_eq_false _h | skip); (try simp only [Bool.not_eq_true', Bool.not_eq_false', Bool.not_true, Bool.not_false, decide_eq_true_eq, decide_eq_false_iff_not] at _h); (try (guard_hyp _h : True; clear _h)); first | done | contradiction | exact absurd ((Eq.symm _h).trans (show _ = true by assumption)) (by decide) | exact absurd ((Eq.symm _h).trans (show _ = false by assumption)) (by decide) | (conv => whnf))))))
  rw [e1, e3]
  ((conv => whnf); repeat' (first | (refine And.intro ?_ ?_; (focus (first | rfl | decide | assumption | omega | decide +kernel | exact ⟨rfl, rfl⟩ | exact ⟨rfl, rfl, rfl, rfl⟩ | exact fun h => Bool.noConfusion h | exact fun _ => rfl | exact Nat.le_of_ble_eq_true rfl | (simp only [List.length_map, List.length_append, List.length_replicate, List.length_take, List.length_drop, List.length_set, List.length_cons, List.length_nil]; omega))); (conv => whnf)) | ((refine And.intro ?_ ?_ <;> intro _h); all_goals ((first | replace _h := of_decide_eq_true _h | replace _h := of_decide_eq_false _h | skip); (try simp only [Bool.not_eq_true', Bool.not_eq_false', Bool.not_true, Bool.not_false, decide_eq_true_eq, decide_eq_false_iff_not] at _h); (try (guard_hyp _h : True; clear _h)); first | done | contradiction | exact absurd ((Eq.symm _h).trans (show _ = true by assumption)) (by decide) | exact absurd ((Eq.symm _h).trans (show _ = false by assumption)) (by decide) | (conv => whnf))) | (intro _h; ((first | replace _h := of_decide_eq_true _h | replace _h := of_decide_eq_false _h | skip); (try simp only [Bool.not_eq_true', Bool.not_eq_false', Bool.not_true, Bool.not_false, decide_eq_true_eq, decide_eq_false_iff_not] at _h); (try (guard_hyp _h : True; clear _h)); first | done | contradiction | exact absurd ((Eq.symm _h).trans (show _ = true by assumption)) (by decide) | exact absurd ((Eq.symm _h).trans (show _ = false by assumption)) (by decide) | (conv => whnf)))))
  rw [e2]
  ((conv => whnf); repeat' (first | (refine And.intro ?_ ?_; (focus (first | rfl | decide | assumption | omega | decide +kernel | exact ⟨rfl, rfl⟩ | exact ⟨rfl, rfl, rfl, rfl⟩ | exact fun h => Bool.noConfusion h | exact fun _ => rfl | exact Nat.le_of_ble_eq_true rfl | (simp only [List.length_map, List.length_append, List.length_replicate, List.length_take, List.length_drop, List.length_set, List.length_cons, List.length_nil]; omega))); (conv => whnf)) | ((refine And.intro ?_ ?_ <;> intro _h); all_goals ((first | replace _h := of_decide_eq_true _h | replace _h := of_decide_eq_false _h | skip); (try simp only [Bool.not_eq_true', Bool.not_eq_false', Bool.not_true, Bool.not_false, decide_eq_true_eq, decide_eq_false_iff_not] at _h); (try (guard_hyp _h : True; clear _h)); first | done | contradiction | exact absurd ((Eq.symm _h).trans (show _ = true by assumption)) (by decide) | exact absurd ((Eq.symm _h).trans (show _ = false by assumption)) (by decide) | (conv => whnf))) | (intro _h; ((first | replace _h := of_decide_eq_true _h | replace _h := of_decide_eq_false _h | skip); (try simp only [Bool.not_eq_true', Bool.not_eq_false', Bool.not_true, Bool.not_false, decide_eq_true_eq, decide_eq_false_iff_not] at _h); (try (guard_hyp _h : True; clear _h)); first | done | contradiction | exact absurd ((Eq.symm _h).trans (show _ = true by assumption)) (by decide) | exact absurd ((Eq.symm _h).trans (show _ = false by assumption)) (by decide) | (conv => whnf)))))
  rw [e1]
  have hb : ∀ k : Fin 8, IntKind.i64.wrap (1 * 2 ^ (min ((k.val : Nat) : Int).toNat (IntKind.bits .i64))) = 2 ^ k.val ∧ 0 ≤ (2 : Int) ^ k.val ∧ (2 : Int) ^ k.val < 256 := by decide
  obtain ⟨h1, h2⟩ := hb ⟨n % 8, by omega⟩
  dsimp only at h1 h2
  rw [h1, Int.toNat_natCast, Int.toNat_natCast]
  have e4 : (List.replicate (n / 8 + 1) (0 : Int)).set (n / 8) (2 ^ (n % 8)) = List.replicate (n / 8) 0 ++ [2 ^ (n % 8)] := by
    rw [show List.replicate (n / 8 + 1) (0 : Int) = List.replicate (n / 8) 0 ++ [0] by rw [show [(0 : Int)] = List.replicate 1 0 from rfl, List.replicate_append_replicate], List.set_append_right _ _ (by simp)]
    simp
  rw [e4]
  have hz : wfd (List.replicate (n / 8) (0 : Int)) := fun x hx => by simp at hx; omega
  refine Ends.imm rfl ⟨_, rfl, by simp; omega, hz.append (wfd.one h2), ?_⟩
  rw [dval_snoc, dval_zeros _ fun x hx => by simp at hx; omega, List.length_replicate, Int.zero_add, dpw_two, ← Int.pow_add]
  congr 1; omega

end Go.Proofs.YtniaeiikdgbnfaaDoor.R

/- The reference's code, part 4: digits. -/
namespace Go.Proofs.YtniaeiikdgbnfaaDoor.R
open Go Go.RowKit Go.Proofs Go.Proofs.YtniaeiikdgbnfaaDoor.AW
set_option linter.unusedSectionVars false
variable [Globs]
set_option maxRecDepth 100000
set_option linter.unusedSimpArgs false
set_option linter.unusedVariables false
set_option maxHeartbeats 4000000

theorem pw_two (n : Nat) : pw n = 2 ^ (32 * n) := by
  unfold pw
  rw [Int.pow_mul]
  rfl
theorem dpw_four (n : Nat) : dpw (4 * n) = pw n := by
  rw [dpw_two, pw_two]; congr 1; omega

theorem val_take_succ {m : List Int} {i : Nat} (h : i < m.length) : val (m.take (i + 1)) = val (m.take i) + pw i * m.getD i 0 := by
  rw [take_snoc h, val_snoc, List.length_take, Nat.min_eq_left (by omega)]

/-- What 'Trim' leaves. -/
theorem f29' (xs : List Int) (hx : wfd xs) (hl : xs.length ≤ 1000000) : Imm Tryd.prog 80 [.d (digs xs)] (fun r => ∃ zs, r = .d (digs zs) ∧ zs.length ≤ xs.length ∧ wfd zs ∧ trimmed zs ∧ dval zs = dval xs) := by
  refine (f29 xs hl).mono fun r ⟨n, h1, h2, h3, h4⟩ => ⟨xs.take n, h1, by simp; omega, hx.take n, ?_, dval_take h3⟩
  rcases h4 with h4 | h4
  · subst h4; left; simp
  · right
    rw [List.length_take, Nat.min_eq_left h2, List.getD_eq_getElem?_getD, List.getElem?_take]
    rcases Nat.eq_zero_or_pos n with h0 | h0
    · subst h0; exact (h4 (h3 0 (by omega))).elim
    · rw [if_pos (by omega), ← List.getD_eq_getElem?_getD]; exact h4

def told12 : AW.Told := ⟨fun _ => false, fun r i => if r == 11 && i == 1 then [29] else [], fun _ => .done⟩
end Go.Proofs.YtniaeiikdgbnfaaDoor.R

/- The reference's code, part 5: products. -/
namespace Go.Proofs.YtniaeiikdgbnfaaDoor.R
open Go Go.RowKit Go.Proofs Go.Proofs.YtniaeiikdgbnfaaDoor.AW
set_option linter.unusedSectionVars false
variable [Globs]
set_option maxRecDepth 100000
set_option linter.unusedSimpArgs false
set_option linter.unusedVariables false
set_option maxHeartbeats 4000000

theorem dval_set : ∀ (xs : List Int) (j : Nat) (v : Int), j < xs.length → dval (xs.set j v) = dval xs + dpw j * (v - xs.getD j 0)
  | [], j, v, h => by simp at h
  | x :: xs, 0, v, _ => by simp [dval, dpw_zero]; omega
  | x :: xs, j + 1, v, h => by
    have ih := dval_set xs j v (by simpa using h)
    simp only [List.set_cons_succ, dval, ih, List.getD_cons_succ, dpw_succ]
    grind

theorem dval_take_all (b : List Int) {k : Nat} (h : b.length ≤ k) : dval (b.take k) = dval b := by rw [List.take_of_length_le h]

/-- A product's place, a digit further. -/
theorem mul_dig {o A B ai Tk bk c x p pi q : Int} (h : o + p * c = A * B + pi * (ai * Tk)) (hp : p = pi * q) (oj : Int) (hx : x = oj + c + ai * bk) :
    o + p * (x % 256 - oj) + p * 256 * (x / 256) = A * B + pi * (ai * (Tk + q * bk)) := by
  have e : x % 256 = x - 256 * (x / 256) := by omega
  rw [e]
  generalize x / 256 = y
  subst hx
  subst hp
  grind

def told20 : AW.Told := ⟨fun _ => false, fun r i => if r == 14 && i == 1 then [65] else [], fun r => if r == 11 then .take 0 (.take 1 (.take 2 (.take 3 (.take 4 (.take 5 (.take 6 (.take 7 (.take 8 (.take 9 (.take 10 (.take 11 .done))))))))))) else .done⟩

theorem f20 (a b : List Int) (ha : wfd a) (hb : wfd b) (hs : a.length + b.length ≤ 100000) :
    Imm Tryd.prog 52 [.d (digs a), .d (digs b)] (fun r => ∃ zs, r = .d (digs zs) ∧ zs.length ≤ a.length + b.length + 1 ∧ wfd zs ∧ trimmed zs ∧ dval zs = dval a * dval b) := by
  have w1 : IntKind.i64.wrap (IntKind.i64.wrap ((a.length : Int) + b.length) + 1) = ((a.length + b.length + 1 : Nat) : Int) := by
    rw [wrap_i64 (n := (a.length : Int) + b.length) (by omega) (by omega), wrap_i64 (by omega) (by omega)]; rfl
  (refine Imm.of_awp told20 [] Tryd.func52 rfl (by decide) (Nat.le_of_ble_eq_true rfl) ?_; intro _w0 _S0 _E0 _B0; ((conv => whnf); repeat' (first | (refine And.intro ?_ ?_; (focus (first | rfl | decide | assumption | omega | decide +kernel | exact ⟨rfl, rfl⟩ | exact ⟨rfl, rfl, rfl, rfl⟩ | exact fun h => Bool.noConfusion h | exact fun _ => rfl | exact Nat.le_of_ble_eq_true rfl | (simp only [List.length_map, List.length_append, List.length_replicate, List.length_take, List.length_drop, List.length_set, List.length_cons, List.length_nil]; omega))); (conv => whnf)) | ((refine And.intro ?_ ?_ <;> intro _h); all_goals ((first | replace _h := of_decide_eq_true _h | replace _h := of_decide_eq_false _h | skip); (try simp only [Bool.not_eq_true', Bool.not_eq_false', Bool.not_true, Bool.not_false, decide_eq_true_eq, decide_eq_false_iff_not] at _h); (try (guard_hyp _h : True; clear _h)); first | done | contradiction | exact absurd ((Eq.symm _h).trans (show _ = true by assumption)) (by decide) | exact absurd ((Eq.symm _h).trans (show _ = false by assumption)) (by decide) | (conv => whnf))) | (intro _h; ((first | replace _h := of_decide_eq_true _h | replace _h := of_decide_eq_false _h | skip); (try simp only [Bool.not_eq_true', Bool.not_eq_false', Bool.not_true, Bool.not_false, decide_eq_true_eq, decide_eq_false_iff_not] at _h); (try (guard_hyp _h : True; clear _h)); first | done | contradiction | exact absurd ((Eq.symm _h).trans (show _ = true by assumption)) (by decide) | exact absurd ((Eq.symm _h).trans (show _ = false by assumption)) (by decide) | (conv => whnf))))))
  rw [w1]
  ((conv => whnf); repeat' (first | (refine And.intro ?_ ?_; (focus (first | rfl | decide | assumption | omega | decide +kernel | exact ⟨rfl, rfl⟩ | exact ⟨rfl, rfl, rfl, rfl⟩ | exact fun h => Bool.noConfusion h | exact fun _ => rfl | exact Nat.le_of_ble_eq_true rfl | (simp only [List.length_map, List.length_append, List.length_replicate, List.length_take, List.length_drop, List.length_set, List.length_cons, List.length_nil]; omega))); (conv => whnf)) | ((refine And.intro ?_ ?_ <;> intro _h); all_goals ((first | replace _h := of_decide_eq_true _h | replace _h := of_decide_eq_false _h | skip); (try simp only [Bool.not_eq_true', Bool.not_eq_false', Bool.not_true, Bool.not_false, decide_eq_true_eq, decide_eq_false_iff_not] at _h); (try (guard_hyp _h : True; clear _h)); first | done | contradiction | exact absurd ((Eq.symm _h).trans (show _ = true by assumption)) (by decide) | exact absurd ((Eq.symm _h).trans (show _ = false by assumption)) (by decide) | (conv => whnf))) | (intro _h; ((first | replace _h := of_decide_eq_true _h | replace _h := of_decide_eq_false _h | skip); (try simp only [Bool.not_eq_true', Bool.not_eq_false', Bool.not_true, Bool.not_false, decide_eq_true_eq, decide_eq_false_iff_not] at _h); (try (guard_hyp _h : True; clear _h)); first | done | contradiction | exact absurd ((Eq.symm _h).trans (show _ = true by assumption)) (by decide) | exact absurd ((Eq.symm _h).trans (show _ = false by assumption)) (by decide) | (conv => whnf)))))
  refine aloop (T := told20) (ι := Nat × List Int) (fun p => [(0, .d (digs a)), (1, .d (digs b)), (5, .own 0), (6, i64 p.1)]) (fun p => [(0, .row .i64 3 p.2)]) 67 1
    (fun p => a.length - p.1) (fun p => p.1 ≤ a.length ∧ p.2.length = a.length + b.length + 1 ∧ wfd p.2 ∧ dval p.2 = dval (a.take p.1) * dval b)
    ⟨(0, List.replicate (a.length + b.length + 1) 0), [0], rfl, ⟨by omega, by simp, fun x hx => by simp at hx; omega, by rw [dval_zeros _ fun x hx => by simp at hx; omega]; simp [dval]⟩, by (refine ⟨rfl, rfl, ?_, ?_⟩ <;> repeat' (first | exact True.intro | rfl | decide | (refine And.intro ?_ ?_)))⟩ ?_
  intro ⟨i, o⟩ ⟨hi, hol, ho, hv⟩
  dsimp only at hi hol ho hv ⊢
  have hai := ha.get i
  ((conv => whnf); repeat' (first | (refine And.intro ?_ ?_; (focus (first | rfl | decide | assumption | omega | decide +kernel | exact ⟨rfl, rfl⟩ | exact ⟨rfl, rfl, rfl, rfl⟩ | exact fun h => Bool.noConfusion h | exact fun _ => rfl | exact Nat.le_of_ble_eq_true rfl | (simp only [List.length_map, List.length_append, List.length_replicate, List.length_take, List.length_drop, List.length_set, List.length_cons, List.length_nil]; omega))); (conv => whnf)) | ((refine And.intro ?_ ?_ <;> intro _h); all_goals ((first | replace _h := of_decide_eq_true _h | replace _h := of_decide_eq_false _h | skip); (try simp only [Bool.not_eq_true', Bool.not_eq_false', Bool.not_true, Bool.not_false, decide_eq_true_eq, decide_eq_false_iff_not] at _h); (try (guard_hyp _h : True; clear _h)); first | done | contradiction | exact absurd ((Eq.symm _h).trans (show _ = true by assumption)) (by decide) | exact absurd ((Eq.symm _h).trans (show _ = false by assumption)) (by decide) | (conv => whnf))) | (intro _h; ((first | replace _h := of_decide_eq_true _h | replace _h := of_decide_eq_false _h | skip); (try simp only [Bool.not_eq_true', Bool.not_eq_false', Bool.not_true, Bool.not_false, decide_eq_true_eq, decide_eq_false_iff_not] at _h); (try (guard_hyp _h : True; clear _h)); first | done | contradiction | exact absurd ((Eq.symm _h).trans (show _ = true by assumption)) (by decide) | exact absurd ((Eq.symm _h).trans (show _ = false by assumption)) (by decide) | (conv => whnf)))))
  · refine aloop (T := told20) (ι := Nat × List Int × Int) (fun p => [(0, .d (digs a)), (1, .d (digs b)), (5, .own 0), (6, i64 i), (7, i64 p.2.2), (8, i64 p.1)]) (fun p => [(0, .row .i64 3 p.2.1)]) 67 1
      (fun p => b.length + 2 - p.1) (fun p => p.1 ≤ b.length + 1 ∧ p.2.1.length = a.length + b.length + 1 ∧ wfd p.2.1 ∧ (0 ≤ p.2.2 ∧ p.2.2 < 256) ∧ dval p.2.1 + dpw (i + p.1) * p.2.2 = dval (a.take i) * dval b + dpw i * (a.getD i 0 * dval (b.take p.1)))
      ⟨(0, o, 0), [0], rfl, ⟨by omega, hol, ho, by dsimp only; omega, by simpa [dval] using hv⟩, by (refine ⟨rfl, rfl, ?_, ?_⟩ <;> repeat' (first | exact True.intro | rfl | decide | (refine And.intro ?_ ?_)))⟩ ?_
    intro ⟨k, ys, c⟩ ⟨hk, hyl, hy, hc, hw⟩
    dsimp only at hk hyl hy hc hw ⊢
    have hbk := hb.get k
    have hi2 : i < a.length := by omega
    have wj : IntKind.i64.wrap ((i : Int) + k) = ((i + k : Nat) : Int) := by rw [wrap_i64 (by omega) (by omega)]; rfl
    have hover : b.length ≤ k → 0 < c → k = b.length := fun h1 h2 => by
      rw [dval_take_all b h1] at hw
      have h3 := dval_take_succ a i
      have h4 := dval_lt (ha.take (i + 1))
      rw [List.length_take, Nat.min_eq_left (by omega)] at h4
      have h5 := dval_lt hb
      have h6 := dval_nonneg hb
      have h7 := dval_nonneg hy
      have h8 : dval (a.take (i + 1)) * dval b ≤ dpw (i + 1) * dval b := Int.mul_le_mul_of_nonneg_right (by omega) h6
      have h9 : dpw (i + 1) * dval b < dpw (i + 1) * dpw b.length := Int.mul_lt_mul_of_pos_left h5 (dpw_pos _)
      rw [← dpw_add] at h9
      have h10 : dpw (i + k) * 1 ≤ dpw (i + k) * c := Int.mul_le_mul_of_nonneg_left (by omega) (by have := dpw_pos (i + k); omega)
      have h11 : dval (a.take (i + 1)) * dval b = dval (a.take i) * dval b + dpw i * (a.getD i 0 * dval b) := by rw [h3]; grind
      have h12 : dpw (i + k) < dpw (i + 1 + b.length) := by omega
      rcases Nat.lt_or_ge k (b.length + 1) with h | h
      · omega
      · have := dpw_le (show i + 1 + b.length ≤ i + k by omega)
        omega
    have hyj := hy.get (i + k)
    have wk : IntKind.i64.wrap ((k : Int) + 1) = ((k + 1 : Nat) : Int) := by rw [wrap_i64 (by omega) (by omega)]; rfl
    have step : ∀ (x t : Int), k ≤ b.length → x = ys.getD (i + k) 0 + c + a.getD i 0 * b.getD k 0 → x < 65536 → 0 ≤ x →
        ((ys.set (i + k) (x % 256)).length = a.length + b.length + 1 ∧ wfd (ys.set (i + k) (x % 256)) ∧ (0 ≤ x / 256 ∧ x / 256 < 256) ∧
        dval (ys.set (i + k) (x % 256)) + dpw (i + (k + 1)) * (x / 256) = dval (a.take i) * dval b + dpw i * (a.getD i 0 * dval (b.take (k + 1)))) := fun x t hkl hx hx1 hx0 => by
      refine ⟨by simpa using hyl, hy.set _ (by omega), by omega, ?_⟩
      rw [dval_set _ _ _ (by omega), dval_take_succ b k, ← Nat.add_assoc, dpw_succ]
      exact mul_dig hw (dpw_add i k) _ hx
    ((conv => whnf); repeat' (first | (refine And.intro ?_ ?_; (focus (first | rfl | decide | assumption | omega | decide +kernel | exact ⟨rfl, rfl⟩ | exact ⟨rfl, rfl, rfl, rfl⟩ | exact fun h => Bool.noConfusion h | exact fun _ => rfl | exact Nat.le_of_ble_eq_true rfl | (simp only [List.length_map, List.length_append, List.length_replicate, List.length_take, List.length_drop, List.length_set, List.length_cons, List.length_nil]; omega))); (conv => whnf)) | ((refine And.intro ?_ ?_ <;> intro _h); all_goals ((first | replace _h := of_decide_eq_true _h | replace _h := of_decide_eq_false _h | skip); (try simp only [Bool.not_eq_true', Bool.not_eq_false', Bool.not_true, Bool.not_false, decide_eq_true_eq, decide_eq_false_iff_not] at _h); (try (guard_hyp _h : True; clear _h)); first | done | contradiction | exact absurd ((Eq.symm _h).trans (show _ = true by assumption)) (by decide) | exact absurd ((Eq.symm _h).trans (show _ = false by assumption)) (by decide) | (conv => whnf))) | (intro _h; ((first | replace _h := of_decide_eq_true _h | replace _h := of_decide_eq_false _h | skip); (try simp only [Bool.not_eq_true', Bool.not_eq_false', Bool.not_true, Bool.not_false, decide_eq_true_eq, decide_eq_false_iff_not] at _h); (try (guard_hyp _h : True; clear _h)); first | done | contradiction | exact absurd ((Eq.symm _h).trans (show _ = true by assumption)) (by decide) | exact absurd ((Eq.symm _h).trans (show _ = false by assumption)) (by decide) | (conv => whnf)))))
    · rename_i hc0
      have hkb := hover (by omega) hc0
      have hb0 : b.getD k 0 = 0 := by rw [List.getD_eq_getElem?_getD, List.getElem?_eq_none (by omega)]; rfl
      have e1 : IntKind.i64.wrap (ys.getD (i + k) 0 + c) = ys.getD (i + k) 0 + c := wrap_i64 (by omega) (by omega)
      obtain ⟨k1, k2, k3, k4⟩ := step (ys.getD (i + k) 0 + c) 0 (by omega) (by rw [hb0]; omega) (by omega) (by omega)
      refine ⟨(k + 1, ys.set (i + k) ((ys.getD (i + k) 0 + c) % 256), (ys.getD (i + k) 0 + c) / 256), [0], by dsimp only; omega, ⟨by dsimp only; omega, k1, k2, k3, k4⟩, rfl, ?_⟩
      (refine ⟨rfl, rfl, ?_, ?_⟩ <;> repeat' (first | exact True.intro | rfl | decide | (refine And.intro ?_ ?_)))
      · refine di ?_
        rw [wj, Int.toNat_natCast, e1, Int.tdiv_eq_ediv_of_nonneg (by omega), wrap_i64 (by omega) (by omega)]
      · exact di wk
      · show some (Ob.row .i64 3 (ys.set (IntKind.i64.wrap ((i : Int) + k)).toNat ((IntKind.i64.wrap (ys.getD (IntKind.i64.wrap ((i : Int) + k)).toNat 0 + c)).tmod 256))) = some (Ob.row .i64 3 _)
        rw [wj, Int.toNat_natCast, e1, Int.tmod_eq_emod_of_nonneg (by omega)]
    · rename_i hkb
      have hc0 : c = 0 := by omega
      subst hc0
      refine ⟨(i + 1, ys), [0], by dsimp only; omega, ⟨by dsimp only; omega, hyl, hy, ?_⟩, rfl, ?_⟩
      · dsimp only
        rw [dval_take_all b (by omega)] at hw
        rw [dval_take_succ a i]
        grind
      · (refine ⟨rfl, rfl, ?_, ?_⟩ <;> repeat' (first | exact True.intro | rfl | decide | (refine And.intro ?_ ?_)))
        refine di ?_
        rw [wrap_i64 (by omega) (by omega)]; rfl
    · have m0 : 0 ≤ a.getD i 0 * b.getD k 0 := Int.mul_nonneg hai.1 hbk.1
      have m1 : a.getD i 0 * b.getD k 0 ≤ 255 * 255 := Int.mul_le_mul (by omega) (by omega) hbk.1 (by omega)
      have e1 : IntKind.i64.wrap (ys.getD (i + k) 0 + c) = ys.getD (i + k) 0 + c := wrap_i64 (by omega) (by omega)
      have e2 : IntKind.i64.wrap (a.getD i 0 * b.getD k 0) = a.getD i 0 * b.getD k 0 := wrap_i64 (by omega) (by omega)
      have e3 : IntKind.i64.wrap (ys.getD (i + k) 0 + c + a.getD i 0 * b.getD k 0) = ys.getD (i + k) 0 + c + a.getD i 0 * b.getD k 0 := wrap_i64 (by omega) (by omega)
      obtain ⟨k1, k2, k3, k4⟩ := step (ys.getD (i + k) 0 + c + a.getD i 0 * b.getD k 0) 0 (by omega) rfl (by omega) (by omega)
      refine ⟨(k + 1, ys.set (i + k) ((ys.getD (i + k) 0 + c + a.getD i 0 * b.getD k 0) % 256), (ys.getD (i + k) 0 + c + a.getD i 0 * b.getD k 0) / 256), [0], by dsimp only; omega, ⟨by dsimp only; omega, k1, k2, k3, k4⟩, rfl, ?_⟩
      (refine ⟨rfl, rfl, ?_, ?_⟩ <;> repeat' (first | exact True.intro | rfl | decide | (refine And.intro ?_ ?_)))
      · refine di ?_
        rw [wj, Int.toNat_natCast, Int.toNat_natCast, Int.toNat_natCast, e1, e2, e3, Int.tdiv_eq_ediv_of_nonneg (by omega), wrap_i64 (by omega) (by omega)]
      · exact di wk
      · show some (Ob.row .i64 3 (ys.set (IntKind.i64.wrap ((i : Int) + k)).toNat ((IntKind.i64.wrap (IntKind.i64.wrap (ys.getD (IntKind.i64.wrap ((i : Int) + k)).toNat 0 + c) + IntKind.i64.wrap (a.getD (i : Int).toNat 0 * b.getD (k : Int).toNat 0))).tmod 256))) = some (Ob.row .i64 3 _)
        rw [wj, Int.toNat_natCast, Int.toNat_natCast, Int.toNat_natCast, e1, e2, e3, Int.tmod_eq_emod_of_nonneg (by omega)]
  · have hia : i = a.length := by omega
    subst hia
    refine acallI (f29' o ho (by omega)) rfl fun r hr => ?_
    obtain ⟨ds, rfl, h1, h2, h3, h4⟩ := hr
    ((conv => whnf); repeat' (first | (refine And.intro ?_ ?_; (focus (first | rfl | decide | assumption | omega | decide +kernel | exact ⟨rfl, rfl⟩ | exact ⟨rfl, rfl, rfl, rfl⟩ | exact fun h => Bool.noConfusion h | exact fun _ => rfl | exact Nat.le_of_ble_eq_true rfl | (simp only [List.length_map, List.length_append, List.length_replicate, List.length_take, List.length_drop, List.length_set, List.length_cons, List.length_nil]; omega))); (conv => whnf)) | ((refine And.intro ?_ ?_ <;> intro _h); all_goals ((first | replace _h := of_decide_eq_true _h | replace _h := of_decide_eq_false _h | skip); (try simp only [Bool.not_eq_true', Bool.not_eq_false', Bool.not_true, Bool.not_false, decide_eq_true_eq, decide_eq_false_iff_not] at _h); (try (guard_hyp _h : True; clear _h)); first | done | contradiction | exact absurd ((Eq.symm _h).trans (show _ = true by assumption)) (by decide) | exact absurd ((Eq.symm _h).trans (show _ = false by assumption)) (by decide) | (conv => whnf))) | (intro _h; ((first | replace _h := of_decide_eq_true _h | replace _h := of_decide_eq_false _h | skip); (try simp only [Bool.not_eq_true', Bool.not_eq_false', Bool.not_true, Bool.not_false, decide_eq_true_eq, decide_eq_false_iff_not] at _h); (try (guard_hyp _h : True; clear _h)); first | done | contradiction | exact absurd ((Eq.symm _h).trans (show _ = true by assumption)) (by decide) | exact absurd ((Eq.symm _h).trans (show _ = false by assumption)) (by decide) | (conv => whnf)))))
    refine Ends.imm rfl ⟨ds, rfl, by omega, h2, h3, ?_⟩
    rw [h4, hv, dval_take_all a (Nat.le_refl _)]

end Go.Proofs.YtniaeiikdgbnfaaDoor.R
