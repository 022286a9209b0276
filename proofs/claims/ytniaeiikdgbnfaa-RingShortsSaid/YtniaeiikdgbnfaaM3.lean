/- Plain law, part 3: numbers in bytes, the lowest first, as the reference has them. -/
import Derived.Test.YtniaeiikdgbnfaaM2
namespace Go.Proofs.Ytniaeiikdgbnfaa.R

/-- What digits are worth: the lowest first. -/
def dval : List Int → Int
  | [] => 0
  | x :: xs => x + 256 * dval xs

def wfd (xs : List Int) : Prop := ∀ x ∈ xs, 0 ≤ x ∧ x < 256

theorem wfd.cons {x : Int} {xs : List Int} (h : wfd (x :: xs)) : (0 ≤ x ∧ x < 256) ∧ wfd xs := ⟨h x (by simp), fun y hy => h y (by simp [hy])⟩
theorem wfd.append {xs ys : List Int} (h1 : wfd xs) (h2 : wfd ys) : wfd (xs ++ ys) := fun x hx => by
  rcases List.mem_append.1 hx with h | h
  · exact h1 x h
  · exact h2 x h
theorem wfd.take {xs : List Int} (h : wfd xs) (n : Nat) : wfd (xs.take n) := fun x hx => h x (List.mem_of_mem_take hx)
theorem wfd.drop {xs : List Int} (h : wfd xs) (n : Nat) : wfd (xs.drop n) := fun x hx => h x (List.mem_of_mem_drop hx)
theorem wfd.get {xs : List Int} (h : wfd xs) (i : Nat) : 0 ≤ xs.getD i 0 ∧ xs.getD i 0 < 256 := by
  rw [List.getD_eq_getElem?_getD]
  rcases Nat.lt_or_ge i xs.length with hi | hi
  · rw [List.getElem?_eq_getElem hi]; exact h _ (List.getElem_mem hi)
  · rw [List.getElem?_eq_none hi]; simp
theorem wfd.one {x : Int} (h : 0 ≤ x ∧ x < 256) : wfd [x] := fun y hy => by simp at hy; subst hy; exact h
theorem wfd.set {xs : List Int} (h : wfd xs) (i : Nat) {x : Int} (hx : 0 ≤ x ∧ x < 256) : wfd (xs.set i x) := fun y hy => by
  rcases List.mem_or_eq_of_mem_set hy with h' | h'
  · exact h y h'
  · subst h'; exact hx

/-- The weight of digit number n. -/
def dpw (n : Nat) : Int := 256 ^ n
theorem dpw_zero : dpw 0 = 1 := rfl
theorem dpw_succ (n : Nat) : dpw (n + 1) = dpw n * 256 := Int.pow_succ ..
theorem dpw_pos (n : Nat) : 0 < dpw n := Int.pow_pos (by omega)
theorem dpw_add (m n : Nat) : dpw (m + n) = dpw m * dpw n := Int.pow_add ..

theorem dval_append : ∀ (xs ys : List Int), dval (xs ++ ys) = dval xs + dpw xs.length * dval ys
  | [], ys => by simp [dval, dpw_zero]
  | x :: xs, ys => by
    simp only [List.cons_append, dval, dval_append xs ys, List.length_cons, dpw_succ, Int.mul_add, Int.add_assoc]
    rw [Int.mul_comm (dpw xs.length) 256, Int.mul_assoc]
theorem dval_snoc (xs : List Int) (x : Int) : dval (xs ++ [x]) = dval xs + dpw xs.length * x := by
  rw [dval_append]; simp [dval]

theorem dval_nonneg : ∀ {xs : List Int}, wfd xs → 0 ≤ dval xs
  | [], _ => by simp [dval]
  | x :: xs, h => by
    have := dval_nonneg h.cons.2
    have := h.cons.1
    simp only [dval]; omega
theorem dval_lt : ∀ {xs : List Int}, wfd xs → dval xs < dpw xs.length
  | [], _ => by simp [dval, dpw_zero]
  | x :: xs, h => by
    have := dval_lt h.cons.2
    have := h.cons.1
    simp only [dval, List.length_cons, dpw_succ]; omega

theorem dval_inj : ∀ {xs ys : List Int}, wfd xs → wfd ys → xs.length = ys.length → dval xs = dval ys → xs = ys
  | [], [], _, _, _, _ => rfl
  | x :: xs, y :: ys, hx, hy, hl, hv => by
    simp only [dval] at hv
    have h1 := hx.cons.1
    have h2 := hy.cons.1
    have e1 : x = y := by omega
    have e2 : dval xs = dval ys := by omega
    rw [e1, dval_inj hx.cons.2 hy.cons.2 (by simpa using hl) e2]

/-- A difference, a digit further. -/
theorem sub_dig {a b d : Int} (p : Int) {x y c : Int} (hx : 0 ≤ x ∧ x < 256) (hy : 0 ≤ y ∧ y < 256) (hc : c = 0 ∨ c = 1) (h : a - p * c = b - d) :
    a + p * ((x - y - c) % 256) - p * 256 * (if x < y + c then 1 else 0) = b + p * x - (d + p * y) := by
  have e : (x - y - c) % 256 - 256 * (if x < y + c then 1 else 0) = x - y - c := by
    rcases hc with rfl | rfl <;> split <;> omega
  have : p * ((x - y - c) % 256) - p * 256 * (if x < y + c then 1 else 0) = p * (x - y - c) := by rw [Int.mul_assoc, ← Int.mul_sub, e]
  rw [Int.mul_sub, Int.mul_sub] at this
  omega

/-- Without noughts at its upper end. -/
def trimmed (xs : List Int) : Prop := xs = [] ∨ xs.getD (xs.length - 1) 0 ≠ 0

theorem dval_zeros : ∀ (xs : List Int), (∀ x ∈ xs, x = 0) → dval xs = 0
  | [], _ => rfl
  | x :: xs, h => by
    have h1 := h x (by simp)
    have h2 := dval_zeros xs fun y hy => h y (by simp [hy])
    simp [dval, h1, h2]

theorem dval_take {xs : List Int} {n : Nat} (h : ∀ j, n ≤ j → xs.getD j 0 = 0) : dval (xs.take n) = dval xs := by
  conv => rhs; rw [← List.take_append_drop n xs]
  rw [dval_append, dval_zeros (xs.drop n) fun x hx => ?_]
  · omega
  · obtain ⟨i, hi, rfl⟩ := List.getElem_of_mem hx
    have := h (n + i) (by omega)
    rw [List.getD_eq_getElem?_getD, List.getElem?_eq_getElem (by simp at hi; omega)] at this
    simpa using this

end Go.Proofs.Ytniaeiikdgbnfaa.R
