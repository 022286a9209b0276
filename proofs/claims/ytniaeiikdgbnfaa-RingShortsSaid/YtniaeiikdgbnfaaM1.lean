/- Plain law, part 1: numbers in limbs. -/
namespace Go.Proofs.Ytniaeiikdgbnfaa.R

/-- What limbs are worth: the lowest first. -/
def val : List Int → Int
  | [] => 0
  | x :: xs => x + 4294967296 * val xs

def wfl (xs : List Int) : Prop := ∀ x ∈ xs, 0 ≤ x ∧ x < 4294967296

theorem wfl.cons {x : Int} {xs : List Int} (h : wfl (x :: xs)) : (0 ≤ x ∧ x < 4294967296) ∧ wfl xs := ⟨h x (by simp), fun y hy => h y (by simp [hy])⟩
theorem wfl.append {xs ys : List Int} (h1 : wfl xs) (h2 : wfl ys) : wfl (xs ++ ys) := fun x hx => by
  rcases List.mem_append.1 hx with h | h
  · exact h1 x h
  · exact h2 x h
theorem wfl.take {xs : List Int} (h : wfl xs) (n : Nat) : wfl (xs.take n) := fun x hx => h x (List.mem_of_mem_take hx)
theorem wfl.drop {xs : List Int} (h : wfl xs) (n : Nat) : wfl (xs.drop n) := fun x hx => h x (List.mem_of_mem_drop hx)
theorem wfl.get {xs : List Int} (h : wfl xs) (i : Nat) : 0 ≤ xs.getD i 0 ∧ xs.getD i 0 < 4294967296 := by
  rw [List.getD_eq_getElem?_getD]
  rcases Nat.lt_or_ge i xs.length with hi | hi
  · rw [List.getElem?_eq_getElem hi]; exact h _ (List.getElem_mem hi)
  · rw [List.getElem?_eq_none hi]; simp
theorem wfl.one {x : Int} (h : 0 ≤ x ∧ x < 4294967296) : wfl [x] := fun y hy => by simp at hy; subst hy; exact h
theorem wfl.set {xs : List Int} (h : wfl xs) (i : Nat) {x : Int} (hx : 0 ≤ x ∧ x < 4294967296) : wfl (xs.set i x) := fun y hy => by
  rcases List.mem_or_eq_of_mem_set hy with h' | h'
  · exact h y h'
  · subst h'; exact hx

/-- The weight of limb number n. -/
def pw (n : Nat) : Int := 4294967296 ^ n
theorem pw_zero : pw 0 = 1 := rfl
theorem pw_succ (n : Nat) : pw (n + 1) = pw n * 4294967296 := Int.pow_succ ..
theorem pw_pos (n : Nat) : 0 < pw n := Int.pow_pos (by omega)
theorem pw_add (m n : Nat) : pw (m + n) = pw m * pw n := Int.pow_add ..

theorem val_append : ∀ (xs ys : List Int), val (xs ++ ys) = val xs + pw xs.length * val ys
  | [], ys => by simp [val, pw_zero]
  | x :: xs, ys => by
    simp only [List.cons_append, val, val_append xs ys, List.length_cons, pw_succ, Int.mul_add, Int.add_assoc]
    rw [Int.mul_comm (pw xs.length) 4294967296, Int.mul_assoc]
theorem val_snoc (xs : List Int) (x : Int) : val (xs ++ [x]) = val xs + pw xs.length * x := by
  rw [val_append]; simp [val]

theorem val_nonneg : ∀ {xs : List Int}, wfl xs → 0 ≤ val xs
  | [], _ => by simp [val]
  | x :: xs, h => by
    have := val_nonneg h.cons.2
    have := h.cons.1
    simp only [val]; omega
theorem val_lt : ∀ {xs : List Int}, wfl xs → val xs < pw xs.length
  | [], _ => by simp [val, pw_zero]
  | x :: xs, h => by
    have := val_lt h.cons.2
    have := h.cons.1
    simp only [val, List.length_cons, pw_succ]; omega

theorem val_inj : ∀ {xs ys : List Int}, wfl xs → wfl ys → xs.length = ys.length → val xs = val ys → xs = ys
  | [], [], _, _, _, _ => rfl
  | x :: xs, y :: ys, hx, hy, hl, hv => by
    simp only [val] at hv
    have h1 := hx.cons.1
    have h2 := hy.cons.1
    have e1 : x = y := by omega
    have e2 : val xs = val ys := by omega
    rw [e1, val_inj hx.cons.2 hy.cons.2 (by simpa using hl) e2]

theorem take_snoc {xs : List Int} {i : Nat} (h : i < xs.length) : xs.take (i + 1) = xs.take i ++ [xs.getD i 0] := by
  rw [List.take_add_one, List.getD_eq_getElem?_getD, List.getElem?_eq_getElem h]; rfl

/-- A sum, a limb further. -/
theorem add_limb {a b d : Int} (p : Int) {x y c : Int} (h : a + p * c = b + d) : a + p * ((x + y + c) % 4294967296) + p * 4294967296 * ((x + y + c) / 4294967296) = b + p * x + (d + p * y) := by
  have e : (x + y + c) % 4294967296 + 4294967296 * ((x + y + c) / 4294967296) = x + y + c := by omega
  have : p * ((x + y + c) % 4294967296) + p * 4294967296 * ((x + y + c) / 4294967296) = p * (x + y + c) := by rw [Int.mul_assoc, ← Int.mul_add, e]
  rw [Int.mul_add, Int.mul_add] at this
  omega

/-- A difference, a limb further. -/
theorem sub_limb {a b d : Int} (p : Int) {x y c : Int} (hx : 0 ≤ x ∧ x < 4294967296) (hy : 0 ≤ y ∧ y < 4294967296) (hc : c = 0 ∨ c = 1) (h : a - p * c = b - d) :
    a + p * ((x - y - c) % 4294967296) - p * 4294967296 * (if x < y + c then 1 else 0) = b + p * x - (d + p * y) := by
  have e : (x - y - c) % 4294967296 - 4294967296 * (if x < y + c then 1 else 0) = x - y - c := by
    rcases hc with rfl | rfl <;> split <;> omega
  have : p * ((x - y - c) % 4294967296) - p * 4294967296 * (if x < y + c then 1 else 0) = p * (x - y - c) := by rw [Int.mul_assoc, ← Int.mul_sub, e]
  rw [Int.mul_sub, Int.mul_sub] at this
  omega

end Go.Proofs.Ytniaeiikdgbnfaa.R
