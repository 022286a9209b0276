/- Primes, part 1: binomials, Fermat's law, and what the power r does to pairs a + b sqrt D. Plain: no program in sight. -/

namespace Go.Proofs.YtniaeiikdgbnfaaDoor.NT
set_option linter.unusedSimpArgs false
set_option linter.unusedVariables false

def Pr (p : Nat) : Prop := 1 < p ∧ ∀ a, a ∣ p → a = 1 ∨ a = p

theorem Pr.cop {p a : Nat} (hp : Pr p) (h : ¬ p ∣ a) : Nat.Coprime p a := by
  rcases hp.2 _ (Nat.gcd_dvd_left p a) with h1 | h1
  · exact h1
  · exact (h (h1 ▸ Nat.gcd_dvd_right p a)).elim
theorem Pr.mul {p a b : Nat} (hp : Pr p) (h : p ∣ a * b) : p ∣ a ∨ p ∣ b := by
  by_cases h1 : p ∣ a
  · exact .inl h1
  · exact .inr ((hp.cop h1).dvd_of_dvd_mul_left h)
theorem Pr.mulI {p : Nat} {a b : Int} (hp : Pr p) (h : (p : Int) ∣ a * b) : (p : Int) ∣ a ∨ (p : Int) ∣ b := by
  have h2 : p ∣ a.natAbs * b.natAbs := by rw [← Int.natAbs_mul]; exact Int.ofNat_dvd_left.1 h
  rcases hp.mul h2 with h | h
  · exact .inl (Int.ofNat_dvd_left.2 h)
  · exact .inr (Int.ofNat_dvd_left.2 h)

theorem least_le (n : Nat) : ∀ k, (∃ d, 1 < d ∧ d ∣ n ∧ d ≤ k) → ∃ d, 1 < d ∧ d ∣ n ∧ ∀ e, 1 < e → e ∣ n → d ≤ e
  | 0, ⟨d, h1, _, h3⟩ => by omega
  | k + 1, ⟨d, h1, h2, h3⟩ => by
    by_cases h : ∃ d, 1 < d ∧ d ∣ n ∧ d ≤ k
    · exact least_le n k h
    · refine ⟨d, h1, h2, fun e he1 he2 => ?_⟩
      rcases Nat.lt_or_ge e d with h4 | h4
      · exact (h ⟨e, he1, he2, by omega⟩).elim
      · exact h4

theorem least (n : Nat) (h : 1 < n) : ∃ d, Pr d ∧ d ∣ n ∧ ∀ e, 1 < e → e ∣ n → d ≤ e := by
  obtain ⟨d, h1, h2, h3⟩ := least_le n n ⟨n, h, Nat.dvd_refl n, Nat.le_refl n⟩
  refine ⟨d, ⟨h1, fun a ha => ?_⟩, h2, h3⟩
  have h4 := Nat.le_of_dvd (by omega) ha
  rcases Nat.lt_or_ge 1 a with h5 | h5
  · exact .inr (Nat.le_antisymm h4 (h3 a h5 (Nat.dvd_trans ha h2)))
  · rcases Nat.eq_zero_or_pos a with h6 | h6
    · subst h6; have := Nat.eq_zero_of_zero_dvd ha; omega
    · exact .inl (by omega)

/-- A number is prime if its prime divisors are above its root. -/
theorem pr_of (n : Nat) (h : 1 < n) (hr : ∀ r, Pr r → r ∣ n → n < r * r) : Pr n := by
  obtain ⟨d, h1, h2, h3⟩ := least n h
  obtain ⟨c, hc⟩ := h2
  rcases Nat.lt_or_ge 1 c with h4 | h4
  · have h5 := h3 c h4 ⟨d, by rw [hc, Nat.mul_comm]⟩
    have h6 := hr d h1 ⟨c, hc⟩
    have h7 : d * d ≤ d * c := Nat.mul_le_mul_left d h5
    omega
  · have : c = 1 := by
      rcases Nat.eq_zero_or_pos c with h6 | h6
      · subst h6; simp at hc; omega
      · omega
    subst this
    rw [Nat.mul_one] at hc
    exact hc ▸ h1

/-! ### Binomials -/
def ch : Nat → Nat → Nat
  | _, 0 => 1
  | 0, _ + 1 => 0
  | n + 1, k + 1 => ch n k + ch n (k + 1)

theorem ch_big : ∀ {n k : Nat}, n < k → ch n k = 0
  | _, 0, h => by omega
  | 0, k + 1, _ => rfl
  | n + 1, k + 1, h => by simp only [ch]; rw [ch_big (by omega), ch_big (by omega)]
theorem ch_self : ∀ n, ch n n = 1
  | 0 => rfl
  | n + 1 => by simp only [ch]; rw [ch_self n, ch_big (by omega)]
theorem ch_zero (n : Nat) : ch n 0 = 1 := by cases n <;> rfl
theorem ch_mul : ∀ n k, (k + 1) * ch (n + 1) (k + 1) = (n + 1) * ch n k
  | 0, 0 => rfl
  | 0, k + 1 => by simp [ch]
  | n + 1, 0 => by
    have := ch_mul n 0
    simp only [ch, ch_zero] at this ⊢
    omega
  | n + 1, k + 1 => by
    have h1 := ch_mul n k
    have h2 := ch_mul n (k + 1)
    have e1 : ch (n + 1 + 1) (k + 1 + 1) = ch (n + 1) (k + 1) + ch (n + 1) (k + 1 + 1) := rfl
    have e2 : ch (n + 1) (k + 1) = ch n k + ch n (k + 1) := rfl
    rw [e1, Nat.mul_add, h2]
    have h3 : (k + 1 + 1) * ch (n + 1) (k + 1) = (n + 1) * ch n k + ch (n + 1) (k + 1) := by rw [Nat.add_mul, h1, Nat.one_mul]
    rw [h3, Nat.add_mul (n + 1) 1, Nat.one_mul]
    rw [show (n + 1) * ch (n + 1) (k + 1) = (n + 1) * ch n k + (n + 1) * ch n (k + 1) by rw [e2, Nat.mul_add]]
    omega
theorem ch_dvd {p k : Nat} (hp : Pr p) (h1 : 0 < k) (h2 : k < p) : p ∣ ch p k := by
  obtain ⟨n, rfl⟩ : ∃ n, p = n + 1 := ⟨p - 1, by omega⟩
  obtain ⟨j, rfl⟩ : ∃ j, k = j + 1 := ⟨k - 1, by omega⟩
  rcases hp.mul (⟨ch n j, ch_mul n j⟩ : n + 1 ∣ (j + 1) * ch (n + 1) (j + 1)) with h | h
  · have := Nat.le_of_dvd (by omega) h; omega
  · exact h

/-! ### Pairs a + b sqrt D -/
abbrev Z2 := Int × Int
def mq (D : Int) (x y : Z2) : Z2 := (x.1 * y.1 + D * (x.2 * y.2), x.1 * y.2 + x.2 * y.1)
def aq (x y : Z2) : Z2 := (x.1 + y.1, x.2 + y.2)
def sq (c : Int) (x : Z2) : Z2 := (c * x.1, c * x.2)
def pq (D : Int) (x : Z2) : Nat → Z2
  | 0 => (1, 0)
  | n + 1 => mq D (pq D x n) x
def sm (f : Nat → Z2) : Nat → Z2
  | 0 => (0, 0)
  | n + 1 => aq (sm f n) (f n)

theorem mq_comm (D : Int) (x y : Z2) : mq D x y = mq D y x := by
  apply Prod.ext <;> simp only [mq] <;> grind
theorem mq_assoc (D : Int) (x y z : Z2) : mq D (mq D x y) z = mq D x (mq D y z) := by
  apply Prod.ext <;> simp only [mq] <;> grind
theorem mq_one (D : Int) (x : Z2) : mq D x (1, 0) = x := by
  apply Prod.ext <;> simp only [mq] <;> grind
theorem one_mq (D : Int) (x : Z2) : mq D (1, 0) x = x := by rw [mq_comm, mq_one]
theorem mq_add (D : Int) (x y z : Z2) : mq D x (aq y z) = aq (mq D x y) (mq D x z) := by
  apply Prod.ext <;> simp only [mq, aq] <;> grind
theorem add_mq (D : Int) (x y z : Z2) : mq D (aq x y) z = aq (mq D x z) (mq D y z) := by
  apply Prod.ext <;> simp only [mq, aq] <;> grind
theorem sq_mq (D c : Int) (x y : Z2) : mq D (sq c x) y = sq c (mq D x y) := by
  apply Prod.ext <;> simp only [mq, sq] <;> grind
theorem pq_add (D : Int) (x : Z2) (m : Nat) : ∀ n, pq D x (m + n) = mq D (pq D x m) (pq D x n)
  | 0 => by simp only [pq, Nat.add_zero, mq_one]
  | n + 1 => by rw [← Nat.add_assoc]; simp only [pq]; rw [pq_add D x m n, mq_assoc]
theorem pq_mul (D : Int) (x : Z2) (m : Nat) : ∀ n, pq D x (m * n) = pq D (pq D x m) n
  | 0 => rfl
  | n + 1 => by rw [Nat.mul_succ, pq_add, pq_mul D x m n]; rfl
theorem pq_one (D : Int) : ∀ n, pq D (1, 0) n = (1, 0)
  | 0 => rfl
  | n + 1 => by simp only [pq]; rw [pq_one D n, mq_one]
theorem pq_mq (D : Int) (x y : Z2) : ∀ n, pq D (mq D x y) n = mq D (pq D x n) (pq D y n)
  | 0 => (mq_one D _).symm
  | n + 1 => by
    simp only [pq]
    rw [pq_mq D x y n, mq_assoc, mq_assoc]
    congr 1
    rw [← mq_assoc, ← mq_assoc, mq_comm D (pq D y n) x]
theorem sm_mq (D : Int) (f : Nat → Z2) (x : Z2) : ∀ m, mq D (sm f m) x = sm (fun k => mq D (f k) x) m
  | 0 => by apply Prod.ext <;> simp [mq, sm]
  | m + 1 => by simp only [sm]; rw [add_mq, sm_mq D f x m]
theorem aq_assoc (x y z : Z2) : aq (aq x y) z = aq x (aq y z) := by
  apply Prod.ext <;> simp only [aq] <;> omega
theorem aq_swap (a b c d : Z2) : aq (aq a b) (aq c d) = aq (aq a c) (aq b d) := by
  apply Prod.ext <;> simp only [aq] <;> omega
theorem sm_shift (f : Nat → Z2) : ∀ m, sm f (m + 1) = aq (f 0) (sm (fun k => f (k + 1)) m)
  | 0 => by apply Prod.ext <;> simp [aq, sm]
  | m + 1 => by
    rw [show sm f (m + 1 + 1) = aq (sm f (m + 1)) (f (m + 1)) from rfl, sm_shift f m, aq_assoc]; rfl
theorem sm_aq (f g : Nat → Z2) : ∀ m, aq (sm f m) (sm g m) = sm (fun k => aq (f k) (g k)) m
  | 0 => by apply Prod.ext <;> simp [aq, sm]
  | m + 1 => by simp only [sm]; rw [← sm_aq f g m, aq_swap]
theorem sm_congr {f g : Nat → Z2} : ∀ m, (∀ k, k < m → f k = g k) → sm f m = sm g m
  | 0, _ => rfl
  | m + 1, h => by simp only [sm]; rw [sm_congr m (fun k hk => h k (by omega)), h m (by omega)]
theorem sq_zero (x : Z2) : sq 0 x = (0, 0) := by apply Prod.ext <;> simp [sq]
theorem sq_add (c d : Int) (x : Z2) : sq (c + d) x = aq (sq c x) (sq d x) := by
  apply Prod.ext <;> simp only [sq, aq] <;> grind
theorem aq_zero (x : Z2) : aq x (0, 0) = x := by apply Prod.ext <;> simp [aq]

/-- A power of a sum. -/
theorem binom (D : Int) (x y : Z2) : ∀ n, pq D (aq x y) n = sm (fun k => sq (ch n k) (mq D (pq D x (n - k)) (pq D y k))) (n + 1)
  | 0 => by
    simp only [pq, sm, ch, mq_one]
    apply Prod.ext <;> simp [aq, sq, pq]
  | n + 1 => by
    have ih := binom D x y n
    rw [show pq D (aq x y) (n + 1) = mq D (pq D (aq x y) n) (aq x y) from rfl, ih, mq_add, sm_mq, sm_mq]
    have e1 : sm (fun k => mq D (sq (ch n k) (mq D (pq D x (n - k)) (pq D y k))) x) (n + 1) = sm (fun k => sq (ch n k) (mq D (pq D x (n + 1 - k)) (pq D y k))) (n + 1) := by
      refine sm_congr _ fun k hk => ?_
      rw [sq_mq, mq_assoc, mq_comm D (pq D y k) x, ← mq_assoc, show n + 1 - k = (n - k) + 1 by omega]
      rfl
    have e2 : sm (fun k => sq (ch n k) (mq D (pq D x (n + 1 - k)) (pq D y k))) (n + 1) = sm (fun k => sq (ch n k) (mq D (pq D x (n + 1 - k)) (pq D y k))) (n + 2) := by
      rw [show sm (fun k => sq (ch n k) (mq D (pq D x (n + 1 - k)) (pq D y k))) (n + 2) = aq (sm (fun k => sq (ch n k) (mq D (pq D x (n + 1 - k)) (pq D y k))) (n + 1)) (sq (ch n (n + 1)) (mq D (pq D x (n + 1 - (n + 1))) (pq D y (n + 1)))) from rfl, ch_big (Nat.lt_succ_self n), Int.natCast_zero, sq_zero, aq_zero]
    rw [e1, e2, sm_shift _ (n + 1), sm_shift _ (n + 1), aq_assoc, sm_aq]
    congr 1
    · simp only [ch_zero]
    · refine sm_congr _ fun k hk => ?_
      rw [sq_mq, mq_assoc, show ch (n + 1) (k + 1) = ch n k + ch n (k + 1) from rfl, Int.natCast_add, sq_add, show n + 1 - (k + 1) = n - k by omega]
      rw [show mq D (pq D y k) y = pq D y (k + 1) from rfl]
      apply Prod.ext <;> simp only [aq] <;> omega

/-! ### Congruence -/
def cq (n : Nat) (x y : Z2) : Prop := (n : Int) ∣ x.1 - y.1 ∧ (n : Int) ∣ x.2 - y.2

theorem cq.refl (n : Nat) (x : Z2) : cq n x x := ⟨by simp, by simp⟩
theorem cq.symm {n : Nat} {x y : Z2} (h : cq n x y) : cq n y x := by
  obtain ⟨⟨a, ha⟩, ⟨b, hb⟩⟩ := h
  exact ⟨⟨-a, by rw [Int.mul_neg, ← ha]; omega⟩, ⟨-b, by rw [Int.mul_neg, ← hb]; omega⟩⟩
theorem cq.trans {n : Nat} {x y z : Z2} (h : cq n x y) (h' : cq n y z) : cq n x z := by
  obtain ⟨⟨a, ha⟩, ⟨b, hb⟩⟩ := h
  obtain ⟨⟨c, hc⟩, ⟨d, hd⟩⟩ := h'
  exact ⟨⟨a + c, by rw [Int.mul_add, ← ha, ← hc]; omega⟩, ⟨b + d, by rw [Int.mul_add, ← hb, ← hd]; omega⟩⟩
theorem cq.mul {n : Nat} {D : Int} {x y u v : Z2} (h : cq n x y) (h' : cq n u v) : cq n (mq D x u) (mq D y v) := by
  obtain ⟨⟨a, ha⟩, ⟨b, hb⟩⟩ := h
  obtain ⟨⟨c, hc⟩, ⟨d, hd⟩⟩ := h'
  refine ⟨⟨a * u.1 + y.1 * c + D * (b * u.2 + y.2 * d), ?_⟩, ⟨a * u.2 + y.1 * d + b * u.1 + y.2 * c, ?_⟩⟩ <;> simp only [mq] <;> grind
theorem cq.add {n : Nat} {x y u v : Z2} (h : cq n x y) (h' : cq n u v) : cq n (aq x u) (aq y v) := by
  obtain ⟨⟨a, ha⟩, ⟨b, hb⟩⟩ := h
  obtain ⟨⟨c, hc⟩, ⟨d, hd⟩⟩ := h'
  refine ⟨⟨a + c, ?_⟩, ⟨b + d, ?_⟩⟩ <;> simp only [aq] <;> grind
theorem cq.pow {n : Nat} {D : Int} {x y : Z2} (h : cq n x y) : ∀ k, cq n (pq D x k) (pq D y k)
  | 0 => cq.refl _ _
  | k + 1 => (cq.pow h k).mul h
theorem cq.of_dvd {n r : Nat} {x y : Z2} (h : cq n x y) (hr : r ∣ n) : cq r x y :=
  ⟨Int.dvd_trans (Int.natCast_dvd_natCast.2 hr) h.1, Int.dvd_trans (Int.natCast_dvd_natCast.2 hr) h.2⟩

theorem sm_zero {n : Nat} {f : Nat → Z2} : ∀ m, (∀ k, k < m → cq n (f k) (0, 0)) → cq n (sm f m) (0, 0)
  | 0, _ => cq.refl _ _
  | m + 1, h => by
    have h1 := (sm_zero m fun k hk => h k (by omega)).add (h m (by omega))
    rwa [aq_zero] at h1

/-- The power p of a sum, p a prime. -/
theorem frob {p : Nat} (hp : Pr p) (D : Int) (x y : Z2) : cq p (pq D (aq x y) p) (aq (pq D x p) (pq D y p)) := by
  obtain ⟨m, rfl⟩ : ∃ m, p = m + 1 := ⟨p - 1, by have := hp.1; omega⟩
  rw [binom]
  show cq (m + 1) (aq (sm _ (m + 1)) _) _
  rw [sm_shift]
  have h1 : cq (m + 1) (sm (fun k => sq (ch (m + 1) (k + 1)) (mq D (pq D x (m + 1 - (k + 1))) (pq D y (k + 1)))) m) (0, 0) := by
    refine sm_zero m fun k hk => ?_
    obtain ⟨c, hc⟩ := ch_dvd hp (show 0 < k + 1 by omega) (show k + 1 < m + 1 by omega)
    rw [hc]
    refine ⟨⟨c * (mq D (pq D x (m + 1 - (k + 1))) (pq D y (k + 1))).1, ?_⟩, ⟨c * (mq D (pq D x (m + 1 - (k + 1))) (pq D y (k + 1))).2, ?_⟩⟩ <;> simp only [sq] <;> grind
  have h2 := ((cq.refl (m + 1) (sq (ch (m + 1) 0) (mq D (pq D x (m + 1 - 0)) (pq D y 0)))).add h1).add (cq.refl (m + 1) (sq (ch (m + 1) (m + 1)) (mq D (pq D x (m + 1 - (m + 1))) (pq D y (m + 1)))))
  refine h2.trans ?_
  rw [aq_zero, ch_zero, ch_self, Nat.sub_self, Nat.sub_zero]
  simp only [pq, mq_one, one_mq]
  have : ∀ z : Z2, sq ((1 : Nat) : Int) z = z := fun z => by apply Prod.ext <;> simp [sq]
  rw [this, this]
  exact cq.refl _ _

theorem pq_left (D a : Int) : ∀ n, pq D (a, 0) n = (a ^ n, 0)
  | 0 => by simp [pq]
  | n + 1 => by simp only [pq]; rw [pq_left D a n]; apply Prod.ext <;> simp [mq, Int.pow_succ]
theorem pq_right (D b : Int) : ∀ k, pq D (0, b) (2 * k + 1) = (0, b ^ (2 * k + 1) * D ^ k)
  | 0 => by simp [pq, one_mq, Int.pow_succ]
  | k + 1 => by
    rw [show 2 * (k + 1) + 1 = 2 * k + 1 + 1 + 1 by omega]
    simp only [pq]
    rw [show mq D (pq D (0, b) (2 * k)) (0, b) = pq D (0, b) (2 * k + 1) from rfl, pq_right D b k]
    apply Prod.ext
    · simp [mq]
    · simp only [mq, Int.pow_succ]; grind

/-- Fermat's law. -/
theorem fermat {p : Nat} (hp : Pr p) : ∀ a : Nat, (p : Int) ∣ (a : Int) ^ p - a
  | 0 => by
    obtain ⟨m, hm⟩ : ∃ m, p = m + 1 := ⟨p - 1, by have := hp.1; omega⟩
    rw [hm]; simp [Int.pow_succ]
  | a + 1 => by
    have h1 := (frob hp 0 ((a : Int), 0) (1, 0)).1
    have e : aq ((a : Int), 0) (1, 0) = (((a + 1 : Nat) : Int), 0) := by apply Prod.ext <;> simp [aq]
    rw [e, pq_left, pq_left, pq_left] at h1
    simp only [aq, Int.one_pow] at h1
    obtain ⟨c, hc⟩ := h1
    obtain ⟨d, hd⟩ := fermat hp a
    exact ⟨c + d, by rw [Int.mul_add, ← hc, ← hd]; push_cast; omega⟩

def cj (x : Z2) : Z2 := (x.1, -x.2)

/-- The power r of a pair is the pair, or its other one; r an odd prime that does not divide D. -/
theorem frob2 {r : Nat} (hr : Pr r) (hodd : r % 2 = 1) (D a b : Nat) (hD : ¬ r ∣ D) : cq r (pq D ((a : Int), (b : Int)) r) ((a : Int), (b : Int)) ∨ cq r (pq D ((a : Int), (b : Int)) r) ((a : Int), -(b : Int)) := by
  obtain ⟨k, hk⟩ : ∃ k, r = 2 * k + 1 := ⟨r / 2, by omega⟩
  have h1 := frob hr (D : Int) ((a : Int), 0) (0, (b : Int))
  have e : aq ((a : Int), 0) (0, (b : Int)) = ((a : Int), (b : Int)) := by apply Prod.ext <;> simp [aq]
  rw [e] at h1
  have h2 : pq (D : Int) (0, (b : Int)) r = (0, (b : Int) ^ r * (D : Int) ^ k) := by rw [hk]; exact pq_right _ _ k
  rw [h2, pq_left] at h1
  have fa := fermat hr a
  have fb := fermat hr b
  have fD := fermat hr D
  have e3 : (D : Int) ^ r - D = D * (((D : Int) ^ k - 1) * ((D : Int) ^ k + 1)) := by
    rw [hk, Int.pow_succ, Nat.two_mul, Int.pow_add]; grind
  rw [e3] at fD
  obtain ⟨u, hu⟩ := h1.1
  obtain ⟨v, hv⟩ := h1.2
  obtain ⟨ca, hca⟩ := fa
  obtain ⟨cb, hcb⟩ := fb
  simp only [aq] at hu hv
  generalize pq (D : Int) ((a : Int), (b : Int)) r = Z at hu hv ⊢
  generalize hdk : (D : Int) ^ k = dk at hu hv fD
  generalize (a : Int) ^ r = ar at hu hv hca
  generalize (b : Int) ^ r = br at hu hv hcb
  rcases hr.mulI fD with h | h
  · exact (hD (Int.natCast_dvd_natCast.1 h)).elim
  · clear fD hdk e3 h1 h2
    rcases hr.mulI h with ⟨c, hc⟩ | ⟨c, hc⟩
    · left
      refine ⟨⟨u + ca, ?_⟩, ⟨v + cb * dk + b * c, ?_⟩⟩ <;> simp only <;> clear h <;> grind
    · right
      refine ⟨⟨u + ca, ?_⟩, ⟨v + cb * dk + b * c, ?_⟩⟩ <;> simp only <;> clear h <;> grind
end Go.Proofs.YtniaeiikdgbnfaaDoor.NT

/- Primes, part 2: certificates, and the law of the keys. Plain: no program in sight. -/
namespace Go.Proofs.YtniaeiikdgbnfaaDoor.NT
set_option linter.unusedSimpArgs false
set_option linter.unusedVariables false

theorem pow_gcd {n : Nat} {D : Int} {x : Z2} (a b : Nat) : cq n (pq D x a) (1, 0) → cq n (pq D x b) (1, 0) → cq n (pq D x (Nat.gcd a b)) (1, 0) := by
  induction a, b using Nat.gcd.induction with
  | H0 b => intro _ h; rw [Nat.gcd_zero_left]; exact h
  | H1 a b h0 ih =>
    intro ha hb
    rw [Nat.gcd_rec]
    refine ih ?_ ha
    have h1 := ha.pow (D := D) (b / a)
    rw [pq_one, ← pq_mul] at h1
    have h2 := h1.mul (D := D) (cq.refl n (pq D x (b % a)))
    rw [one_mq, ← pq_add, Nat.div_add_mod] at h2
    exact h2.symm.trans hb

theorem ord {n s j : Nat} {D : Int} {x : Z2} (h0 : 0 < s) (hs : cq n (pq D x s) (1, 0)) (hj : cq n (pq D x j) (1, 0)) (hq : ∀ q, Pr q → q ∣ s → ¬ cq n (pq D x (s / q)) (1, 0)) : s ∣ j := by
  have hg := pow_gcd s j hs hj
  obtain ⟨c, hc⟩ := Nat.gcd_dvd_left s j
  rcases Nat.lt_or_ge 1 c with h | h
  · obtain ⟨q, hq1, ⟨d, hd⟩, _⟩ := least c h
    refine (hq q hq1 ⟨Nat.gcd s j * d, by rw [Nat.mul_left_comm, ← hd]; exact hc⟩ ?_).elim
    have e : s / q = Nat.gcd s j * d := by
      refine Nat.div_eq_of_eq_mul_right (by have := hq1.1; omega) ?_
      rw [Nat.mul_left_comm, ← hd]; exact hc
    rw [e, pq_mul]
    have := hg.pow (D := D) d
    rwa [pq_one] at this
  · have : c = 1 := by
      rcases Nat.eq_zero_or_pos c with h6 | h6
      · subst h6; simp at hc; omega
      · omega
    rw [this, Nat.mul_one] at hc
    rw [hc]
    exact Nat.gcd_dvd_right s j

/-- The product of a list. -/
def pl : List Nat → Nat
  | [] => 1
  | q :: qs => q * pl qs
theorem pl_mem {q : Nat} (hq : Pr q) : ∀ qs : List Nat, (∀ x ∈ qs, Pr x) → q ∣ pl qs → q ∈ qs
  | [], _, h => by have h1 := Nat.le_of_dvd (by decide) h; have h2 := hq.1; simp only [pl] at h1; omega
  | x :: qs, hx, h => by
    rcases hq.mul h with h | h
    · rcases (hx x (List.mem_cons_self ..)).2 q h with e | e
      · have := hq.1; omega
      · subst e; exact List.mem_cons_self ..
    · exact List.mem_cons_of_mem _ (pl_mem hq qs (fun y hy => hx y (List.mem_cons_of_mem _ hy)) h)

theorem lucas {n D a b s : Nat} (h0 : 0 < s) (hodd : n % 2 = 1) (hnorm : a * a % n = (D * (b * b) + 1) % n) (hD : Nat.gcd D n = 1) (hs : cq n (pq D ((a : Int), (b : Int)) s) (1, 0))
    (hu : ∀ r q, Pr r → r ∣ n → Pr q → q ∣ s → ¬ cq r (pq D ((a : Int), (b : Int)) (s / q)) (1, 0)) (r : Nat) (hr : Pr r) (hrn : r ∣ n) : s ∣ r - 1 ∨ s ∣ r + 1 := by
  obtain ⟨m, hm⟩ : ∃ m, r = m + 1 := ⟨r - 1, by have := hr.1; omega⟩
  have hro : r % 2 = 1 := by
    obtain ⟨c, hc⟩ := hrn
    rcases Nat.mod_two_eq_zero_or_one r with h | h
    · rw [hc, Nat.mul_mod, h] at hodd; simp at hodd
    · exact h
  have hrD : ¬ r ∣ D := fun h => by
    have := Nat.dvd_gcd h hrn
    rw [hD] at this
    have := Nat.le_of_dvd (by decide) this
    have := hr.1
    omega
  have hN : cq r (mq D ((a : Int), (b : Int)) (cj ((a : Int), (b : Int)))) (1, 0) := by
    have h1 : ((a * a : Nat) : Int) % (n : Int) = ((D * (b * b) + 1 : Nat) : Int) % (n : Int) := by rw [← Int.natCast_emod, ← Int.natCast_emod, hnorm]
    have h2 : (n : Int) ∣ ((a * a : Nat) : Int) - ((D * (b * b) + 1 : Nat) : Int) := Int.dvd_of_emod_eq_zero (Int.emod_eq_emod_iff_emod_sub_eq_zero.1 h1)
    obtain ⟨c, hc⟩ := Int.dvd_trans (Int.natCast_dvd_natCast.2 hrn) h2
    push_cast at hc
    refine ⟨⟨c, ?_⟩, ⟨0, ?_⟩⟩ <;> simp only [mq, cj] <;> grind
  have hs' := hs.of_dvd hrn
  rcases frob2 hr hro D a b hrD with h | h
  · left
    refine ord h0 hs' ?_ (fun q => hu r q hr hrn)
    have h1 := h.mul (D := D) (cq.refl r (cj ((a : Int), (b : Int))))
    have e : pq D ((a : Int), (b : Int)) r = mq D (pq D ((a : Int), (b : Int)) (r - 1)) ((a : Int), (b : Int)) := by rw [hm]; rfl
    rw [e, mq_assoc] at h1
    have h2 := (cq.refl r (pq D ((a : Int), (b : Int)) (r - 1))).mul (D := D) hN
    rw [mq_one] at h2
    exact h2.symm.trans (h1.trans hN)
  · right
    refine ord h0 hs' ?_ (fun q => hu r q hr hrn)
    have h1 := h.mul (D := D) (cq.refl r ((a : Int), (b : Int)))
    rw [show mq (D : Int) ((a : Int), -(b : Int)) ((a : Int), (b : Int)) = mq D ((a : Int), (b : Int)) (cj ((a : Int), (b : Int))) from mq_comm _ _ _] at h1
    exact h1.trans hN

/-! ### Powers, reckoned -/
def pn (n D : Nat) : Nat → Nat → Nat → Nat → Nat → Nat → Nat × Nat
  | 0, _, _, _, a1, a2 => (a1, a2)
  | f + 1, x1, x2, e, a1, a2 =>
    if e % 2 = 1 then pn n D f ((x1 * x1 + D * (x2 * x2)) % n) (2 * (x1 * x2) % n) (e / 2) ((a1 * x1 + D * (a2 * x2)) % n) ((a1 * x2 + a2 * x1) % n)
    else pn n D f ((x1 * x1 + D * (x2 * x2)) % n) (2 * (x1 * x2) % n) (e / 2) a1 a2

theorem cq_mod (n : Nat) (u v : Nat) : cq n (((u % n : Nat) : Int), ((v % n : Nat) : Int)) ((u : Int), (v : Int)) := by
  refine ⟨⟨-((u / n : Nat) : Int), ?_⟩, ⟨-((v / n : Nat) : Int), ?_⟩⟩
  · have := Nat.div_add_mod u n
    have h : ((n * (u / n) + u % n : Nat) : Int) = u := by rw [this]
    push_cast at h ⊢
    rw [Int.mul_neg]
    omega
  · have := Nat.div_add_mod v n
    have h : ((n * (v / n) + v % n : Nat) : Int) = v := by rw [this]
    push_cast at h ⊢
    rw [Int.mul_neg]
    omega

theorem pn_eq (n D : Nat) : ∀ (f x1 x2 e a1 a2 : Nat), e < 2 ^ f → cq n (((pn n D f x1 x2 e a1 a2).1 : Int), ((pn n D f x1 x2 e a1 a2).2 : Int)) (mq D ((a1 : Int), (a2 : Int)) (pq D ((x1 : Int), (x2 : Int)) e))
  | 0, x1, x2, e, a1, a2, h => by
    have : e = 0 := by simp at h; exact h
    subst this
    simp only [pn, pq, mq_one]
    exact cq.refl _ _
  | f + 1, x1, x2, e, a1, a2, h => by
    have h2 : e / 2 < 2 ^ f := by rw [Nat.pow_succ] at h; omega
    have hx : cq n ((((x1 * x1 + D * (x2 * x2)) % n : Nat) : Int), ((2 * (x1 * x2) % n : Nat) : Int)) (pq D ((x1 : Int), (x2 : Int)) 2) := by
      refine (cq_mod n _ _).trans ?_
      have : ((((x1 * x1 + D * (x2 * x2) : Nat)) : Int), ((2 * (x1 * x2) : Nat) : Int)) = pq D ((x1 : Int), (x2 : Int)) 2 := by
        simp only [pq, one_mq]
        apply Prod.ext <;> simp only [mq] <;> push_cast <;> grind
      rw [this]
      exact cq.refl _ _
    have hxe := hx.pow (D := D) (e / 2)
    rw [← pq_mul] at hxe
    unfold pn
    split
    · rename_i h1
      refine (pn_eq n D f _ _ _ _ _ h2).trans ?_
      have ha : cq n ((((a1 * x1 + D * (a2 * x2)) % n : Nat) : Int), (((a1 * x2 + a2 * x1) % n : Nat) : Int)) (mq D ((a1 : Int), (a2 : Int)) ((x1 : Int), (x2 : Int))) := by
        refine (cq_mod n _ _).trans ?_
        have : ((((a1 * x1 + D * (a2 * x2) : Nat)) : Int), ((a1 * x2 + a2 * x1 : Nat) : Int)) = mq D ((a1 : Int), (a2 : Int)) ((x1 : Int), (x2 : Int)) := by
          apply Prod.ext <;> simp only [mq] <;> push_cast <;> grind
        rw [this]
        exact cq.refl _ _
      refine (ha.mul hxe).trans ?_
      rw [mq_assoc]
      have : e = 1 + 2 * (e / 2) := by omega
      rw [show pq D ((x1 : Int), (x2 : Int)) e = pq D ((x1 : Int), (x2 : Int)) (1 + 2 * (e / 2)) by rw [← this], pq_add]
      simp only [pq, one_mq]
      exact cq.refl _ _
    · rename_i h1
      refine (pn_eq n D f _ _ _ _ _ h2).trans ?_
      have : 2 * (e / 2) = e := by omega
      rw [this] at hxe
      exact (cq.refl n _).mul hxe

/-! ### Certificates -/
def okC (n D a b s : Nat) (qs : List Nat) : Bool :=
  n % 2 == 1 && a * a % n == (D * (b * b) + 1) % n && Nat.gcd D n == 1 && s == pl qs && Nat.blt 1 s && Nat.blt s (2 ^ 600) && Nat.blt n ((s - 1) * (s - 1)) && pn n D 600 a b s 1 0 == (1, 0) &&
    qs.all fun q => Nat.gcd (pn n D 600 a b (s / q) 1 0).2 n == 1 || Nat.gcd ((pn n D 600 a b (s / q) 1 0).1 + n - 1) n == 1

theorem pr_cert {n : Nat} (D a b s : Nat) (qs : List Nat) (hq : ∀ q ∈ qs, Pr q) (h : okC n D a b s qs = true) : Pr n := by
  unfold okC at h
  simp only [Bool.and_eq_true, beq_iff_eq, Nat.blt_eq] at h
  obtain ⟨⟨⟨⟨⟨⟨⟨⟨h1, h2⟩, h3⟩, h4⟩, h5⟩, h5'⟩, h6⟩, h7⟩, h8⟩ := h
  have hn : 1 < n := by
    rcases Nat.lt_or_ge 1 n with h | h
    · exact h
    · have : n = 1 := by omega
      subst this
      rw [Nat.gcd_one_right] at h3
      exact (by
        have hs2 : s ≠ 2 ∨ s = 2 := by omega
        have e : pn 1 D 600 a b s 1 0 = (1, 0) := h7
        have := pn_eq 1 D 600 a b s 1 0 h5'
        have hle : ∀ (f x1 x2 e a1 a2 : Nat), 0 < e → e < 2 ^ f → (pn 1 D f x1 x2 e a1 a2).1 = 0 := by
          intro f
          induction f with
          | zero => intro x1 x2 e a1 a2 he h; simp at h; omega
          | succ f ih =>
            intro x1 x2 e a1 a2 he h
            have h2 : e / 2 < 2 ^ f := by rw [Nat.pow_succ] at h; omega
            have h0 : ∀ (f x1 x2 a1 a2 : Nat), a1 = 0 → (pn 1 D f x1 x2 0 a1 a2).1 = 0 := by
              intro f
              induction f with
              | zero => intro x1 x2 a1 a2 h; exact h
              | succ f ih =>
                intro x1 x2 a1 a2 h
                unfold pn
                rw [if_neg (by decide)]
                exact ih _ _ _ _ h
            unfold pn
            split
            · rcases Nat.eq_zero_or_pos (e / 2) with h | h
              · rw [h]; exact h0 _ _ _ _ _ (Nat.mod_one _)
              · exact ih _ _ _ _ _ h h2
            · exact ih _ _ _ _ _ (by omega) h2
        have := hle 600 a b s 1 0 (by omega) h5'
        rw [e] at this
        simp at this)
  have hs : cq n (pq D ((a : Int), (b : Int)) s) (1, 0) := by
    have := pn_eq n D 600 a b s 1 0 h5'
    rw [h7] at this
    have e : mq D (((1 : Nat) : Int), ((0 : Nat) : Int)) (pq D ((a : Int), (b : Int)) s) = pq D ((a : Int), (b : Int)) s := one_mq _ _
    rw [e] at this
    exact this.symm
  refine pr_of n hn fun r hr hrn => ?_
  have hr1 := hr.1
  have key := lucas (by omega) h1 h2 h3 hs (fun r q hr hrn hqp hqs => by
    rw [h4] at hqs
    have hm := pl_mem hqp qs hq hqs
    have h9 := List.all_eq_true.1 h8 q hm
    simp only [Bool.or_eq_true, beq_iff_eq] at h9
    intro hc
    have hlt : s / q < 2 ^ 600 := Nat.lt_of_le_of_lt (Nat.div_le_self _ _) h5'
    have hp := (pn_eq n D 600 a b (s / q) 1 0 hlt).of_dvd hrn
    have e : mq D (((1 : Nat) : Int), ((0 : Nat) : Int)) (pq D ((a : Int), (b : Int)) (s / q)) = pq D ((a : Int), (b : Int)) (s / q) := one_mq _ _
    rw [e] at hp
    obtain ⟨k1, k2⟩ := hp.trans hc
    have hr1 := hr.1
    have hn0 : 0 < n := by omega
    rcases h9 with h9 | h9
    · have : r ∣ (pn n D 600 a b (s / q) 1 0).2 := by
        have : (r : Int) ∣ ((pn n D 600 a b (s / q) 1 0).2 : Int) := by simpa using k2
        exact Int.natCast_dvd_natCast.1 this
      have := Nat.dvd_gcd this hrn
      rw [h9] at this
      have := Nat.le_of_dvd (by decide) this
      omega
    · have : r ∣ (pn n D 600 a b (s / q) 1 0).1 + n - 1 := by
        have h10 : (r : Int) ∣ (((pn n D 600 a b (s / q) 1 0).1 : Int) - 1) + n := Int.dvd_add k1 (Int.natCast_dvd_natCast.2 hrn)
        have h11 : (((pn n D 600 a b (s / q) 1 0).1 + n - 1 : Nat) : Int) = (((pn n D 600 a b (s / q) 1 0).1 : Int) - 1) + n := by omega
        rw [← h11] at h10
        exact Int.natCast_dvd_natCast.1 h10
      have := Nat.dvd_gcd this hrn
      rw [h9] at this
      have := Nat.le_of_dvd (by decide) this
      omega) r hr hrn
  have hle : s - 1 ≤ r := by
    rcases key with h | h
    · have := Nat.le_of_dvd (by omega) h; omega
    · have := Nat.le_of_dvd (by omega) h; omega
  exact Nat.lt_of_lt_of_le h6 (Nat.mul_le_mul hle hle)

/-- Small primes, by trial. -/
def noDiv (q : Nat) : Nat → Nat → Bool
  | 0, _ => false
  | f + 1, d => Nat.blt q (d * d) || (q % d != 0 && noDiv q f (d + 1))
theorem noDiv_spec {q : Nat} : ∀ f d, noDiv q f d = true → (∀ e, 1 < e → e < d → ¬ e ∣ q) → ∀ e, 1 < e → e * e ≤ q → ¬ e ∣ q
  | 0, d, h, _ => by simp [noDiv] at h
  | f + 1, d, h, hd => by
    unfold noDiv at h
    rw [Bool.or_eq_true] at h
    intro e he he2 hdv
    rcases h with h | h
    · rw [Nat.blt_eq] at h
      rcases Nat.lt_or_ge e d with h1 | h1
      · exact hd e he h1 hdv
      · have := Nat.mul_le_mul h1 h1; omega
    · simp only [Bool.and_eq_true, bne_iff_ne, ne_eq] at h
      refine noDiv_spec f (d + 1) h.2 (fun e he1 he2 => ?_) e he he2 hdv
      rcases Nat.lt_or_ge e d with h1 | h1
      · exact hd e he1 h1
      · have : e = d := by omega
        subst this
        exact fun h3 => h.1 (Nat.mod_eq_zero_of_dvd h3)
theorem pr_small {q : Nat} (h : (Nat.blt 1 q && noDiv q 2000 2) = true) : Pr q := by
  rw [Bool.and_eq_true, Nat.blt_eq] at h
  refine pr_of q h.1 fun r hr hrq => ?_
  rcases Nat.lt_or_ge q (r * r) with h1 | h1
  · exact h1
  · exact (noDiv_spec 2000 2 h.2 (fun e h1 h2 => by omega) r hr.1 h1 hrq).elim

/-! ### The keys -/
theorem fermat_exp {p : Nat} (hp : Pr p) (x : Nat) : ∀ t, (p : Int) ∣ (x : Int) ^ (1 + t * (p - 1)) - x
  | 0 => by simp [Int.pow_succ]
  | t + 1 => by
    obtain ⟨c, hc⟩ := fermat_exp hp x t
    obtain ⟨d, hd⟩ := fermat hp x
    have e : 1 + (t + 1) * (p - 1) = (1 + t * (p - 1)) + (p - 1) := by rw [Nat.add_mul]; omega
    have e2 : (x : Int) ^ p = x ^ (p - 1) * x := by rw [← Int.pow_succ]; congr 1; have := hp.1; omega
    rw [e, Int.pow_add]
    refine ⟨c * (x : Int) ^ (p - 1) + d, ?_⟩
    rw [e2] at hd
    grind

theorem rsa {p q e : Nat} (hp : Pr p) (hq : Pr q) (hpq : p ≠ q) (h1 : (e - 1) % (p - 1) = 0) (h2 : (e - 1) % (q - 1) = 0) (he : 0 < e) (x : Nat) : x ^ e % (p * q) = x % (p * q) := by
  have k : ∀ p, Pr p → (e - 1) % (p - 1) = 0 → (p : Int) ∣ (x : Int) ^ e - x := fun p hp h => by
    have : e = 1 + (e - 1) / (p - 1) * (p - 1) := by rw [Nat.div_mul_cancel (Nat.dvd_of_mod_eq_zero h)]; omega
    rw [this]
    exact fermat_exp hp x _
  have hc : Nat.Coprime p q := hp.cop fun h => by
    rcases hq.2 p h with h | h
    · have := hp.1; omega
    · exact hpq h
  have h3 : (p * q) ∣ ((x : Int) ^ e - x).natAbs := hc.mul_dvd_of_dvd_of_dvd (Int.ofNat_dvd_left.1 (k p hp h1)) (Int.ofNat_dvd_left.1 (k q hq h2))
  have h4 : ((p * q : Nat) : Int) ∣ (x : Int) ^ e - x := Int.ofNat_dvd_left.2 h3
  have h5 := Int.emod_eq_emod_iff_emod_sub_eq_zero.2 (Int.emod_eq_zero_of_dvd h4)
  have h6 : ((x ^ e % (p * q) : Nat) : Int) = ((x % (p * q) : Nat) : Int) := by
    rw [Int.natCast_emod, Int.natCast_emod, Int.natCast_pow]
    exact h5
  exact Int.ofNat.inj h6
end Go.Proofs.YtniaeiikdgbnfaaDoor.NT

/- Primes, part 3: certificates, printed by wip/tools/certs.py. -/
namespace Go.Proofs.YtniaeiikdgbnfaaDoor.NT
set_option maxRecDepth 100000
theorem pr_10753 : Pr 10753 := pr_small (by decide +kernel)
theorem pr_29 : Pr 29 := pr_small (by decide +kernel)
theorem pc2 : Pr 165897283 :=
  pr_cert 2 143630067 91821716 311837 [10753, 29] (by
    intro q h
    simp only [List.mem_cons, List.not_mem_nil, or_false] at h
    rcases h with rfl | rfl
    · exact pr_10753
    · exact pr_29) (by decide +kernel)
theorem pr_683 : Pr 683 := pr_small (by decide +kernel)
theorem pr_271 : Pr 271 := pr_small (by decide +kernel)
theorem pc5 : Pr 28134137 :=
  pr_cert 1 5610137 17697966 185093 [683, 271] (by
    intro q h
    simp only [List.mem_cons, List.not_mem_nil, or_false] at h
    rcases h with rfl | rfl
    · exact pr_683
    · exact pr_271) (by decide +kernel)
theorem pc6 : Pr 1026822915326949619 :=
  pr_cert 2 144496047993392229 11078077694650316 4667376887849771 [165897283, 28134137] (by
    intro q h
    simp only [List.mem_cons, List.not_mem_nil, or_false] at h
    rcases h with rfl | rfl
    · exact pc2
    · exact pc5) (by decide +kernel)
theorem pc7 : Pr 492788963458751584656841493456441951 :=
  pr_cert 7 131001177733329851917665687089357292 310214100155079144999937114334645104 1026822915326949619 [1026822915326949619] (by
    intro q h
    simp only [List.mem_cons, List.not_mem_nil, or_false] at h
    subst h
    · exact pc6) (by decide +kernel)
theorem pr_3032321 : Pr 3032321 := pr_small (by decide +kernel)
theorem pc9 : Pr 54581777 :=
  pr_cert 3 31228229 41617295 3032321 [3032321] (by
    intro q h
    simp only [List.mem_cons, List.not_mem_nil, or_false] at h
    subst h
    · exact pr_3032321) (by decide +kernel)
theorem pr_46687 : Pr 46687 := pr_small (by decide +kernel)
theorem pc11 : Pr 592893326864952133 :=
  pr_cert 2 114827335319928040 227733156510171999 2548259422799 [54581777, 46687] (by
    intro q h
    simp only [List.mem_cons, List.not_mem_nil, or_false] at h
    rcases h with rfl | rfl
    · exact pc9
    · exact pr_46687) (by decide +kernel)
theorem pc12 : Pr 112289642932016304371756649481332778992551393574107444139052838912955283313407 :=
  pr_cert 3 7103579482537400824979290052751854476951617071428579139246715436686012367699 27736059415247342677139661187806691803486678884029938402951189786505450251020 292171287987390555897471562376262227262374034108131483 [492788963458751584656841493456441951, 592893326864952133] (by
    intro q h
    simp only [List.mem_cons, List.not_mem_nil, or_false] at h
    rcases h with rfl | rfl
    · exact pc7
    · exact pc11) (by decide +kernel)
theorem key0p : Pr 112289642932016304371756649481332778992551393574107444139052838912955283313407 := pc12
theorem pr_288929 : Pr 288929 := pr_small (by decide +kernel)
theorem pr_2089 : Pr 2089 := pr_small (by decide +kernel)
theorem pc15 : Pr 1350795660079 :=
  pr_cert 1 625993300832 51485897312 603572681 [288929, 2089] (by
    intro q h
    simp only [List.mem_cons, List.not_mem_nil, or_false] at h
    rcases h with rfl | rfl
    · exact pr_288929
    · exact pr_2089) (by decide +kernel)
theorem pc16 : Pr 227639086104469775539 :=
  pr_cert 1 57701564349034395745 163245615138989192517 1350795660079 [1350795660079] (by
    intro q h
    simp only [List.mem_cons, List.not_mem_nil, or_false] at h
    subst h
    · exact pc15) (by decide +kernel)
theorem pc17 : Pr 225140049697111845219535652857169198257 :=
  pr_cert 5 167087153558347167951605592732652468021 174262118634749250689749075014274331095 227639086104469775539 [227639086104469775539] (by
    intro q h
    simp only [List.mem_cons, List.not_mem_nil, or_false] at h
    subst h
    · exact pc16) (by decide +kernel)
theorem pc18 : Pr 8527554047588345288234343007959966076213958709267751429337969 :=
  pr_cert 1 3646413338655878434630664446864492968971704369151374274174335 3749843957151713742847659727609968045681358839542371351644241 225140049697111845219535652857169198257 [225140049697111845219535652857169198257] (by
    intro q h
    simp only [List.mem_cons, List.not_mem_nil, or_false] at h
    subst h
    · exact pc17) (by decide +kernel)
theorem pc19 : Pr 112278977878014794934387468732230951909665353991314206570858853383570697513071 :=
  pr_cert 13 88355346342570963914593591859319917511222436824788377302453946175640147506800 55989154460052591407236250686672288865006601273387924343926721999073631876028 8527554047588345288234343007959966076213958709267751429337969 [8527554047588345288234343007959966076213958709267751429337969] (by
    intro q h
    simp only [List.mem_cons, List.not_mem_nil, or_false] at h
    subst h
    · exact pc18) (by decide +kernel)
theorem key0q : Pr 112278977878014794934387468732230951909665353991314206570858853383570697513071 := pc19
theorem pr_1444811 : Pr 1444811 := pr_small (by decide +kernel)
theorem pr_6337 : Pr 6337 := pr_small (by decide +kernel)
theorem pc22 : Pr 8353016089689757229 :=
  pr_cert 2 3407786154558354664 174701336128981973 9155767307 [1444811, 6337] (by
    intro q h
    simp only [List.mem_cons, List.not_mem_nil, or_false] at h
    rcases h with rfl | rfl
    · exact pr_1444811
    · exact pr_6337) (by decide +kernel)
theorem pr_2161 : Pr 2161 := pr_small (by decide +kernel)
theorem pr_59 : Pr 59 := pr_small (by decide +kernel)
theorem pc25 : Pr 718074367 :=
  pr_cert 3 137233864 8974276 127499 [2161, 59] (by
    intro q h
    simp only [List.mem_cons, List.not_mem_nil, or_false] at h
    rcases h with rfl | rfl
    · exact pr_2161
    · exact pr_59) (by decide +kernel)
theorem pc26 : Pr 1534847714027339982290181083694253370739322573 :=
  pr_cert 1 559508146932534856999816308117829863781475946 875162832306538616303581377036179311516126804 5998086741144787648597849043 [8353016089689757229, 718074367] (by
    intro q h
    simp only [List.mem_cons, List.not_mem_nil, or_false] at h
    rcases h with rfl | rfl
    · exact pc22
    · exact pc25) (by decide +kernel)
theorem pc27 : Pr 1038515761502732774290605519516383798236899882625902882727409046197281 :=
  pr_cert 1 378113632436490161560453862315220767939951503748251967842031748117601 922385388720762126488124060754664967260377236973444779351039440845744 1534847714027339982290181083694253370739322573 [1534847714027339982290181083694253370739322573] (by
    intro q h
    simp only [List.mem_cons, List.not_mem_nil, or_false] at h
    subst h
    · exact pc26) (by decide +kernel)
theorem pc28 : Pr 95350817846681796337898091958903254439827423116154551737010290600988810741873 :=
  pr_cert 1 66576564515403129683564306478466007366061782235147841812349481741598433660707 77861286828774085792195799900513895081969861583042550420776514820156970721478 1038515761502732774290605519516383798236899882625902882727409046197281 [1038515761502732774290605519516383798236899882625902882727409046197281] (by
    intro q h
    simp only [List.mem_cons, List.not_mem_nil, or_false] at h
    subst h
    · exact pc27) (by decide +kernel)
theorem key1p : Pr 95350817846681796337898091958903254439827423116154551737010290600988810741873 := pc28
theorem pr_859 : Pr 859 := pr_small (by decide +kernel)
theorem pr_89 : Pr 89 := pr_small (by decide +kernel)
theorem pc31 : Pr 94952141 :=
  pr_cert 2 45105246 43965386 76451 [859, 89] (by
    intro q h
    simp only [List.mem_cons, List.not_mem_nil, or_false] at h
    rcases h with rfl | rfl
    · exact pr_859
    · exact pr_89) (by decide +kernel)
theorem pr_732863 : Pr 732863 := pr_small (by decide +kernel)
theorem pc33 : Pr 11725807 :=
  pr_cert 3 2715961 11519649 732863 [732863] (by
    intro q h
    simp only [List.mem_cons, List.not_mem_nil, or_false] at h
    subst h
    · exact pr_732863) (by decide +kernel)
theorem pc34 : Pr 32094593965029938063 :=
  pr_cert 1 10518773054151512804 27961162761453403045 1113390479602787 [94952141, 11725807] (by
    intro q h
    simp only [List.mem_cons, List.not_mem_nil, or_false] at h
    rcases h with rfl | rfl
    · exact pc31
    · exact pc33) (by decide +kernel)
theorem pr_727 : Pr 727 := pr_small (by decide +kernel)
theorem pr_53 : Pr 53 := pr_small (by decide +kernel)
theorem pc37 : Pr 41613479 :=
  pr_cert 13 24823364 34176678 38531 [727, 53] (by
    intro q h
    simp only [List.mem_cons, List.not_mem_nil, or_false] at h
    rcases h with rfl | rfl
    · exact pr_727
    · exact pr_53) (by decide +kernel)
theorem pr_3583 : Pr 3583 := pr_small (by decide +kernel)
theorem pc39 : Pr 60148872837626369 :=
  pr_cert 3 39382816131873866 40102326210612598 149101095257 [41613479, 3583] (by
    intro q h
    simp only [List.mem_cons, List.not_mem_nil, or_false] at h
    rcases h with rfl | rfl
    · exact pc37
    · exact pr_3583) (by decide +kernel)
theorem pc40 : Pr 555692718004874223235636636675437509973495796542267689 :=
  pr_cert 1 379961202501249082334043263195651347581569933590075205 405338217382074974458049092922476496072951759330777321 1930453651177836428176654932005583247 [32094593965029938063, 60148872837626369] (by
    intro q h
    simp only [List.mem_cons, List.not_mem_nil, or_false] at h
    rcases h with rfl | rfl
    · exact pc34
    · exact pc39) (by decide +kernel)
theorem pc41 : Pr 1115418567277847596135734910066379364479151278834512019221647855759721 :=
  pr_cert 7 995654840057338130983614522909178958977808886624555030693175868730344 425091342657201037133820684378762305068071841468795651541081223096610 555692718004874223235636636675437509973495796542267689 [555692718004874223235636636675437509973495796542267689] (by
    intro q h
    simp only [List.mem_cons, List.not_mem_nil, or_false] at h
    subst h
    · exact pc40) (by decide +kernel)
theorem pc42 : Pr 92279200474456872667267992849871381863045564664392769007913652786505232254317 :=
  pr_cert 2 90666009894787443680321897311693370340741465640645348561515457032365748432879 35177543126583850846829037167672604315705238390031119005365663859531695993917 1115418567277847596135734910066379364479151278834512019221647855759721 [1115418567277847596135734910066379364479151278834512019221647855759721] (by
    intro q h
    simp only [List.mem_cons, List.not_mem_nil, or_false] at h
    subst h
    · exact pc41) (by decide +kernel)
theorem key1q : Pr 92279200474456872667267992849871381863045564664392769007913652786505232254317 := pc42
theorem pr_289397 : Pr 289397 := pr_small (by decide +kernel)
theorem pc44 : Pr 60155218009 :=
  pr_cert 1 52065905504 43388261031 289397 [289397] (by
    intro q h
    simp only [List.mem_cons, List.not_mem_nil, or_false] at h
    subst h
    · exact pr_289397) (by decide +kernel)
theorem pc45 : Pr 24594409510423470313 :=
  pr_cert 5 24109582937782154146 16157968334624334621 60155218009 [60155218009] (by
    intro q h
    simp only [List.mem_cons, List.not_mem_nil, or_false] at h
    subst h
    · exact pc44) (by decide +kernel)
theorem pr_828787 : Pr 828787 := pr_small (by decide +kernel)
theorem pr_8677 : Pr 8677 := pr_small (by decide +kernel)
theorem pc48 : Pr 939309916906183 :=
  pr_cert 3 613570519750924 878475335813869 7191384799 [828787, 8677] (by
    intro q h
    simp only [List.mem_cons, List.not_mem_nil, or_false] at h
    rcases h with rfl | rfl
    · exact pr_828787
    · exact pr_8677) (by decide +kernel)
theorem pr_1381 : Pr 1381 := pr_small (by decide +kernel)
theorem pr_67 : Pr 67 := pr_small (by decide +kernel)
theorem pc51 : Pr 39231449 :=
  pr_cert 1 15698650 21502051 92527 [1381, 67] (by
    intro q h
    simp only [List.mem_cons, List.not_mem_nil, or_false] at h
    rcases h with rfl | rfl
    · exact pr_1381
    · exact pr_67) (by decide +kernel)
theorem pr_1003291 : Pr 1003291 := pr_small (by decide +kernel)
theorem pc53 : Pr 275456583988929329404639160091170951246876035025372700105967520475444382950551953407335146513 :=
  pr_cert 1 170815050723920513067782375008092270547079821205043514988822520730118744635867753922977424533 169201898554331686046887588061726245778977680225207742457238592956805712675548320712118432880 909298705612631776800951403665661556496444980861 [24594409510423470313, 939309916906183, 39231449, 1003291] (by
    intro q h
    simp only [List.mem_cons, List.not_mem_nil, or_false] at h
    rcases h with rfl | rfl | rfl | rfl
    · exact pc45
    · exact pc48
    · exact pc51
    · exact pr_1003291) (by decide +kernel)
theorem pc54 : Pr 6680671347182751099543217331186744211243817307718669810088012033787107442759234135595372130229011616028798659664920610347386251708445263137 :=
  pr_cert 3 5941804986902971576685076487438348268951987240319383948804458905597166521188514502565885985241460598382585478019609971456543034969334092184 2723790721037790933019425910837363782552098640009784038789337301158230948863615111748446358322579456643761493148047176383502729893752726114 275456583988929329404639160091170951246876035025372700105967520475444382950551953407335146513 [275456583988929329404639160091170951246876035025372700105967520475444382950551953407335146513] (by
    intro q h
    simp only [List.mem_cons, List.not_mem_nil, or_false] at h
    subst h
    · exact pc53) (by decide +kernel)
theorem pc55 : Pr 66806713471827510995432173311867442112438173077186698100880120337871074427592341355953721302290116160287986596649206103473862517084452631369 :=
  pr_cert 7 35828897756634454786480456921657792948505444346107426398203463518854039192224919431635535281281244425491165443836967447730850103236446116820 59728946622668977597331957539525380854843268977075568256495809614362198623510763279037361161797834220343560613326650122447640444823207595133 6680671347182751099543217331186744211243817307718669810088012033787107442759234135595372130229011616028798659664920610347386251708445263137 [6680671347182751099543217331186744211243817307718669810088012033787107442759234135595372130229011616028798659664920610347386251708445263137] (by
    intro q h
    simp only [List.mem_cons, List.not_mem_nil, or_false] at h
    subst h
    · exact pc54) (by decide +kernel)
theorem pc56 : Pr 12329477222992863067035609111604184371805710698277106172196551772303302632927049457756976661843525144868265139576196260095675556062881725217631014058728183 :=
  pr_cert 3 8529708345183094467877569013384394968115981232916083373763677818564578677933445626327313602758592090405973012535283627520745839452044793812585216423411623 7892599258490464866810744908546452780648784501145905972928062978459392119155397784778196866597249421798517622683938457351251267064031458384668977219369322 66806713471827510995432173311867442112438173077186698100880120337871074427592341355953721302290116160287986596649206103473862517084452631369 [66806713471827510995432173311867442112438173077186698100880120337871074427592341355953721302290116160287986596649206103473862517084452631369] (by
    intro q h
    simp only [List.mem_cons, List.not_mem_nil, or_false] at h
    subst h
    · exact pc55) (by decide +kernel)
theorem key2p : Pr 12329477222992863067035609111604184371805710698277106172196551772303302632927049457756976661843525144868265139576196260095675556062881725217631014058728183 := pc56
end Go.Proofs.YtniaeiikdgbnfaaDoor.NT

/- Primes, part 4: divisors in a class of remainders: a short polynomial that all of them make 0 (Coppersmith's way). Plain: no program in sight. -/
namespace Go.Proofs.YtniaeiikdgbnfaaDoor.NT
set_option linter.unusedSimpArgs false
set_option linter.unusedVariables false

def evp : List Int → Int → Int
  | [], _ => 0
  | c :: r, x => c + x * evp r x
def addP : List Int → List Int → List Int
  | [], q => q
  | p, [] => p
  | a :: p, b :: q => (a + b) :: addP p q
def linP (u : Int) (p : List Int) : List Int := addP (p.map (u * ·)) (0 :: p)
def hb (n u : Int) (B : List Int) : List Int → List Int
  | [] => B
  | a :: as => addP [a * n ^ (as.length + 1)] (linP u (hb n u B as))
def bdP : List Int → Nat → Nat
  | [], _ => 0
  | c :: r, X => c.natAbs + X * bdP r X

theorem ev_add : ∀ (p q : List Int) (x : Int), evp (addP p q) x = evp p x + evp q x
  | [], q, x => by simp [addP, evp]
  | a :: p, [], x => by simp [addP, evp]
  | a :: p, b :: q, x => by simp only [addP, evp, ev_add p q x]; grind
theorem ev_scale (u : Int) (x : Int) : ∀ p : List Int, evp (p.map (u * ·)) x = u * evp p x
  | [] => by simp [evp]
  | a :: p => by simp only [List.map_cons, evp, ev_scale u x p]; grind
theorem ev_lin (u : Int) (p : List Int) (x : Int) : evp (linP u p) x = (x + u) * evp p x := by
  unfold linP
  rw [ev_add, ev_scale]
  simp only [evp]
  grind
theorem hb_dvd {r n u : Int} {m : Int} (h1 : r ∣ n) (h2 : r ∣ m + u) (B : List Int) : ∀ as : List Int, r ^ as.length ∣ evp (hb n u B as) m
  | [] => by simp
  | a :: as => by
    simp only [hb, List.length_cons]
    rw [ev_add, ev_lin]
    refine Int.dvd_add ?_ ?_
    · simp only [evp, Int.mul_zero, Int.add_zero]
      obtain ⟨c, hc⟩ := h1
      exact ⟨a * c ^ (as.length + 1), by rw [hc, Int.mul_pow]; grind⟩
    · rw [Int.pow_succ, Int.mul_comm (r ^ as.length)]
      exact Int.mul_dvd_mul h2 (hb_dvd h1 h2 B as)
theorem bd_le {X : Nat} : ∀ (p : List Int) (m : Nat), m ≤ X → (evp p m).natAbs ≤ bdP p X
  | [], m, _ => by simp [evp, bdP]
  | c :: p, m, h => by
    have ih := bd_le p m h
    simp only [evp, bdP]
    have h1 := Int.natAbs_add_le c ((m : Int) * evp p m)
    rw [Int.natAbs_mul, Int.natAbs_natCast] at h1
    have h2 : m * (evp p m).natAbs ≤ X * bdP p X := Nat.mul_le_mul h ih
    omega
theorem ev_mod (l : Int) (x y : Int) (h : l ∣ x - y) : ∀ p : List Int, l ∣ evp p x - evp p y
  | [] => by simp [evp]
  | c :: p => by
    obtain ⟨d, hd⟩ := ev_mod l x y h p
    obtain ⟨e, he⟩ := h
    simp only [evp]
    exact ⟨e * evp p x + y * d, by grind⟩

def okR (n S R u lo hi : Nat) (as B : List Int) (l : Nat) : Bool :=
  (S * u) % n == R % n && Nat.gcd S n == 1 && Nat.blt (bdP (hb n u B as) ((hi - R) / S)) (lo ^ as.length) && Nat.blt 0 l &&
    (List.range l).all fun y => evp (hb n u B as) y % l != 0

theorem no_div {n S R u lo hi l : Nat} {as B : List Int} (h : okR n S R u lo hi as B l = true) (r : Nat) (hr : Pr r) (hrn : r ∣ n) (hc : r % S = R) (h1 : lo ≤ r) (h2 : r < hi) : False := by
  unfold okR at h
  simp only [Bool.and_eq_true, beq_iff_eq, Nat.blt_eq] at h
  obtain ⟨⟨⟨⟨e1, e2⟩, e3⟩, e4⟩, e5⟩ := h
  obtain ⟨m, hm⟩ : ∃ m, r = R + S * m := ⟨r / S, by rw [← hc, Nat.add_comm]; exact (Nat.div_add_mod r S).symm⟩
  have hS : 0 < S := by
    rcases Nat.eq_zero_or_pos S with h | h
    · subst h
      simp at hm
      subst hm
      rw [Nat.gcd_zero_left] at e2
      subst e2
      have := Nat.le_of_dvd (by decide) hrn
      have := hr.1
      omega
    · exact h
  have hmX : m ≤ (hi - R) / S := by
    rw [Nat.le_div_iff_mul_le hS, Nat.mul_comm]
    omega
  have d1 : (r : Int) ∣ (n : Int) := Int.natCast_dvd_natCast.2 hrn
  have d2 : (r : Int) ∣ (m : Int) + u := by
    have a1 : ((S * u : Nat) : Int) % (n : Int) = ((R : Nat) : Int) % (n : Int) := by rw [← Int.natCast_emod, ← Int.natCast_emod, e1]
    have a2 : (n : Int) ∣ ((S * u : Nat) : Int) - (R : Int) := Int.dvd_of_emod_eq_zero (Int.emod_eq_emod_iff_emod_sub_eq_zero.1 a1)
    obtain ⟨c, hcc⟩ := Int.dvd_trans d1 a2
    have a3 : (r : Int) ∣ (S : Int) * ((m : Int) + u) := by
      refine ⟨1 + c, ?_⟩
      have hm' : (r : Int) = R + S * m := by rw [hm]; push_cast; rfl
      push_cast at hcc
      grind
    rcases hr.mulI a3 with h | h
    · have h3 := Nat.dvd_gcd (Int.natCast_dvd_natCast.1 h) hrn
      rw [e2] at h3
      have := Nat.le_of_dvd (by decide) h3
      have := hr.1
      omega
    · exact h
  have d3 := hb_dvd d1 d2 B as
  have d4 : r ^ as.length ∣ (evp (hb n u B as) m).natAbs := by
    have : ((r ^ as.length : Nat) : Int) ∣ evp (hb n u B as) m := by rw [Int.natCast_pow]; exact d3
    exact Int.ofNat_dvd_left.1 this
  have d5 : (evp (hb n u B as) m).natAbs < r ^ as.length :=
    Nat.lt_of_le_of_lt (bd_le _ m hmX) (Nat.lt_of_lt_of_le e3 (Nat.pow_le_pow_left h1 _))
  have d6 : evp (hb n u B as) m = 0 := by
    rcases Nat.eq_zero_or_pos (evp (hb n u B as) m).natAbs with h | h
    · exact Int.natAbs_eq_zero.1 h
    · have := Nat.le_of_dvd h d4
      omega
  have d7 : ((l : Nat) : Int) ∣ (m : Int) - ((m % l : Nat) : Int) := by
    have := Nat.div_add_mod m l
    refine ⟨((m / l : Nat) : Int), ?_⟩
    have h : ((l * (m / l) + m % l : Nat) : Int) = m := by rw [this]
    rw [Int.natCast_add, Int.natCast_mul] at h
    omega
  have d8 := ev_mod l m ((m % l : Nat) : Int) d7 (hb n u B as)
  rw [d6] at d8
  have d9 := List.all_eq_true.1 e5 (m % l) (List.mem_range.2 (Nat.mod_lt _ e4))
  simp only [bne_iff_ne, ne_eq] at d9
  refine d9 (Int.emod_eq_zero_of_dvd ?_)
  obtain ⟨c, hcc⟩ := d8
  exact ⟨-c, by rw [Int.mul_neg, ← hcc]; omega⟩

/-- The remainders that a prime divisor may have. -/
def okO (n D a b s : Nat) (qs : List Nat) : Bool :=
  n % 2 == 1 && a * a % n == (D * (b * b) + 1) % n && Nat.gcd D n == 1 && s == pl qs && Nat.blt 1 s && Nat.blt s (2 ^ 600) && pn n D 600 a b s 1 0 == (1, 0) &&
    qs.all fun q => Nat.gcd (pn n D 600 a b (s / q) 1 0).2 n == 1 || Nat.gcd ((pn n D 600 a b (s / q) 1 0).1 + n - 1) n == 1

theorem frob1 {r : Nat} (hr : Pr r) (hodd : r % 2 = 1) (a b : Nat) : cq r (pq 1 ((a : Int), (b : Int)) r) ((a : Int), (b : Int)) := by
  obtain ⟨k, hk⟩ : ∃ k, r = 2 * k + 1 := ⟨r / 2, by omega⟩
  have h1 := frob hr 1 ((a : Int), 0) (0, (b : Int))
  have e : aq ((a : Int), 0) (0, (b : Int)) = ((a : Int), (b : Int)) := by apply Prod.ext <;> simp [aq]
  rw [e] at h1
  have h2 : pq 1 (0, (b : Int)) r = (0, (b : Int) ^ r) := by
    have := pq_right 1 (b : Int) k
    rw [Int.one_pow, Int.mul_one, ← hk] at this
    exact this
  rw [h2, pq_left] at h1
  obtain ⟨ca, hca⟩ := fermat hr a
  obtain ⟨cb, hcb⟩ := fermat hr b
  obtain ⟨u, hu⟩ := h1.1
  obtain ⟨v, hv⟩ := h1.2
  simp only [aq] at hu hv
  generalize pq 1 ((a : Int), (b : Int)) r = Z at hu hv ⊢
  exact ⟨⟨u + ca, by simp only; grind⟩, ⟨v + cb, by simp only; grind⟩⟩

theorem ord_cert {n D a b s : Nat} {qs : List Nat} (hq : ∀ q ∈ qs, Pr q) (h : okO n D a b s qs = true) (r : Nat) (hr : Pr r) (hrn : r ∣ n) : (s ∣ r - 1 ∨ s ∣ r + 1) ∧ (D = 1 → s ∣ r - 1) := by
  unfold okO at h
  simp only [Bool.and_eq_true, beq_iff_eq, Nat.blt_eq] at h
  obtain ⟨⟨⟨⟨⟨⟨⟨h1, h2⟩, h3⟩, h4⟩, h5⟩, h5'⟩, h7⟩, h8⟩ := h
  have hs : cq n (pq D ((a : Int), (b : Int)) s) (1, 0) := by
    have := pn_eq n D 600 a b s 1 0 h5'
    rw [h7] at this
    have e : mq D (((1 : Nat) : Int), ((0 : Nat) : Int)) (pq D ((a : Int), (b : Int)) s) = pq D ((a : Int), (b : Int)) s := one_mq _ _
    rw [e] at this
    exact this.symm
  have hn0 : 0 < n := by omega
  have hu : ∀ r q, Pr r → r ∣ n → Pr q → q ∣ s → ¬ cq r (pq D ((a : Int), (b : Int)) (s / q)) (1, 0) := fun r q hr hrn hqp hqs => by
    rw [h4] at hqs
    have hm := pl_mem hqp qs hq hqs
    have h9 := List.all_eq_true.1 h8 q hm
    simp only [Bool.or_eq_true, beq_iff_eq] at h9
    intro hc
    have hlt : s / q < 2 ^ 600 := Nat.lt_of_le_of_lt (Nat.div_le_self _ _) h5'
    have hp := (pn_eq n D 600 a b (s / q) 1 0 hlt).of_dvd hrn
    have e : mq D (((1 : Nat) : Int), ((0 : Nat) : Int)) (pq D ((a : Int), (b : Int)) (s / q)) = pq D ((a : Int), (b : Int)) (s / q) := one_mq _ _
    rw [e] at hp
    obtain ⟨k1, k2⟩ := hp.trans hc
    have hr1 := hr.1
    rcases h9 with h9 | h9
    · have : r ∣ (pn n D 600 a b (s / q) 1 0).2 := by
        have : (r : Int) ∣ ((pn n D 600 a b (s / q) 1 0).2 : Int) := by simpa using k2
        exact Int.natCast_dvd_natCast.1 this
      have := Nat.dvd_gcd this hrn
      rw [h9] at this
      have := Nat.le_of_dvd (by decide) this
      omega
    · have : r ∣ (pn n D 600 a b (s / q) 1 0).1 + n - 1 := by
        have h10 : (r : Int) ∣ (((pn n D 600 a b (s / q) 1 0).1 : Int) - 1) + n := Int.dvd_add k1 (Int.natCast_dvd_natCast.2 hrn)
        have h11 : (((pn n D 600 a b (s / q) 1 0).1 + n - 1 : Nat) : Int) = (((pn n D 600 a b (s / q) 1 0).1 : Int) - 1) + n := by omega
        rw [← h11] at h10
        exact Int.natCast_dvd_natCast.1 h10
      have := Nat.dvd_gcd this hrn
      rw [h9] at this
      have := Nat.le_of_dvd (by decide) this
      omega
  refine ⟨lucas (by omega) h1 h2 h3 hs hu r hr hrn, fun hD => ?_⟩
  subst hD
  have hro : r % 2 = 1 := by
    obtain ⟨c, hc⟩ := hrn
    rcases Nat.mod_two_eq_zero_or_one r with h | h
    · rw [hc, Nat.mul_mod, h] at h1; simp at h1
    · exact h
  have hN : cq r (mq 1 ((a : Int), (b : Int)) (cj ((a : Int), (b : Int)))) (1, 0) := by
    have h1 : ((a * a : Nat) : Int) % (n : Int) = ((1 * (b * b) + 1 : Nat) : Int) % (n : Int) := by rw [← Int.natCast_emod, ← Int.natCast_emod, h2]
    have h2 : (n : Int) ∣ ((a * a : Nat) : Int) - ((1 * (b * b) + 1 : Nat) : Int) := Int.dvd_of_emod_eq_zero (Int.emod_eq_emod_iff_emod_sub_eq_zero.1 h1)
    obtain ⟨c, hc⟩ := Int.dvd_trans (Int.natCast_dvd_natCast.2 hrn) h2
    push_cast at hc
    refine ⟨⟨c, ?_⟩, ⟨0, ?_⟩⟩ <;> simp only [mq, cj] <;> grind
  refine ord (by omega) (hs.of_dvd hrn) ?_ (fun q => hu r q hr hrn)
  obtain ⟨m, hm⟩ : ∃ m, r = m + 1 := ⟨r - 1, by have := hr.1; omega⟩
  have h := frob1 hr hro a b
  have h1 := h.mul (D := 1) (cq.refl r (cj ((a : Int), (b : Int))))
  have e : pq 1 ((a : Int), (b : Int)) r = mq 1 (pq 1 ((a : Int), (b : Int)) (r - 1)) ((a : Int), (b : Int)) := by rw [hm]; rfl
  rw [e, mq_assoc] at h1
  have h2 := (cq.refl r (pq 1 ((a : Int), (b : Int)) (r - 1))).mul (D := 1) hN
  rw [mq_one] at h2
  exact h2.symm.trans (h1.trans hN)

theorem cls_key {m1 s2 r R : Nat} (hc : Nat.Coprime m1 s2) (hR : R < m1 * s2) (a : (m1 : Int) ∣ (r : Int) - R) (b : (s2 : Int) ∣ (r : Int) - R) : r % (m1 * s2) = R := by
  have c : m1 * s2 ∣ ((r : Int) - R).natAbs := hc.mul_dvd_of_dvd_of_dvd (Int.ofNat_dvd_left.1 a) (Int.ofNat_dvd_left.1 b)
  have d : ((m1 * s2 : Nat) : Int) ∣ (r : Int) - R := Int.ofNat_dvd_left.2 c
  have e := Int.emod_eq_emod_iff_emod_sub_eq_zero.2 (Int.emod_eq_zero_of_dvd d)
  rw [← Int.natCast_emod, ← Int.natCast_emod] at e
  have f := Int.ofNat.inj e
  rw [f, Nat.mod_eq_of_lt hR]
theorem cls_gen {m1 s2 S R r : Nat} (hS : S = m1 * s2) (hc : Nat.Coprime m1 s2) (hr1 : 1 < r) (g1 : m1 ∣ r - 1) (g2 : s2 ∣ r - 1 ∨ s2 ∣ r + 1) (h1R : 1 ≤ R) (hRm : (R - 1) % m1 = 0) (hRs : (R + 1) % s2 = 0) (hR : R < S) (h1S : 1 < S) :
    r % S = 1 ∨ r % S = R := by
  subst hS
  have nat_sub : ∀ {m x : Nat}, 1 ≤ x → m ∣ x - 1 → (m : Int) ∣ (x : Int) - 1 := fun {m x} h h2 => by
    obtain ⟨c, hc⟩ := h2
    have : ((x - 1 : Nat) : Int) = ((m * c : Nat) : Int) := by rw [hc]
    rw [Int.natCast_mul] at this
    exact ⟨c, by omega⟩
  have nat_add : ∀ {m x : Nat}, m ∣ x + 1 → (m : Int) ∣ (x : Int) + 1 := fun {m x} h2 => by
    obtain ⟨c, hc⟩ := h2
    have : ((x + 1 : Nat) : Int) = ((m * c : Nat) : Int) := by rw [hc]
    rw [Int.natCast_mul] at this
    exact ⟨c, by omega⟩
  have a1 := nat_sub (show 1 ≤ r by omega) g1
  have a2 := nat_sub h1R (Nat.dvd_of_mod_eq_zero hRm)
  have a3 := nat_add (Nat.dvd_of_mod_eq_zero hRs)
  rcases g2 with h | h
  · left
    refine cls_key hc h1S ?_ ?_
    · exact a1
    · exact nat_sub (show 1 ≤ r by omega) h
  · right
    have b1 := nat_add h
    refine cls_key hc hR ?_ ?_
    · have := Int.dvd_sub a1 a2
      have e : (r : Int) - 1 - ((R : Int) - 1) = (r : Int) - R := by omega
      rwa [e] at this
    · have := Int.dvd_sub b1 a3
      have e : (r : Int) + 1 - ((R : Int) + 1) = (r : Int) - R := by omega
      rwa [e] at this
theorem small {r S R : Nat} (h : r % S = R) (hlt : r < S) : r = R := by rw [← h, Nat.mod_eq_of_lt hlt]
theorem no_one {r S : Nat} (h1 : 1 < r) (h : r % S = 1) (hlt : r < S) : False := by
  have := small h hlt
  omega
theorem no_res {r S R n : Nat} (h : r % S = R) (hlt : r < S) (hd : r ∣ n) (hn : (n % R == 0) = false) : False := by
  have := small h hlt
  subst this
  rw [Nat.mod_eq_zero_of_dvd hd] at hn
  simp at hn
theorem above {r hi n : Nat} (h : hi ≤ r) (h2 : Nat.blt n (hi * hi) = true) : n < r * r :=
  Nat.lt_of_lt_of_le (by rwa [Nat.blt_eq] at h2) (Nat.mul_le_mul h h)
end Go.Proofs.YtniaeiikdgbnfaaDoor.NT

/- Primes, part 5: the second prime of the key 2, and what the keys' exponents undo; printed by wip/tools/mkp5.py. -/
namespace Go.Proofs.YtniaeiikdgbnfaaDoor.NT
set_option maxRecDepth 100000
set_option linter.unusedSimpArgs false
theorem prq_2 : Pr 2 := pr_small (by decide +kernel)
theorem prq_3 : Pr 3 := pr_small (by decide +kernel)
theorem prq_53 : Pr 53 := pr_small (by decide +kernel)
theorem prq_59 : Pr 59 := pr_small (by decide +kernel)
theorem prq_103 : Pr 103 := pr_small (by decide +kernel)
theorem prq_110609 : Pr 110609 := pr_small (by decide +kernel)
theorem prq_1061 : Pr 1061 := pr_small (by decide +kernel)
theorem prq_439 : Pr 439 := pr_small (by decide +kernel)
theorem prq_37262321 : Pr 37262321 :=
  pr_cert 1 5442042 2147232 465779 [1061, 439] (by
    intro q h
    simp only [List.mem_cons, List.not_mem_nil, or_false] at h
    rcases h with rfl | rfl
    · exact prq_1061
    · exact prq_439) (by decide +kernel)
theorem prq_2137 : Pr 2137 := pr_small (by decide +kernel)
theorem prq_19 : Pr 19 := pr_small (by decide +kernel)
theorem prq_28990541 : Pr 28990541 :=
  pr_cert 2 13240664 848009 40603 [2137, 19] (by
    intro q h
    simp only [List.mem_cons, List.not_mem_nil, or_false] at h
    rcases h with rfl | rfl
    · exact prq_2137
    · exact prq_19) (by decide +kernel)
theorem prq_2468834471561 : Pr 2468834471561 :=
  pr_cert 1 1027565966506 1794348415612 28990541 [28990541] (by
    intro q h
    simp only [List.mem_cons, List.not_mem_nil, or_false] at h
    subst h
    · exact prq_28990541) (by decide +kernel)
theorem l1 : ∀ q ∈ [2, 3, 3, 53, 59, 103, 2468834471561, 110609, 37262321], Pr q := by
  intro q h
  simp only [List.mem_cons, List.not_mem_nil, or_false] at h
  rcases h with rfl | rfl | rfl | rfl | rfl | rfl | rfl | rfl | rfl
  · exact prq_2
  · exact prq_3
  · exact prq_3
  · exact prq_53
  · exact prq_59
  · exact prq_103
  · exact prq_2468834471561
  · exact prq_110609
  · exact prq_37262321
theorem prq_5 : Pr 5 := pr_small (by decide +kernel)
theorem prq_61 : Pr 61 := pr_small (by decide +kernel)
theorem prq_97 : Pr 97 := pr_small (by decide +kernel)
theorem prq_5711 : Pr 5711 := pr_small (by decide +kernel)
theorem prq_3671 : Pr 3671 := pr_small (by decide +kernel)
theorem prq_12114299 : Pr 12114299 :=
  pr_cert 2 5675537 3642688 3671 [3671] (by
    intro q h
    simp only [List.mem_cons, List.not_mem_nil, or_false] at h
    subst h
    · exact prq_3671) (by decide +kernel)
theorem l2 : ∀ q ∈ [2, 2, 5, 5, 61, 97, 5711, 12114299], Pr q := by
  intro q h
  simp only [List.mem_cons, List.not_mem_nil, or_false] at h
  rcases h with rfl | rfl | rfl | rfl | rfl | rfl | rfl | rfl
  · exact prq_2
  · exact prq_2
  · exact prq_5
  · exact prq_5
  · exact prq_61
  · exact prq_97
  · exact prq_5711
  · exact prq_12114299
def N2 : Nat := 10381621340989602630438101892975909089594587423182068202124588783094168422741567990413141241492069066522569929192747298242483237121291479479353985992550099
def S2 : Nat := 1207457837395070234210530110789923014603372203300
theorem o1 (r : Nat) (hr : Pr r) (hrn : r ∣ N2) : 58991569707479716539164264051682 ∣ r - 1 :=
  (ord_cert (n := N2) (D := 1) (a := 2712556559981219980050095539936200541640655948437884638465189088745498781199133633001470632498703992038600948461907931094998592486841406951022506139487402) (b := 8896302394538980792106933946813382568914415207538571717812904194185939917704718374477289741101818212467831503704921758784507698626461328003493786791924191) (s := 58991569707479716539164264051682) (qs := [2, 3, 3, 53, 59, 103, 2468834471561, 110609, 37262321]) l1 (by decide +kernel) r hr hrn).2 rfl
theorem o2 (r : Nat) (hr : Pr r) (hrn : r ∣ N2) : 40936623432211300 ∣ r - 1 ∨ 40936623432211300 ∣ r + 1 :=
  (ord_cert (n := N2) (D := 2) (a := 2986928499924044268037246692530629537116459394972939958097709830763930538158537843421210391561366912518406290629909712273119538000276845294873661938189314) (b := 2354551908111833047319636960267255564946876525823030043027291221297085434377956226490458668938777595909707564998892523712191421325524771102542704896504704) (s := 40936623432211300) (qs := [2, 2, 5, 5, 61, 97, 5711, 12114299]) l2 (by decide +kernel) r hr hrn).1
theorem cls (r : Nat) (hr : Pr r) (hrn : r ∣ N2) : r % S2 = 1 ∨ r % S2 = 303190598866727134599024147957526248352962861499 :=
  cls_gen (m1 := 29495784853739858269582132025841) (s2 := 40936623432211300) (S := S2) (R := 303190598866727134599024147957526248352962861499) (by decide +kernel) (by decide +kernel) hr.1 (Nat.dvd_trans ⟨2, (by decide +kernel : 58991569707479716539164264051682 = 29495784853739858269582132025841 * 2)⟩ (o1 r hr hrn)) (o2 r hr hrn) (by decide +kernel) (by decide +kernel) (by decide +kernel) (by decide +kernel) (by decide +kernel)
theorem ndp0 (r : Nat) (hr : Pr r) (hrn : r ∣ N2) (hc : r % S2 = 1) (h1 : S2 ≤ r) (h2 : r < 200867255532373784442745261542645325315275374222849104412672) : False :=
  no_div (n := N2) (S := S2) (R := 1) (u := 7774813969253308660134189811217349693036258259200718654442945511938396376909685526321723077739604375808132952635960694666097377406564867066191616555589451) (lo := S2) (hi := 200867255532373784442745261542645325315275374222849104412672) (l := 2) (as := [-2409854214952827297297085356519967211830747470491785091176452796340479641083982995025982740329961332023558913371947276314756041495945404192451757168910696324885154451603958909735939841274367526970553476604386624581724347784044861425137657192988418991936547948793436749163698680852770380037784889581548220314454619855056794176839257445021160680983767531644186429241565003771634137597850210630787952989118683437858240847370604105668386102570135580800480217534335537871103892623637343885772945854643774942717020422217618803478075165038127363278092838393496158108024869749529046600659208919312304123582341435063833137788795446019817537609437907639145980286039397037910219605429887411804900480401394973198542780301582514102477039209470867779281347304380847527279446706038030534773823091746979459526449030274244201559226831435397165259396111339765746707668136612058901069063782132276832909906364981882830314238743330229318092260167145242758399328062983287181751588015786208790487001780792315491233358983984641742763074523632916179145965733938022933194014660120220191708303667523670798552527565641279697277894897, 32178511338748801738449005491670267171831400090855298380694084885584563403781254064220657866868058774589321319773648542647323077180177898578973397665803316123627312478574877234297854058603401426617762863264690878562718147383598933505392808909150684244640305927836627716728644896849199061480024075021669021776952191785039037113209755399526229172501089426956688538039624055419720461525440802545465584716350716003460039615611414334380440741062957996251657379842333880725436073684821459297574969396356802950320490210040244579803169898174218154773145223832422001419941508934304960596538249151221319336846105387093718574514358953258803359342351087220677455952731811130605371179710666182367952146083853500405409637856649746926566926565184691191830655570129715589789577484109361808704947058427739558689567288322885765158729247689339857719229276484352420763745171285373675027710262319275288193564344775211456806544637096488315454268264226545269032517708478538724746834909094134934580237947070655289399939607110347283610387010621110444575499642629394936059161280693992361711937989147358613065222971948724707287997816, -193354213503414928005319476815123735836216814220600734588476026385283131316565064156585616149401712036945350282223798850299756070563586200630504075368380432852819300707916614903928113964993168954597260061231736370142547133972020178663614328831808811141840806257178748863484205957488165799977405079152231156060757181972933146386963556070841934624903081242525650529542878571416429979391609074732629543781472401334265396043608556369735481256338661844784861147912001595193611279287278250905881936616222941613443066332201083347039379271053568661916711747311756558846315540603155514642639266344519358105057182566624529705948598475951165974507162641529370414179633332867560227839085800366343812855359598926563239374873868736779207791319906046490596678513068419118896613066097410064058985682671016785170156597839255185841647627936266385069302248832274392065922252118455772205359445498812032602216548591917843417818668280814357619039208121406854273718070929081724376693421212554255089415018338542696182672952740885316790830127311138266029061318686604079824628968568290472517057562355119515622425339109389643670920670]) (B := [206546959164873337783426672294768453216949630651435217228852001408456160387164519457184641947583055893541649095893671342770545859643145588380611885959799350681941844772632143244994589921358852233605340360103736637567661686185505695654277448529094324596971912977682534074893212347004842928791652736655649502612965169434827882434760829230432307247953325897322151049867626337054004317402460055537282832036258175898779914871291984466221040588110039833423142765017688783327641607781034051305579360681216678106645911193780212568585351254151333184216452132819371882980939587188210676116797175022654275910464729990094361509866376747600039414649024761351529424233268744364827144375516008701271863441169951589737446764877981938399476932118334081465285692135279362540725032145541124408971978118835215484682218963822826887382026611150518792943620992250310416123233749595479725406732464315413409580010294786680021520314834614958793098030673180892326432942732406942556180063133118522834649330423377897049046739180626952162703319951911157317692196531713868071645509294964754836965944936257077446550029834048384123058844512, -20662569617912177241051817215872793533927183115133014374615399423421899333302106163415264970322744598413512644214653080584893883057321158012524327186601098510066423415538792410601242935075456725564971710195429358727042675671445152797221379433083914617473011411253860119175365531309178046462066369439996151614025224849129798927699045000580513501871420238803185101421614350408403558684603148110388518413770555957834373490116404301887726458626581315962068998581219419931453104432873743339943485407265668023747637216034513931286339475782051438288378949356734935763202943892327141220237848508695358902581726668363951067475373753477506105987083453469878701042078394239043136130071971568106728389956351649478895888290955947586622000413243766174554819821214327257442214465093935897165334301924315007439139556192844591629811896853307944320733178578615460149797519369467136123087484858076418283722807615196135393596215176522271291708414582623340835446558032043866, 1993221609509771234441922049814528227022486630023303273101176818340340983359868494523029600301334142982780585219688303918037275065605199549948003270740495976052475545180846827766092882582215092646025065737905801532448741141355474825240725239640127406622118486086939430042608048191024774799597691039528159608104556589473041205511151724681587630997797527070440021580518781024365918259097582458562403033453035773141617529637379732520572811149292647138124386669321640271029535816532555997396473201557651647971446600611731541141302161272884017071048432122038546093625070532851591124617564739165681408822822148662554293928749756959262944210819562668369100766823057839146567150220023420554643314921485498438964960140776308657792207648339580893716215532512584564482591218559357542038524642727559250959091731, -183120744330187838377630701574575558454230877344971848123428992327362180972977562889336774182662669712068449324781400602486772082185212725140601701346468069900536688366316601542532195184044305853508430351156194286290481141038178576616701637355340329939864484352361270206447216738454089638877192374433606311522103643383735074288080135699376572189077223672585792350335979749051045027460717287244051973715407769006696118136775605304791857408821400716295020741722435369594234911037221692692582293025047698990981514762940461988622612688611069220440431508788339126924149769257715874969191401240810654930151093485356553443829816396517264632321942233323, 15702047239060796238788680099225959564753379582890875829779390100893558883342499997288030557336330081990920584560207153394330118132440051952698881361979729912053548849280603085381073973309327258654379360983344679381641503164437223283191095534498424920805566003881495602229785427703175570881185853276075092971829346475047246598469574774491817744889378124717642853598827074295371047749636126522536368220002613425247558567403327843044314851056142392846458403649569127058515435641625473503197940, -1211762542575830960980325056520285583432055371250209128621164867001132627585269931575427291466234703777904323188009890282632455425453030893959557126644980337555669831974554313948505015994285739609357398618467948358676138352614696991254808023651198215921508574511241005578158191737999103434453838781086821824159365366050257648509951359841, 77928716196164392342457421077541787289355732331182886592257292610962186909942275341285967025906006875279629555040126355618482097178596606890357493992487324858506250469350857780095560, -3341075276499451654698268598]) (by decide +kernel) r hr hrn hc h1 h2
theorem ndp1 (r : Nat) (hr : Pr r) (hrn : r ∣ N2) (hc : r % S2 = 1) (h1 : 200867255532373784442745261542645325315275374222849104412672 ≤ r) (h2 : r < 13479973333575319897333507543509815336818572211270286240551805124608) : False :=
  no_div (n := N2) (S := S2) (R := 1) (u := 7774813969253308660134189811217349693036258259200718654442945511938396376909685526321723077739604375808132952635960694666097377406564867066191616555589451) (lo := 200867255532373784442745261542645325315275374222849104412672) (hi := 13479973333575319897333507543509815336818572211270286240551805124608) (l := 7) (as := [39726233038943671015062753513274162861544588913372000505297645920990810698570039170901699224719788497248553040532268627180768582049526668685521129825470960224882303528270110321187285757915472407971142243682247849068250805292010034665089031092934821365419866668848176314432356366546790231006162360828108112498696871543697577729963642950074726889539734763332473585245241672960803172257010981909416012407520351913067725479504764551308139879561813389926140564586934736824753614405278988347172024314130045804398498663517221309889529236324650259871443069481769643712483033576836225956259370662860251228993529196940559226114305472653434092231805724230906206509157915207632633900236600571918329058119477881599539259293482296764908525540464735433092314513541578951254463232265016358536543458418841941875722256329317126859611086322849983192978888180069657081755051254963721954162712885966514123367509055703398257997006973834685983381574184841836309653219339468789971890587151896406231952560537212223500540021417828107569873061467563538623414291936493421414934483666927355143075104883304892963767261177762627096, -583505896578019494185093560467553964287697886624123447990914803087877533619074854179647553885124264070632239310332673515219663696472740181900477571219518858012988554923845025431128034279221978253502351876778648095395707644191477363661249621080527682656556686522997824088920347272500143899694032100397514209933180494141243664600087351947441071620010469663412911526569690127889897045459552704991797163066652231746931860941774604902085617506039129668699950594110123682237567568503072591953275888364288573940316606737904965981523282760035042279621536675136805169236163667237170618586632597905111310616461755571369509167661700524321362331823221764416748460328000128730756468862592580988937092157815317219173017237091629696304697317108570060688156667906055767629875482363246691393499207800458372793300720632472622078661082392525842521147051217982084746482810903426860113610177717889668896409518072007841625264328495345782444177569125346483522365774616631139903372101161294386316591601519895470828659513313070575914685580913852047349345716262490005538483134209750812671989130278986782336892561522023065185944, 3895744189162523984849611915334194379841316240199368172146034735256205342848706544888902124328961065674727346647537056912609147999151835857109021212010277585254314697178132969711520713645293659592256341174350266112929238654766302959237420857208391289725199196534807909908946695418267338857453816443848034533765086036827486756503939208386165622412529771229129344067468429196521668544581630674658197487436952340690679294582410896547309837111170103716439155351604755988969872372070536437151394414105371223963220185346061610490030734942744298182069819783366921978248464097568521465793020956450730461391903695022479501859852481741412511060831121010077486000462067667360985001816489611443032654174155551271300206594721580653658067513799843351161887709917352437504691652404787518418577140355071832878624925922192973463949210790123524030530899257070169176036193647422253519031700680325458476206899980054274427366684738414863962770667352555496041883538510591567694220801407720801407478599201225738515881912230163045970290891681847765475671818795341456518392647586059852123203699067570104621682621087568453786587, -15605829736835545300561409187863544740558176343490231254165851044361371468247790561601439132918377898466385301970409105157717189944052470247444434611463987082238890174062417860830886945632711940197572356700152883626636914893590289496723877626355698826126272626387886163266940892226777912193793588997819990297392326243150914223893309826747566112917922415763733359773268715410210354885357592591483082915782571638985385109875793069498133176671454602746331400467103647444007773885109512577909843586510906968997296807340027998047096624868204177518021397897364133997172472971155942745610121376380703821561129179433143038372731933359210326885911102365929694491834415747635341698046622555128191660909004478695822090456215342875403234357984386981102712992463769514941793733393548131610334468577535313255810920330244619716784435773620718440131361240568250375532247572851344717218084667379893363858841743051893752514163280609698379702401546780420843448403780200748936785258610153391681248174441495416884266261010070486981876637943588779871447236182989633468559361174139434936313401339743030749404806805628013291658]) (B := [15155118770148231316436891353911531479187656625834854816161543020478251991487745684060204853501902773007330858384635521293898747347016214075654561195712206649259085594259805571262061088504794724750182525237308168120885821690652170760480306672152362168019166256152568325847362614458871761579260177805899889731251834721071279378546525970150257719181199821817594405666992321474078403192582699546231070608844650686180791340442631996799285588105333959497595821030075367499576145269762154555058161109329439094559454334592542115278694449415940548820384058335266644320304627471379791202085195326062730747596585719816879905029540999330821951623043401070247994838158420143434743980417208636408951212198385337550748452403033758744927028523477439148941809923821026849932749911359868223158530009396665241001485967121983891571870409489666652050797588591058937543710267255450034817831017018254479514881426128989579654943179888914357681525635036225734377655130658129772514723147849720356185811120533609742503031944320511921620712236351865011864884843574005136608602618517897352547577857199819922840986882266950592233572, -1364480639801418656793932675795695319214078331417288141539723254822235231143861902764704556464269809279204404614970104012742369564642449467309339068551264698701795647857047071351319698258493374623140442650410427183015093972809983774997212816730824175844259030901106045504989586608273419125428829361343610418259007412097635937902110355205902512522541243178752162159826860225510773892215132225860484830431507947391270069299471922221943464277972425750974920138574738760248546403703212629253677436335951715291324488388373217633958753154992967233764030619062082483585699238223971773359255945644588541660097283360531856130104637165985942403114536611456861267579335769765459658305509626018477422536754544150844036544519636685881940659019848069899439967455512141956678755643852965640310379971859715083586084084988988534403348905620150225483213595579990403337757448347230779843332814722018568498973541898176953947491535726747630070921557060707495586309590302, 117000067585536760449646691052786982214006014865289305431323543981112948915190186087744567826251995194853526610358317016159904239268795263842735884536973405152765157374184650442076785564884630612387834429657197425501168081284868516273162895019576184741479297669668143192435990247905149062059891299763280299166289041266928418706989719570060573408617859672887276915738697215755363321873695626640059371612627677528724018460348611529520970891005207770924696298241777462072519447256569682679574552355499843973838614999821443954200124149279762932006223149978327472763872041466013912386822297462256986602173521203797072835979953587715739817737012372046036559982250218674481670680716383424559390697795053760451639353372897199237573987280202519819573025738548928008825198179245514878717142256194905515670, -9405375167836123475381541036155452305639092073900700535383674406479789277170520750154644925276522159107053878443119261049847797501448375608387783002945428768194473993115064916774788713582430973335354435695127833835540293536299972728865545572764622277279671606160068530852509776841261428843082352161875523223790239959102102162832313340400393080439094284459473628876456394338024867151844613174261051394054758179532013348860672502089482630352457709058573866014241124609156395287936695225717369721787989911391915720279334465016172143377631074934692181241785437261330616743913849591367103962320918488221231759181258895393884446468326462942023959, 691270571509574269710389384994083461338412119179134120964482115288753362452809616026112289516908081184445597792858389566609807129578470619004143702242817735592193241145002427263178500282297484474704811739581699417885404287619619568924594510883592850296496879637981975039368064391560986648587567969349389052102824183275189338832913352742680320530103196693867627710299161265433159365285639363497161046451145551594488915219420875832289997076984088959039623961710878886421512795105074516584, -44455762815889197147819044214003677995004929356280003930028144556702657661214105486878756803484187250717932833049455261716436901447473402308887336666081479511446494134717371562431971846629287871395111416550831423153162013902284746542590387679885333681519203171607771175078233239180108751101219832959574025963330772902208413023223954, 2287167924104489839115121988137906143058412427140723988099836679661795637333860445389507505531224179395885992625542083059729513021970071153333888681435461365836093062674495446362, -73544136655534309809007]) (by decide +kernel) r hr hrn hc h1 h2
theorem ndp2 (r : Nat) (hr : Pr r) (hrn : r ∣ N2) (hc : r % S2 = 1) (h1 : 13479973333575319897333507543509815336818572211270286240551805124608 ≤ r) (h2 : r < 28269553036454149273332760011886696253239742350009903329945699220681916416) : False :=
  no_div (n := N2) (S := S2) (R := 1) (u := 7774813969253308660134189811217349693036258259200718654442945511938396376909685526321723077739604375808132952635960694666097377406564867066191616555589451) (lo := 13479973333575319897333507543509815336818572211270286240551805124608) (hi := 28269553036454149273332760011886696253239742350009903329945699220681916416) (l := 7) (as := [-33778851442732731644481571986399822246159539488848771787840261035686879521151415971608944397589908110076064234648871909447360526542630613759804688278627464231397674775800685414230329913765614716228716950936047366291416437152355494580134644461366966389882397077748256361028408827319785182920685137678481521570640301659776942421861027712117905028536098953185571592876912393471141440061609146867481348168838431717193339237404714771047173973153182858800338049098673539534411185093854989889846947842508513679436905052872912997656478882070553319132409597496362696291957086013857472061229923790415633003353721006950715583785558008920579813966889603085015948032362686637166652678238497307634462067468897187484179543676258452925547302538479897340150772578971700869521303498950912755445892036277472863303624515488812011723325312349280739130340515248590608606244898914498522684207932738515269331991363514287309323896602969295371616449986020439058505840250010575211991385440991702948, 496149709869183892076005122481264981917060094259086575923736221067601164749472844922059504769718847607343900684902305573751228600314350799292694599630014440966479658960925404254521388270621237038102131755956337957087654405705623000413629395102028920511223455303271986923613476921196330463739034902328115171317750794260165724922083587973360485716522011779048858613189532887269499229783481640690014943099447443729338513974672537779945653826414289522974907520378302452578210611319465373509856305394544294981995612972587228941291625445126096101894218948315886794470594468984519484314233291949735212076757943083073814771840025434839050501964657090433659966296079295809587162677008496624518884444993594910673916746604381403640306473556719951843419008724361573487855237831409869670598176558425629262215271604047387387221159546337845315203509154056503444019557367200787833982356923024741322353382180512584996476168182184767284057225100337423833487175174640328913141315547465049954, -3312515538425419388832525053906017507124128319215016884191309517971633575546118471034348261879410670225531036055018821327557537865733744422829873320775113638102073866662504499647268460515117688190024777245423429278585503149318137713186320543097037709099862439268417967864296759705462232490738398088632563994299502682997845561453995630342386145122617796005685426045570503494089521948056819001774337027660947117753197700745614572807136575180435714331251392692541604048664400111942902812279197705763818307001466545311229205764548960808586088840899962856827022883968714724664917450893105747629599824260569322765204808438085769676387305720266422889857658112669992182604205161409090682382222263050895819169301761684204289826212671783171680236342360610487239356044379361003178483865264579992329474495054499720921883835656257097265910456625352309502306833775789155615262716869308761327387621994817904426126349900902783822017469074267495082894728109203036991375039269978889565522282, 13269493833064562723780672577724075229856264830298721009852762290356829278971065851119095905111426873701516658090007851430482742583496846119479348899207231495663583069593476795385966233044204780702687688893570772653746890839120234453064347744499629207583380763276864214281795147914940341290720764619947165175754297133841170783456299300813806484024165303452194897673505448108517943600009529626865272224921951896072796115191652918962224887450286849968536231078457606578475492777679481613968301724458242283566645289332444698414454710275110099520197154978529240142224633338817423502621371146476978543153120832430456862954365060874663670828552879947359453616622042450144243643745344662856912113667682879357067846783931965008498081968268334493969181009749078917908369567857134370974170476641219771159527169592261149296727986927023532747804084485709656945703520748547211499538505684969010061633792687738224680737977332438594662855371686147385366269735551529338160814424480354173558, -35437210692438810118378920827608991510153909902182383701728951811968180521527648715701438106121212614601803147569876826533659966703304393311330698489059892371699229539612969893129192735221110839169936764570736179329683590756928601094977488946108565699409896743331614636037207772579063537191848518155563093291808383570642888190152902892194833242309845171093111296269441817762158576686146881320222341694117473118563746634515645274599375948994810460131532356452125102672632866603420996656502570781931307330805186267073874093925413572017918502875191004991638787817151082870184466290029566758238942405174249598870635425079656187346848137609958616633251591037330533402618474781852194370906681691792607789782821048677799136863294435686691110428605653145817369557613430615396421962240275286523694143162151018207715623584873779137223799748546146980239811512258355513965875243052465712816918615345499219764530651198662247580509983104252898303993585899803598543636115208066491760459860]) (B := [30112032024907286176601747956491199391780274891494121149873035351159071906762764507449962022600487727215087167464557102774056353862369199542205580607815326108039163250347142028307612368042141324490092007540470560325248220007521034037296633424152031029535666616503828262757456960099084646953009725283692938586734035142373452740795488302315866101726422344842896734700102957195338804018587460203838274223288110218847202832205651842265527430800737321794786539167546644611934167164922399607934163379576579341806156263380041775675225708014138499283811946592541365204447534633429830388178526207932800150692129939072784549146569887630941646256800364407238447331780928476161636160454007138508976526465193059473486730754008158813781196861934325790728045415252140935279668055934174663025662745672677987362305065723417959407447602007860955648839100178834840824872394613380854198939930020487250037284083137610656710764053901163466248192995323326560693743091110763809917823382848137661332, -2323813699773905107474070090702173518747909332121239463952914260444444855704042462558604863357797069637237247518029177767626522232966101837525425260732700499738105322325107201125356463221655729019352632607729280308526679193216191412290608666935109277727994479889708381915983419360943641929306290976365210924499105577717047241558363035926539706977062194883627662654754641791514356469033065949620745590348021955659561751975789741634638016346162234621867754263465049219866209957732583989322749117878794165702911868214501588450728138393707532283153274702243092777295161726256413502040456093532009019921819448908346183511416776639979955857880102630247852364471092426706282337327758590045351282171998238659429806886431980403415033388533893732397219582553128055564217387378248721994057405257346011335086559046886682812025035813, 166049968023799662771090123338201699940768607518436296738885614700787864280311790404611750060357986660712536354745928908944363835523178246569605116049123861185391571790738235401831885660496231764819306330493368964769580309742284316756131323422075347106906463126300512360778737253773371210650944879945479481897055831503840529914847554428466039562996679964908011726161765580358118494271171021882736336121970706713175497765734970766410237856274375563601775298075762853255137097815576451152785221959550263605277778033278439383698389195590197659478334123209596047198585574795432614555411019473417559241718903164632330990913223246613600846390161084109595108145829666007342, -10678710042482666848323951218630106010756226218230200757170778076252579214712567036339123951553111133696106148792360824745785314306586602835711560411861150016258554838087361993462068278296849251236243083305073740149864028944530169987205096304202579492860209601062257814202015386756768683483941854104157241047941705474601551310619284496967476029430163659274279952744504938799504376588076745258164106592553745174398842198618890181388939882649574187744958778960198168177583441604625494751287904007438463969296642312, 588643025583079239924959726141547522570967527960701672521595924225393268696070691394804682641609460770891720496830392087321586480565146412066329707031635513817136673083713474149768123843312175017713200420760200126394744047499084817389136256776453554606710263592629415736110298234108039792227387839568412114547517014985829864426606486609904021445070026005900, -25237175144895562489154978284397114002866123666171359152815702667411089503883560291689032226419155479366171547561585397094191260259073706734207987278849105611007245920919813505430475661303258162057812163, 649203318425362529093588051853146357797164980535]) (by decide +kernel) r hr hrn hc h1 h2
theorem ndp3 (r : Nat) (hr : Pr r) (hrn : r ∣ N2) (hc : r % S2 = 1) (h1 : 28269553036454149273332760011886696253239742350009903329945699220681916416 ≤ r) (h2 : r < 101890241637703473602405070611240228411602566207809257853410610874358455379002) : False :=
  no_div (n := N2) (S := S2) (R := 1) (u := 7774813969253308660134189811217349693036258259200718654442945511938396376909685526321723077739604375808132952635960694666097377406564867066191616555589451) (lo := 28269553036454149273332760011886696253239742350009903329945699220681916416) (hi := 101890241637703473602405070611240228411602566207809257853410610874358455379002) (l := 7) (as := [2453276642152391893237463394351686796506204634492412232202254402548744794171412867954752845631379524950124385291188497211780705208543976945528740037446671690714235680326448896220613877800423965231261507095715342769701679697472017291550191624179931677749577688219297131451354727408276073271902988850459110293251501804171939201780275108051079765879403512734680064030057830378729467445985789603484672597944212001608610524249501540591384670883107541796962520059212108080961696870648129028175047840248443987396797600061374403844491437348791658136194491639674476376958771271333970845519700024455294584716530891836107240114066359555545829998411703777214706938602400564937307984031711676299501298311102840853218350339163699268464229942387141771231931946223657233198769186907585777845932607404683955010284055201705113157931658499789634989133620617406344426070364136492247702117453816028362442993330391084625623084433825927460391098065900351412147297274284933705673, -36034158718994124148207822463602482139803201070058640398659922739630390093225505365726883382427629101615894377743961591963514994188751294725431773676527224967482763040309827744724933715497721029139250951347608027088087390787810195926718682560781356841224814263546898516264800907895542366551333153871873658496189286673087559122932759056895006690526918864955895938519050024810043633921103920776647660972711892740304024805769585645313130459163498798406964066660023252406630876306600630673244089003231568002857125049299998573162849901714976717062740380804567902837856702362043755311944409586453636319237463869409516183414924562308121963122556712361221750287133851893667889028072206736476261325751166085554719706691793513005412650787661623766186773693483297249839846008750944389292574649959921824762531419727409239626869133529645208877223732098492708121417985771769043509571096667650808250077438047068261955974290875544387335301936965555266476673512146268646937, 240580027149925341177706950907836785915101970835224881595533049706808667626441944867915154734253864405773402336550170427175361468135311208830101088926982636594577894135692418014822839723686500929693442645052868722931375075244780987121110524548569293630456578014545434340558830142625933761927679982574906777947412486171992805292269059410139972785305074724889043242291845979450553585549877792695015205277487088674528067218040236746653538622032569632549759145617865878621287217065244703971949943849360688083792191188575004144946607280134831273578534831556503192445448592869471144962538741423907093119229575951010493927225811946133786756894683522598540306159177332607530054831647690804341481566136540958544751501101461155294729841386137175684851077176083140276335830365325233783623353309342734216057700245637551114924072039368924825979963333986550913846607888096934130790648105926120314096618260414898376870526243641617449376153357709763595086164443703344932346, -963731384681115227522977295431209803155602552272565916745066767236508498840042554964109670297114513636274322109448538059887572815249425396972407498747951229089861961915642517670572780092773822426691529250484622524502576425821750670760543235953168152570566388715051738410322467268014639933318479834265884824210886410495842231058378358618653897829425299926919517248793509531155121165055307051610626411540992751500262692214658179597826935461784548074253543016916044983839731728515252766172594868997086477693506983985206470583280909427952907627203965113527900985174879503432185375990807641636418083599844082554818618598541484931268156006703401262587693640314536175720875765482574038240788787998622505428970886898855563434950348642333716653743169406798920956761978585524673125522353811706771890406714225182411221300891865997673720480199316189397431742278808940041384020783868577197575160152189261755937263186989554484835425544000553327812216996112264510393648130, 2573719281195306336988736698487536843043995700861932324273109702209569148784799744523524232969786620355005780901041487849119700646697901085321237300677060003565574242283033066405366445363760948708370912823420090549511651819901210735538018329688258095247047769755995374709808270487983612390768654560844249230925397519234084078586153881913370563880534629671146890794680728270950843604759079348157350399950908531207822529638120757077580475321658273954835130224891849008621508565344541838654531616362849577639196604449568187716707125470450247981208608695776536524565195139231317330291401235004359776724169953148140738272771253844050119133591997054483118436103390624835157295133963099637467577917210383808671986709816002338419525478190123052606604006465311905556653232191575257854785417205879421536963652896008733862435572460511345096557542860394955879324572792791662613787292141640767692316914544277319794802709958670125310462649740939039655271137604361846912869]) (B := [-2186964377391318732260545723679378021861895060185107568385748622911463344983970888377293528117633715251581962859948734060235214320876658400790712834921439553380667642427045542525311550190373680779040846527504121238215115927558866683721474408546281716061708544408390428327574768479425743475889863097646475537406759018950894044356287558155073019983564989552419193632944641262633839831775567373135837648843669201753966547392079928196011931752056363215077053821059184420984736933452347196372026832090377981705799955095884201509638747933273777946323390387377825599771124128767782041911461424866253995330420103850428834072287158964021220407031038468365301263558086086451055333192409279935928490339614841192498562113019797479600302431894216639400341330815171097511399446500821962103687616063010119069336157015140032163945069161987192654930223238789302586136881832141275839962509211560908902747878958515372921219953243948773415989609029206712880036852820990884617661, 168772993363442826131573672745660713175888301069820372234894555806820788567127912395248590647136334795836690453055122219908244893434343663980017188726368358659911986164300055333126296600699151456820555816154177340023704408892281851431108784543578138561119028595562398153425716730162621774567881616504427496151802972942345077446269212739101422731771312137463154625417849349590235114696273124120853454349624571511766384157710146408723640443252936173827109184448727953133557975181221785403821028296729330226117453470842851052683232131739838013383253973289349963237889228826406286957667371615648466102064476350233488136461082611218629217702062323249220054495928663745945494316265084508460649638105016152890029790410782650056321290652610840102910589447248253199208510131066751866554182031144205722526688566516, -12059809335837591142338195684578129724487923193858537520403003981762357082145747187492733131806382932737178940370836852981225214416099929648937901881788518343766614422904068105191593730230232979253099691342167038235975149795362906574898748127804887337884021401143570215595522838249797213599100210569385505801462110791791281220219811669982826271296467552245217337134736331558174641475014107440883790414632412629211107208870658464398515251716875925735024930443251826065518350947243834611442772910574435951960594390556297180346867921803355303602944124900450752249627162957455235512457382526453760664815601794445753090859234860885178040930708095782000013, 775568996475668243455849064278956601181249113038236093095252847756465557415370449003135256176680465301901070227213181413657658501778383712508541807763864649719842513171252775021597739105173900112044600411175043624409654681165459639529795882811127076527993440537598338958721907844183901043710840337935694057663248517308757298005548606085958414058495149154053063319907770411901528030794801598990885925946024041544171595191408959192674252126760804175790783032659562494643429530044475358248039321507, -42751725519061999275322917551323682745829565212583312765721363194242780563902224646443721983561082686603720814190631850892473103902539550556787193278344585631547584459077306712121113293682228324320113319066759240150999730093199015558650244058793464296518258514336389261454672192663264632887910956319906668506846109406918652579750631401245912, 1832915260657907211244667587606526481369055566394158815283811093855629374180792646022587471040154887005342598668071195983973865465374378454009592593570867289709780979554031778105432772257, -47150073761416055334969905740389]) (by decide +kernel) r hr hrn hc h1 h2
theorem ndm0 (r : Nat) (hr : Pr r) (hrn : r ∣ N2) (hc : r % S2 = 303190598866727134599024147957526248352962861499) (h1 : S2 ≤ r) (h2 : r < 200867255532373784442745261542645325315275374222849104412672) : False :=
  no_div (n := N2) (S := S2) (R := 303190598866727134599024147957526248352962861499) (u := 10381621340989602630438101892975909089594587423173470285891433536406674406527160603542395912760411908390965986575951507537007043144139827125199168277914557) (lo := S2) (hi := 200867255532373784442745261542645325315275374222849104412672) (l := 11) (as := [-9369969340494530395342263385033665160243694166292500530452185202893864382585584115690523029286150233808835714759619068867595221326852163108231678437195422861964114247158272977207160980697437813097623460201940805466624860060623240269771934471566576959547869193483948315245706029339958536410540976616438034394688569551460582392949301091454507979821964154769329736801223776275167264120041276931360347836123456560023539146354419023632468201482262073625908281725183679501223950244454566803145436492575526154356681718895053602838813518531943942197281547367254838357970999831883784245977439286210360829306864295913543125746041412105396155502792566312237768423082185294641605765492314501934805784460372198742542925268864131020547328596846644825527739622619661819030591504317659386757445552821922819678984128965845261188689706383056259578618325852603507116276769522354570746194750265499855890739557712176997514824163557598889402942530551459294515559304772919892101830467494808458961129277535216651666941666223839343430638260369297641320345168634653138336648274129614618402852356096450177955268181220480200989612770, 93699693404945303953422633850336651602436941663002606103906358850410092988370331669788586114486811347136193371285484167877449953856976343943319995028075728344752343852983337878897197064635119896978849432859212020591663328558747776059375202387922633816121445645974325394795404844984417273375662724865170480493975689999612171888913996534966236726899495007912581126475201204132430047000474336738209915127477515386543239870575894861421881550075385403867555647561449434233382918734112956335314765634433364999860979189062176784659284855178800022879185437804570721608743325029446778066379012193684584517858596254670058283949254961976529679383219482180371713816198650016364327718064038964567339446708616417479166251809622130386238605333651712606693528731930000853865198729930659771789199862565614956899136352141190381120586910274976615224431899264662200995274127147339287085651036317953185313740874634598017133746473698689911513960430345593350573899751570791662437410327149911951435881620721006038340667869452656833596297298789298861707102139919219353629789463652233913947435097510754344882946791871708815752747059, -421648620322253867790401852326514932210966237483860931064808895523466939678981699822023738712504830808452060917202926133653006213069176035428381320540483844691290423858648790911474554764911992878624768258625255025077269352219108505372835830750602976419994721094344976796808226077525033089371381025176331613636346228193565075971137572627224688407950815920085264718396920914256536046132341668533745206856795939426041942689216648577094981608228486737718951625642053154876247448855037752507332677205280115441768046332793239649705596088011609168961673893035682580261512594555552910172265998540696745693078699972970525528469809974689716450332921343813585393843023804514003225684639089631658059547116258685061684564007568072627587987763964897380290210789739731099874539125525297479816317021475202235857161422551321932639165350650673153939097206761663530065626980581265228180464204739811219906584278171727933927592359889362209259566380259043369241746182716131309217969319517523909812153928587724370762481912433073563945311974226234776497888307987450117215219205045885449149051371846832848507738793682213303554277135]) (B := [337318896257803094232321481861211945768772989987368107729631340976070768728237525703999071927855439808332143522750080186924183377477355842336600251931678902070715597845882679851746874636513809596944900977630996582456933912981543991092763393148041216930385144566320630723773653484674293722604419869568038690426911173844837900908002597174002487259345901663844519755486354374253295403044256209550100199541359309504643264808553363453997263939719064196687910571735581029465169137284273938469818749091949147602294481265569775529546255909677707724392230989952606932564501674883831594086015645330125696017393329787636707280095751475663822091278556837003823721195655789225061579659749196651963684561453377203386589216677363057036840498635382025170239564746406770677550582550486117750802106391957347671225351012134092281864725779547722843478857864213999748880289884025219305325913591704344440984599629036061385629349177114364618513580114208713338649500306282856464822613405969236317333590898715125349076770030896451242653202738391748466805295423654362016662518753564868470510019019980606953030563632454455499056990505, -25271499789534618915579132221547811005843643734099485334521578135254523196834909975048482552792539571970624957474396357606999207053267086809272172855499956597625891894611395020893017076495659682085067400257750241718791788498282209571631945986503124509597368347421721810472319808938657295264675088613500477499088080299207267078856281672774507989037126649794751616948083558104913909227096713665525387377658592732793884038546418266957698301355569147961021617350734522987373116493605489374535242248483023514618434688084717144342223799127919643551874416436981658732651671925656526351872774665477166307579766568535702174340838660712935227898675966150797232108634098907816460606200192520950817493994396259299565460883774866232373368112638244622099160127184548669173022431343863336843433013142177976955472279050704589533503955599013020339629749016729680731530720911391148942647745255046493268393195974679170094963072269143001099926568995237743362074187337746405, 1825690248142324974718979049486837025347153441010142249545563063848025503032904202296410533041673073329171595324373302076265642933708372188967710955799128202571497516487870045207771378389986796475974350021750995566625874186166151009851690658843685933289118096200034600413018614917416744165859725995669133121170235315052158322240561106436421025898507831828218817083226325283810013264992733413691296442725658525433845785313699047678670652503971028500586598818476371820056981754530258600036605386805417735716675682633368868443964932583115302583263904807173414545211317745454714827549164497036081418809531761177021789358665199594688181117421151131348637637591140721270666857854295546973783775438801335071631859411341454759477550348579350589754581000081166836926969732267494117121845269963516759003425358, -125612794006460728994882252546185655812011531127464683141042349300458596651945732499626449091787597244338352010357411028970396830399689475372879633048957770397557032569210182642628566576063205595453926031851842420267246632281340053718791470664286789476002227274262109803187676254626058885460227695005090116265646335389481315158433618998523039530437146018092365214832043771361589551953263846475200799761974291437544737977320770392620392264783330153346308902849513502500595589187753985739623743475175553805238827240323280384027006454643811074882584432994512787774306858409933841879918175573321420722961288703428051190538729997059529382119597367041, 8066356874367692103572212140483645027422676851005601441175522563385148176094533988764616823768987575465844216177281806277775677901488686142441171930165342236759763114753675213114916105391676192284247547034021501291875069077940464503700637897903068013320062214988715110612268359691526460115540548188575827579135524487890698461645745361870577988190967354286967751370532284633796285811060328495352228776115600383032864701963804268195238791559427951253642506720059476215820066196040086651476600, -466190584847440778753429545057683162558783354077053847496278483118472986791630354376093166799942826628781121211577513661694971661176648143020339797176005998495420356498320847309105409628859895530447723018589841291896525021268287477958719611462552143075141746445457976237005977738552093623218369146449832826285470527755516307333938530387, 22452686797908307399420317177448502728674142995066991096759999747477476141214167458520463765901028443303164764691031282015471873643141339757615821723311716363390459345350142523819945, -720911376634999352793066763]) (by decide +kernel) r hr hrn hc h1 h2
theorem ndm1 (r : Nat) (hr : Pr r) (hrn : r ∣ N2) (hc : r % S2 = 303190598866727134599024147957526248352962861499) (h1 : 200867255532373784442745261542645325315275374222849104412672 ≤ r) (h2 : r < 13479973333575319897333507543509815336818572211270286240551805124608) : False :=
  no_div (n := N2) (S := S2) (R := 303190598866727134599024147957526248352962861499) (u := 10381621340989602630438101892975909089594587423173470285891433536406674406527160603542395912760411908390965986575951507537007043144139827125199168277914557) (lo := 200867255532373784442745261542645325315275374222849104412672) (hi := 13479973333575319897333507543509815336818572211270286240551805124608) (l := 17) (as := [7515561743359985417312641931613176460652601787706315134624597416002482137217801474499063303741269778745155168632676989203178096833005227032206489959946121693217379176659158697787273415978722268826342190858553155902625819078391699559524362200163679820668150617755380645557572792484550528431890783562286048017497473933832169791279988488726687001050403240386101414529352208369773828207607345629084319108010573328829577285448879617220458555707078246688217789687135406096686080615123218418455262831430069883077531792579247706479542426885675775877399458678674170488313665174381838761626799766663684271437594580768171953497367497111555317591672622238900209196641187581954550888808842747513975499860111581333025379217559997327198767843999692219615171004476885037689106372819506540120358656164743381973342748271948610982134139976571353885796589330131102386951831985047171840428938501450738935425378448390586866744626769456669092081709249186766919663612843958986284593168082500357754033418687393481480988574581550851154267595125381010233556824722754292713214109528567986319789675938184670979917808346612987936, -82671179176959839590439061247744941067178619664837933616216110363891208845810896827131786828740343934251863931575257745045123646544819878033148244277088826501709831959464235151789800773694985220206210310971945921696251699495807862363406868441858264403341060496159985682043682614530865625934193735314178793609782192917979095491034194895439199970812718261132592604461859331468626780022446948950403604105920630509962349517648668894396936740570052715942576367148968175489122289484650925648250257541395558881651381461903322715639618573434322349437638016047727003491389083395814992480330919769628149133905573044446426591767872527263958392034159245195499287280052653292385791559433815120931304347492087567906166293817822767273389794340416030162968747589762566560096869052247740589951018540458859941928871239556659900901307379028921363967487738960497324292918223153648429583646202471420118644900788277263380045136254970474664526486749946864103660606360294049297732448993477534524759313292073160463434448870102737678613736014355300207627624556993384545805654035541914419634557349106118514466483496850234730950, 413355895884799197952195306238724705335893098324532003757808245758775570911129887173869386581633885029241583502888269525746715641842455290549024267105497254907386164468544482532769587523169836456307294542489766263666141725030500762139249329273665766108674012863982034795630339053115309521059676048669302761186209530247217329162556436151383898159314838712197549982355352814894677851339307741540282102238953758130871363969658437936130043439302323406724087071036455051828473251637361621664613642002324162935393161112111425078440831916376266851789415051895840996603211246863791726035414906073177498494508491562549316399861286302187365424537278300278644501821481154285972018232224683656324836747054360668438553832959705126117015403815250267931533671724755317425777912815517516549100919657944297232016217427134904911243595998496504278412350483861989887308700350101102652784093464492292250522957887450720647953456675872219023923967169337826521721609185213826939947403842858592146723029998372523263942843321085995296640527117201574989917940816468623191739944039193942748386748679244486519434811793957395891965, -1240067687654397593856585918716174116007679294974623018303607819094285292779615870636239517058699001714790977429499530423214262659511065563763618959288001817690902725257623295091900332843441227558784509536641055461547720517550386840012118340675026526904355196467385687190844357942107799407598107167721418873680942791798194142790149573156328123856039979622122117751415088165091423417103547447810624606128372426000737642244219294807933225647260649558081215091494422180210694339483595583288984522227280226858897184009188282045878598672423457082985770116883678472564847818805272962211464701929707207397102175847280681622218675477435986581773348581635216992255406711139111730385556537858523170545421834407833858216347379924078111957553555435541108830829078157391626131276660185043653086966493315197940918366031609179611853683126954664811831498442736515398946142418060689816737856319303284234586941114289877150440516192288955360339028407879396532071589986572855106454510988704662721109486524551546047054086577535370519722565633774073035206466827672070154076785703683656004201171405249012894190398445502320092]) (B := [901867409203198250077517031793581175278312214527745472970029746117995543873339694364269726816361599196346647080824023064435783200089764735549202763602148283623527555127592261282966668124393799338436266155426351977866617973384286401948420068869606704983902432865519806405406273379688432685333840014852882104559689876865986035864992868898757793397966009900560698964367828348362980942729420393799370183146188446684876951988281974306344043922411392633000550550221617896981082314670884950070612265742682359596497827416633662572951418375170513929556018957860213201191000684459621952739570588357487988553631052255068691829427450318817090859766464261893702420657442079360204746629054812528842386006801041712492098599291798421968539694947665550517805842571190742604324999958541237869172001241726351204773700212268703346886271923922625910269999084318517496402612256994427952079468046632271055794096379430704546444768771478358866212960969118211905561447947256629605300624978061851834255967028250080219135581998220447147828030888131739204041992039069166906206174607365677009823702477908000022287577058488713167379, -60810076355767081323296751386530280400177249078621419382359239702108981021731863254535598380472800490693428171586792277695998559885999173242695692952996515977473414267082089751109371817469672025290341102073193679726671916790962780983537225001808155719313621739827515712310393322683285524290381285301497706109064529218149202128245483715555133972590546148107282724990197555854862105224711795275131311097703739347111566642729656614226281597770339242147393663283245321443854406228518115211703820097675586901587214126719748528306130751375006317200665186882626988125271976307927157384819801534985182199594700525172890990224175607883971412645532049773526416789836595679004510040226170758740353090670315022858728430791098675546794368022280504880051695530798661242720388636619139916786781068804737954739393423164224257464333970176953617550555293371589233026821967056681018267332827926637232900566837328258475893470511130673923870314025104888216620450518238, 3904982619986440365551242695367378700499540128993903331287070027059218136577908961208915222901067132216689031621801804644302127231424140416476607159174424309846830433943495926324353008303233944286486559784402219097547570078737051352652565895741505110182047618596889708633058399490040497111526834173009455853223319447536390179519039442757775406151114407871756878224748786288601785298122719112846966624948817176503162755180456909472362220250115029403401404885314359241676293499196208585607233407907040709224445080685773503974774548673192776586856252867950420351904068649628553628931645938498458257728384619837084532798395033853330088885874082270117584901113197866678366054847903838682490393117689479097515419420722666525367831529759344585666520767516034036400873431115073830681390946802759477971, -235089882141557636768213884072996132064877532770882883323313941953630677502034609773180062633138180723313845605812486004895394990124331751568876308497659391148781917414203985263149242620663099268608857691069294704465428859871999670043911364965661720724231750455708686070483421738151958507032333065464817469551973906493919318553348129058800776989290746497076859375186557214042039458765171657606029182734631485666513371262420417092606539442291074424711693394469146133855308561003433071890372001477925943067678084119342540922085593457537383866682431650877063208171288644540379786639962584075222601740993084683196444768728730217081884180366302, 12939893596297951085182619991874893825229654031136165766614983949754125352421348254955818093618684257264921735925238050214967598422246841055310736928100852905020803130692474571341791592485377208656793360288082293283526397123769986514905842600902757188181567643875325493255868821820794444715635791611613008137269971806725176931005882392656578065220189648500962859028465771099482923872308387551667826198818311579442770494164781067600333803102023862312459682613928902146994838193602015069, -623211595341450173573936667633371524911586841152576466015670718025265230385576392241420307454694887873955268682349648810257330673646822457728175817099485164994378208154120136710807436236187014110528508244037282714284715181995940029650288046615307439450168574071710125168362953750463461346805180605070466743616897529320639638554204, 24012110435229727014923194406277376693283465201620444286234613802906224759543893715119431575719101892339762368747378291110665828423142008009565139165518543159894027094323139935, -578236039596798456139]) (by decide +kernel) r hr hrn hc h1 h2
theorem ndm2 (r : Nat) (hr : Pr r) (hrn : r ∣ N2) (hc : r % S2 = 303190598866727134599024147957526248352962861499) (h1 : 13479973333575319897333507543509815336818572211270286240551805124608 ≤ r) (h2 : r < 28269553036454149273332760011886696253239742350009903329945699220681916416) : False :=
  no_div (n := N2) (S := S2) (R := 303190598866727134599024147957526248352962861499) (u := 10381621340989602630438101892975909089594587423173470285891433536406674406527160603542395912760411908390965986575951507537007043144139827125199168277914557) (lo := 13479973333575319897333507543509815336818572211270286240551805124608) (hi := 28269553036454149273332760011886696253239742350009903329945699220681916416) (l := 3) (as := [-350348026691228344871248193715837007495655941582664101525513592372865624963401458433078067116489494008642889309163636561857954774578878944225335436433228895016585592463507726090396339527361293696305825894122359329648298907780995878169415271569875470029206611305837167138462047340304472198673007809519055483018522962480477530932313058297977060355736042338973959773393007138259883090302882636309156453420819227740402297928787208614307079386415415195494489023356072174536042713852283789347599894911780033148748062373001812794801476652518101153363550521888947686164531557303462913716481953185187161209238265255731755583313772370226208042883449551183620293272512919998128935283319424559683746534228592480192026843244073547671006047909891572606884918087085274679114491505655194862759290871203580769998940642389165650216833758337998676249873580150146980339031792019133246953670879556035001431601294991282030236153681804972845655190299177309338619156082465210454814066649776587234905, 3853828293603511793583730130874207082452215357412496804452260173756008278080266060762675015531939809963928100530788550375116048386613581550368855938020863744494255833404548615846895535742091023948709712412458999368079784692045480582424763893728029796193703137877220432148858236008643341385611890336816323867399869596083454772692288251082897486356581679761465748599266541492346179357693910536573382293842692440389938706649157451893561217391887920767907970692285961908353751574555538582317760349298600049901562555698941115846794184176464413411970851741102495853709787402593355300759890707754419900053788158426173054707248951755144245217957675118135827601113054539371203086751409294819507702481885723761633877346666673009271117958389522092810451954059004200613804742588866538844268463567372430248776419023659231057691246764304470911640021034793786897639046969630323835080724178502924395877710749950530423807304132661718837852432588291303639949241916651843760016867112320793771118, -19269141468017558967918650654371035412261076787078442460619354157052473407815580393807456463912489145723427377146780639937763895294390952976824214079237226025037316045420969229243726825206749076722026077901541631485997791145397456787742394450008021125894824487885556746763497430183524108437352168417702319384984491755419039862919696488261120114975773389553777907730587682173348837389281566293120302726365804685285710281596676513991589640469523969831944872550059182742914724348766657383291728063277273537742898194085493802185570927122272785378042837683129509953613109202400943004344995106799678515520014751045554326201389218240916315567574256272269124064602956659502331285185635555265264814206274465783593267124856233733229801122074074062007967368695335618421773318369538076966404157133627208652219510424214597467184359525741647341207517362121583463367661964989690446054661211375605099987105011306952465505133941948655095459770314090874016421794205372758987896270408427569026465, 57807424404052676903755951963113106236783230361283202696932222335974716275689491451404613550495877374560158606447541025266215418057422432821999789350998206917195790850708666293655417059949336228228965093532321580640986842400259940736565586332717298004424251158681013772884544664539617753854529907669493341772391298324609118707525077813266238209739780238388950459153978086906879373290409200292220045867818900817847772101412703237998772256009256604508568883438739856629635767280884871824029225963835133710790507228196243371376958355709213405153325972284811755865528726732969347188031690027962510933014555905134331454088521113809555207480089159292126959652016218302920995087673016556726606234550770658272970079298389823985088338360331610987789372478005879606613453228628326056986232205172973989305275372995214343613286818752128969217693718873469519360745110747681204017180212453552976765601664193619332127848623521618875411710206792136224103185535572937767224579920087236434278320, -115614848808105353807511903926226212473566460722662156024012764401584024655864483442773715418508653923257101865966851143971023844643904889860228626494983632420060403666102722388265843017173419072293858682250021356233459736117526965487164333487297408049666869630950320247699244197878365486421965096392933573464219356287320112709596119555711659005471599876230157301789278500734752359950969692832538599954400194427506473745536181313129327806305484400821314469757331946814545327838336342557908768874789594400896705167192136781121344837074605806441596046606749987983986070763622989047207282883402283931916382338890171207366185181554632612927006900291359404451670115795915686652575867273075721560904674386955079236146609581825543371704040382259572731119959551858867326524000250560500537407744340039923258271934707382713598446435478610426590317950697277812998081190105930815847496260878973875514791847006088283478282442848043855852571784460879591493970967252631057409474562891658158778]) (B := [73573085605157952422962120680325771574087747732664122416284326265320937938404535261742493286561766070659675232242903439963321526530669286196094574113568703333207215653485394658368320581804291574952999764761767317947720555900029230779982030298232346876252769459860392162238817346042082586527388331935323211361520634286243728866558138717133580532217069716125438466135140347958795395035939747411486134304052283667424684112619575260155590282819119009334816462887541771852120044176026868919214454132337720416243331887794033581053405001260217130841087470734276005505107717883774242693178476885187770120097016586114174147353675110554320478854672832038816520534381018300385982050750217080620903226129858331734923207519766205852979748115423797942082254428447222623216226553356839338521162645688484615448205940823318851594461607578190143539998870862509939275894787076855364416191808794722464297625200163824028087845769562318059457629755197153596759263214287618815310500072684272142449666, -4252115340481765917298454617838680090893542270958507300324581150511021592712755169906641690472527283398820784767637153836389943955445704290156242165949784592967620116932800444277955647126687872061240070640599672690354623025047116823745964896195295623246148523503096679126899360431174937373034892663763460286926855383782880449452510576158465271108025997335364926940994489526605713102753334803491137900561132948732214786198943454618219589652251129870255699241599003063036890642467917358748063375202711752153085866573206412787842373996504202533783673734896292005092801923055208656835781340159475649069397457433688548931135102986907402107176469399096171397504741430241500969297771548511107413761323236909079909806620986388576722643688315281755558120886574435755130160423265660770863733927317654647209215500959665798262448202033, 227545026222509920145052419989938419518117170792566814258532260881472485022981314953520439727761722287071603990003935684413301060337226751689782159618195872092731447758489882247768522534011087355615266259300226089909372993438898332818645190666709970321013302517977085947604834059236898043307260679004297689143425098703420388303214370703653501577602352057227983911741778929330437152326425211209303046638353231960454303438277812844028998693627789033363188725812412371847605926540227972802660261983613387674259018877431579817949190183875475055290219182377887440506959757218074081928840290683021323868167887195095557051222685723003647474938830582412187730051375868800050449, -10959031289462333046470063371927111416972794941784006471472901190934103216749788382867124834752673828704167458127120325637941262967550235645920817138062765935333839084475774908966879396578008979599828963226868216239308294205415978220474321861688174121004185367158727408206205380896196038856435507435781561651446654839506483482724888876300188292934629278493513655430961464708509258948602732554782529411903131929566209175584941468270558781819206598024845745192317301246731755742598911951147306016412482083421731501413, 452407917917390825806565836075723325915920863872310983837755259109075041405959720087891427152249636942790013231068387473084826212420996287845715945309840341039592565417998741466883284230801965576752197565985357914583013613322952097460182847516521401607751984148898608728776817100440183830961432952736120144614952549108673597478850969403690847822120148127237954, -14525923683074926102940282865033716675247557060320142713364695016236781741602363169299353112030803122180740740808339933799506391890828326147334289555002130078806307892008215125549544018470935030116033752812, 279839212122338455485611505374781933495619667923399]) (by decide +kernel) r hr hrn hc h1 h2
theorem ndm3 (r : Nat) (hr : Pr r) (hrn : r ∣ N2) (hc : r % S2 = 303190598866727134599024147957526248352962861499) (h1 : 28269553036454149273332760011886696253239742350009903329945699220681916416 ≤ r) (h2 : r < 101890241637703473602405070611240228411602566207809257853410610874358455379002) : False :=
  no_div (n := N2) (S := S2) (R := 303190598866727134599024147957526248352962861499) (u := 10381621340989602630438101892975909089594587423173470285891433536406674406527160603542395912760411908390965986575951507537007043144139827125199168277914557) (lo := 28269553036454149273332760011886696253239742350009903329945699220681916416) (hi := 101890241637703473602405070611240228411602566207809257853410610874358455379002) (l := 2) (as := [-136993332351392716966618480300226319429203973961904756632487577847294306208383315563730649575221758677203402685685281179606812112543352028416969646631194582881625022289870188440673886705696528661246070685061665986035118666284120499836388408891054694959269284532894918680700793123578584450670914256484690263615003940073945667529015011454147391591154311010829081194160598515585081104990530722518885010143009211382043518440647497428172963618230845321043360994652293885312932786265249654054840231304492961269050118425449673911903606050165618933623908149746441388443656721460966893773750212440211934462648843497764393677584395609513964810356014880906969897658896106952898467169348841728311400490710999522792476713839163842484538209451118737578458383244622066482030664990380275308751348866349724936692163749674310793617175982737137739908341598217385108883263393039185193313669644774693632898752101093088186371027629913252903589041320162854731781235070642510228155, 1506926655865319886632803283302489513721243713582200338920484945573530588424397758376494929357058359707282672332695266586672519590746163096867203883082555519778175791738103968925279225180461519734269854106520609916848829437565191882158170828207985694042709978339113173450437601107767917049280091144620699006225218343908729121288710852358557216485965916771372233217471760961313242731441748776776723944767632722458456062244283810880669179204921475158747476473438030540663804365288188155656733455970014098976701866978112213531800113834685240039108422039118462527737128683765954109385809156917228922722649915134212688635206640938851062127783454856728346086232353656879904876152209111486421193076537480230080082939545231766959581167976618592652649761523938913370548288922992031322860637539615719832847341044228126415986921772449175822167577804770191852970747262224181080201987543857399773619635551377806587863816893529544037879503853382493849787467474728406961626, -7534633279326599433164016416512447568606218567917241774418032674134119042782895227759763566933392037775053468134863896867644252190444877479941138391090684083929943633391750369529717562729389430638683401711753635283687378528604284930964453085410379848089305804091753335063957644559086976149752488192692479234725815857563963171559847343249687514682108012568185483440793195945677254200867672971320762115161539346306176739174432902685339324352550448672641653585779164766539065773639502400911858651826720862703759733101091354152270855390401722137530467379013962395302190825040524713936273962459596079539711454734924568620315313965352794898120919053630799566742608475080446691535226316352044110500229233074914095979395861348735155177375821135889508031695604460855951799601837686093545370870198886780275977671850938175948385865999346994407387115733933631367925022062119481140926882591700250049229799434192398772469665357536009871364111278012507498380294465728792248, 22603899837979798299492049249537342705818655703770445562700921861201755430331404990911157461244492334886322401380559470043658886700079642649246075315319993359978188664798860596787853133952910437358178368184804789677251116515699211219808469691731853078238185405130956835015548387208408790813420138054824759179120641578220566648995607574887986257048605381346693379009136757957791848969398009798000517868170794014140889039091135057560481174086698117768697672391503669421789551897063138586638417972065567366442987672575022411557182551080528157386821843964630474877856547746394209800118939231149747736001524154648918045538969642238601057051079108683504093714777325036449837140018320986126011550966639864927732264611075990952675420934578004146614474866421199524633436636180393865755413393114194214926537562393519459289953898214014674255834332687410127211213885172343687691834141386873035648815110570706164699953798116472649214089277300646379902690234611568669725305, -45207799675959596598984098499074685411637311407578331604295491400002307464628248597086048443377648120585452151836664674244532368494854954162552103024907769880792376169203185556844117222140791927041945819910430506311707376678959621116808428064469635987286577743840302961552803518805954574228977887532381838319529717180121044185013159080999944634940654091933692235639071944319826767224376527069949597756137114756729709763347829892108442251816938081705074474912330525724385094750080405263234553559741685088533954334465328495859611714571439537607461960030536612235209710949875140415409986985427895858305784858536037130413907909334547696777693422371723367202741567587346382189644702065447227725869562294742244215350876980927374586444651745679186135943713395660749772385977645226124716991850183254838965961549199825185491732247566942297464053819198255489404122032209365867603642108238301860987232299252464926308152373931196986884077104015408785583202734472546766700]) (B := [28768599793792470562989880863047527080132834532119127689302179413018884407286891862404406704533127095783745453840976735067506088442923070501379970184800322446666550897606798711693260726869640404798671796477657338546836333984463797369729651563920842099491111123424583862814727701996164337267394573557965911213142384196311017626403675728409215944717362740460496020741102690373194933674115693257969608080267910189935331771000289334033316591732284364737305835837974674337377622718039990070050141270374202407459135679867973625675762735354963425233191438419047880758197671180882756123638624311309627303807273651993830476169623104362516786227658325595939249519249741273741852238141936041644714961553029617182216230243821158629719886571667045644044040221411280718947120494988502436735654238847682755360530322456384969304875858505521569414092725511027177082532886740630406706623440816342994008424546936531942739815856850459333602796395981171366676197909871823928990117, -1662665137681673963270019932818180521748743528569538032617844616792685330389050652283358957071850537904701655460962150092209385648409000060281566000534562096022357087723381486175306376140758488624090523386295250311940398358223347834609644899484168567554878816808230470106831670123900852015585151600537349654571947866228156366227626707208442851068734351078660233615853486186005624312302261694007027484595111538030218550843936759660394508813294848521352085375100308897198787587797937875115189595556130537749435453932143081436810260662190225347970771521602452568745646699179497001367788480490131090863438296335396738287843882520272302504327190851465785022849728193138197824891094405596932590772912261763516669439470691041057653965785533681398364709744774455734836470019620697212135349458673018721977040889724, 88974816546289766118956355621565300901400271885050847202027031086900609364127114386295630102005741938966144886509224422291000233646678897167980902120154523672049426389137984020750611264006130679294569505028375577723251916086650249344676896179777984799599152163743743406066989694850920934239172208938181236493302128889589266734382699894355300100461373382964023003590367544902518260210645908662890842626422361230065318042533504852241489006990780991203711766275514630923144844814392377573895915306922023461327958517369550788069417769594740922882638422485851927479586501277431896608031626965662357093796877711867281328117402579759973992507736983527537978, -4285208139647311564583459679166663086389724997497830359503610660105524099556629635644255086042042061451584394849789589661280685049029617748912224408054278324400184458945654530909265091379991747183197059975629987342954729258609253531569065582249882510975217064384963483521659075928718747204235705615472389598568569994269542078516881346775649539369112307486266491447976932639581635555665957817161560363892332351103517187852180480024935177232321699047664399978642066160770115439286824429955480800480, 176900862958993314602650209561826921797981718493498753693863560802457310173034774871119857281629045754131037450704518859773556006758794425783618151082998330094591012555236915235212220315054301360369316197025034208801758218739529710535352034800655601591638475032860973391301448787699532915468708295651140678912544113867671494408395430391574791, -5679936917641763813980777419061484044129739691453026218271798001517821977532812709702322360898206832203156900430733239593109295895942143957435622375511766500300788882102965505026896152731, 109422925978156273942653577997062]) (by decide +kernel) r hr hrn hc h1 h2
theorem n2no (r : Nat) (hr : Pr r) (hrn : r ∣ N2) (hlt : r < 101890241637703473602405070611240228411602566207809257853410610874358455379002) : False := by
  rcases cls r hr hrn with hc | hc
  · rcases Nat.lt_or_ge r S2 with h0 | h0
    · exact no_one hr.1 hc h0
    · skip
      rcases Nat.lt_or_ge r 200867255532373784442745261542645325315275374222849104412672 with h | g0
      · exact ndp0 r hr hrn hc h0 h
      rcases Nat.lt_or_ge r 13479973333575319897333507543509815336818572211270286240551805124608 with h | g1
      · exact ndp1 r hr hrn hc g0 h
      rcases Nat.lt_or_ge r 28269553036454149273332760011886696253239742350009903329945699220681916416 with h | g2
      · exact ndp2 r hr hrn hc g1 h
      exact ndp3 r hr hrn hc g2 hlt
  · rcases Nat.lt_or_ge r S2 with h0 | h0
    · exact no_res hc h0 hrn (by decide +kernel)
    · skip
      rcases Nat.lt_or_ge r 200867255532373784442745261542645325315275374222849104412672 with h | g0
      · exact ndm0 r hr hrn hc h0 h
      rcases Nat.lt_or_ge r 13479973333575319897333507543509815336818572211270286240551805124608 with h | g1
      · exact ndm1 r hr hrn hc g0 h
      rcases Nat.lt_or_ge r 28269553036454149273332760011886696253239742350009903329945699220681916416 with h | g2
      · exact ndm2 r hr hrn hc g1 h
      exact ndm3 r hr hrn hc g2 hlt

theorem key2q' : Pr N2 := by
  refine pr_of N2 (by decide +kernel) fun r hr hrn => ?_
  rcases Nat.lt_or_ge r 101890241637703473602405070611240228411602566207809257853410610874358455379002 with hlt | hge
  · exact (n2no r hr hrn hlt).elim
  · exact above hge (by decide +kernel)
theorem key2q : Pr 10381621340989602630438101892975909089594587423182068202124588783094168422741567990413141241492069066522569929192747298242483237121291479479353985992550099 := key2q'
end Go.Proofs.YtniaeiikdgbnfaaDoor.NT
