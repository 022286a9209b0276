/- Parts P1, P2, P3, P4. No condition of its own. -/

namespace Go.Proofs.YtniaeiikdgbnfaaDoor.NT
set_option linter.unusedSimpArgs false
set_option linter.unusedVariables false

def Pr (p : Nat) : Prop := 1 < p ∧ ∀ a, a ∣ p → a = 1 ∨ a = p

theorem Pr.cop {p a : Nat} (hp : Pr p) (h : ¬ p ∣ a) : Nat.Coprime p a := by
  rcases hp.2 _ (Nat.gcd_dvd_left p a) with h1 | h1
  · exact h1
  · exact (h (h1 ▸ Nat.gcd_dvd_right p a)).elim
theorem Pr.mul {p a b : Nat} (hp : Pr p) (h : p ∣ a * b) : p ∣ a ∨ p ∣ b := by
  by_cases h1 : p ∣ a
  · exact .inl h1
  · exact .inr ((hp.cop h1).dvd_of_dvd_mul_left h)
theorem Pr.mulI {p : Nat} {a b : Int} (hp : Pr p) (h : (p : Int) ∣ a * b) : (p : Int) ∣ a ∨ (p : Int) ∣ b := by
  have h2 : p ∣ a.natAbs * b.natAbs := by rw [← Int.natAbs_mul]; exact Int.ofNat_dvd_left.1 h
  rcases hp.mul h2 with h | h
  · exact .inl (Int.ofNat_dvd_left.2 h)
  · exact .inr (Int.ofNat_dvd_left.2 h)

theorem least_le (n : Nat) : ∀ k, (∃ d, 1 < d ∧ d ∣ n ∧ d ≤ k) → ∃ d, 1 < d ∧ d ∣ n ∧ ∀ e, 1 < e → e ∣ n → d ≤ e
  | 0, ⟨d, h1, _, h3⟩ => by omega
  | k + 1, ⟨d, h1, h2, h3⟩ => by
    by_cases h : ∃ d, 1 < d ∧ d ∣ n ∧ d ≤ k
    · exact least_le n k h
    · refine ⟨d, h1, h2, fun e he1 he2 => ?_⟩
      rcases Nat.lt_or_ge e d with h4 | h4
      · exact (h ⟨e, he1, he2, by omega⟩).elim
      · exact h4

theorem least (n : Nat) (h : 1 < n) : ∃ d, Pr d ∧ d ∣ n ∧ ∀ e, 1 < e → e ∣ n → d ≤ e := by
  obtain ⟨d, h1, h2, h3⟩ := least_le n n ⟨n, h, Nat.dvd_refl n, Nat.le_refl n⟩
  refine ⟨d, ⟨h1, fun a ha => ?_⟩, h2, h3⟩
  have h4 := Nat.le_of_dvd (by omega) ha
  rcases Nat.lt_or_ge 1 a with h5 | h5
  · exact .inr (Nat.le_antisymm h4 (h3 a h5 (Nat.dvd_trans ha h2)))
  · rcases Nat.eq_zero_or_pos a with h6 | h6
    · subst h6; have := Nat.eq_zero_of_zero_dvd ha; omega
    · exact .inl (by omega)

/-- A number is prime if its prime divisors are above its root. -/
theorem pr_of (n : Nat) (h : 1 < n) (hr : ∀ r, Pr r → r ∣ n → n < r * r) : Pr n := by
  obtain ⟨d, h1, h2, h3⟩ := least n h
  obtain ⟨c, hc⟩ := h2
  rcases Nat.lt_or_ge 1 c with h4 | h4
  · have h5 := h3 c h4 ⟨d, by rw [hc, Nat.mul_comm]⟩
    have h6 := hr d h1 ⟨c, hc⟩
    have h7 : d * d ≤ d * c := Nat.mul_le_mul_left d h5
    omega
  · have : c = 1 := by
      rcases Nat.eq_zero_or_pos c with h6 | h6
      · subst h6; simp at hc; omega
      · omega
    subst this
    rw [Nat.mul_one] at hc
    exact hc ▸ h1

/-! ### Binomials -/
def ch : Nat → Nat → Nat
  | _, 0 => 1
  | 0, _ + 1 => 0
  | n + 1, k + 1 => ch n k + ch n (k + 1)

theorem ch_big : ∀ {n k : Nat}, n < k → ch n k = 0
  | _, 0, h => by omega
  | 0, k + 1, _ => rfl
  | n + 1, k + 1, h => by simp only [ch]; rw [ch_big (by omega), ch_big (by omega)]
theorem ch_self : ∀ n, ch n n = 1
  | 0 => rfl
  | n + 1 => by simp only [ch]; rw [ch_self n, ch_big (by omega)]
theorem ch_zero (n : Nat) : ch n 0 = 1 := by cases n <;> rfl
theorem ch_mul : ∀ n k, (k + 1) * ch (n + 1) (k + 1) = (n + 1) * ch n k
  | 0, 0 => rfl
  | 0, k + 1 => by simp [ch]
  | n + 1, 0 => by
    have := ch_mul n 0
    simp only [ch, ch_zero] at this ⊢
    omega
  | n + 1, k + 1 => by
    have h1 := ch_mul n k
    have h2 := ch_mul n (k + 1)
    have e1 : ch (n + 1 + 1) (k + 1 + 1) = ch (n + 1) (k + 1) + ch (n + 1) (k + 1 + 1) := rfl
    have e2 : ch (n + 1) (k + 1) = ch n k + ch n (k + 1) := rfl
    rw [e1, Nat.mul_add, h2]
    have h3 : (k + 1 + 1) * ch (n + 1) (k + 1) = (n + 1) * ch n k + ch (n + 1) (k + 1) := by rw [Nat.add_mul, h1, Nat.one_mul]
    rw [h3, Nat.add_mul (n + 1) 1, Nat.one_mul]
    rw [show (n + 1) * ch (n + 1) (k + 1) = (n + 1) * ch n k + (n + 1) * ch n (k + 1) by rw [e2, Nat.mul_add]]
    omega
theorem ch_dvd {p k : Nat} (hp : Pr p) (h1 : 0 < k) (h2 : k < p) : p ∣ ch p k := by
  obtain ⟨n, rfl⟩ : ∃ n, p = n + 1 := ⟨p - 1, by omega⟩
  obtain ⟨j, rfl⟩ : ∃ j, k = j + 1 := ⟨k - 1, by omega⟩
  rcases hp.mul (⟨ch n j, ch_mul n j⟩ : n + 1 ∣ (j + 1) * ch (n + 1) (j + 1)) with h | h
  · have := Nat.le_of_dvd (by omega) h; omega
  · exact h

/-! ### Pairs a + b sqrt D -/
abbrev Z2 := Int × Int
def mq (D : Int) (x y : Z2) : Z2 := (x.1 * y.1 + D * (x.2 * y.2), x.1 * y.2 + x.2 * y.1)
def aq (x y : Z2) : Z2 := (x.1 + y.1, x.2 + y.2)
def sq (c : Int) (x : Z2) : Z2 := (c * x.1, c * x.2)
def pq (D : Int) (x : Z2) : Nat → Z2
  | 0 => (1, 0)
  | n + 1 => mq D (pq D x n) x
def sm (f : Nat → Z2) : Nat → Z2
  | 0 => (0, 0)
  | n + 1 => aq (sm f n) (f n)

theorem mq_comm (D : Int) (x y : Z2) : mq D x y = mq D y x := by
  apply Prod.ext <;> simp only [mq] <;> grind
theorem mq_assoc (D : Int) (x y z : Z2) : mq D (mq D x y) z = mq D x (mq D y z) := by
  apply Prod.ext <;> simp only [mq] <;> grind
theorem mq_one (D : Int) (x : Z2) : mq D x (1, 0) = x := by
  apply Prod.ext <;> simp only [mq] <;> grind
theorem one_mq (D : Int) (x : Z2) : mq D (1, 0) x = x := by rw [mq_comm, mq_one]
theorem mq_add (D : Int) (x y z : Z2) : mq D x (aq y z) = aq (mq D x y) (mq D x z) := by
  apply Prod.ext <;> simp only [mq, aq] <;> grind
theorem add_mq (D : Int) (x y z : Z2) : mq D (aq x y) z = aq (mq D x z) (mq D y z) := by
  apply Prod.ext <;> simp only [mq, aq] <;> grind
theorem sq_mq (D c : Int) (x y : Z2) : mq D (sq c x) y = sq c (mq D x y) := by
  apply Prod.ext <;> simp only [mq, sq] <;> grind
theorem pq_add (D : Int) (x : Z2) (m : Nat) : ∀ n, pq D x (m + n) = mq D (pq D x m) (pq D x n)
  | 0 => by simp only [pq, Nat.add_zero, mq_one]
  | n + 1 => by rw [← Nat.add_assoc]; simp only [pq]; rw [pq_add D x m n, mq_assoc]
theorem pq_mul (D : Int) (x : Z2) (m : Nat) : ∀ n, pq D x (m * n) = pq D (pq D x m) n
  | 0 => rfl
  | n + 1 => by rw [Nat.mul_succ, pq_add, pq_mul D x m n]; rfl
theorem pq_one (D : Int) : ∀ n, pq D (1, 0) n = (1, 0)
  | 0 => rfl
  | n + 1 => by simp only [pq]; rw [pq_one D n, mq_one]
theorem sm_mq (D : Int) (f : Nat → Z2) (x : Z2) : ∀ m, mq D (sm f m) x = sm (fun k => mq D (f k) x) m
  | 0 => by apply Prod.ext <;> simp [mq, sm]
  | m + 1 => by simp only [sm]; rw [add_mq, sm_mq D f x m]
theorem aq_assoc (x y z : Z2) : aq (aq x y) z = aq x (aq y z) := by
  apply Prod.ext <;> simp only [aq] <;> omega
theorem aq_swap (a b c d : Z2) : aq (aq a b) (aq c d) = aq (aq a c) (aq b d) := by
  apply Prod.ext <;> simp only [aq] <;> omega
theorem sm_shift (f : Nat → Z2) : ∀ m, sm f (m + 1) = aq (f 0) (sm (fun k => f (k + 1)) m)
  | 0 => by apply Prod.ext <;> simp [aq, sm]
  | m + 1 => by
    rw [show sm f (m + 1 + 1) = aq (sm f (m + 1)) (f (m + 1)) from rfl, sm_shift f m, aq_assoc]; rfl
theorem sm_aq (f g : Nat → Z2) : ∀ m, aq (sm f m) (sm g m) = sm (fun k => aq (f k) (g k)) m
  | 0 => by apply Prod.ext <;> simp [aq, sm]
  | m + 1 => by simp only [sm]; rw [← sm_aq f g m, aq_swap]
theorem sm_congr {f g : Nat → Z2} : ∀ m, (∀ k, k < m → f k = g k) → sm f m = sm g m
  | 0, _ => rfl
  | m + 1, h => by simp only [sm]; rw [sm_congr m (fun k hk => h k (by omega)), h m (by omega)]
theorem sq_zero (x : Z2) : sq 0 x = (0, 0) := by apply Prod.ext <;> simp [sq]
theorem sq_add (c d : Int) (x : Z2) : sq (c + d) x = aq (sq c x) (sq d x) := by
  apply Prod.ext <;> simp only [sq, aq] <;> grind
theorem aq_zero (x : Z2) : aq x (0, 0) = x := by apply Prod.ext <;> simp [aq]

/-- A power of a sum. -/
theorem binom (D : Int) (x y : Z2) : ∀ n, pq D (aq x y) n = sm (fun k => sq (ch n k) (mq D (pq D x (n - k)) (pq D y k))) (n + 1)
  | 0 => by
    simp only [pq, sm, ch, mq_one]
    apply Prod.ext <;> simp [aq, sq, pq]
  | n + 1 => by
    have ih := binom D x y n
    rw [show pq D (aq x y) (n + 1) = mq D (pq D (aq x y) n) (aq x y) from rfl, ih, mq_add, sm_mq, sm_mq]
    have e1 : sm (fun k => mq D (sq (ch n k) (mq D (pq D x (n - k)) (pq D y k))) x) (n + 1) = sm (fun k => sq (ch n k) (mq D (pq D x (n + 1 - k)) (pq D y k))) (n + 1) := by
      refine sm_congr _ fun k hk => ?_
      rw [sq_mq, mq_assoc, mq_comm D (pq D y k) x, ← mq_assoc, show n + 1 - k = (n - k) + 1 by omega]
      rfl
    have e2 : sm (fun k => sq (ch n k) (mq D (pq D x (n + 1 - k)) (pq D y k))) (n + 1) = sm (fun k => sq (ch n k) (mq D (pq D x (n + 1 - k)) (pq D y k))) (n + 2) := by
      rw [show sm (fun k => sq (ch n k) (mq D (pq D x (n + 1 - k)) (pq D y k))) (n + 2) = aq (sm (fun k => sq (ch n k) (mq D (pq D x (n + 1 - k)) (pq D y k))) (n + 1)) (sq (ch n (n + 1)) (mq D (pq D x (n + 1 - (n + 1))) (pq D y (n + 1)))) from rfl, ch_big (Nat.lt_succ_self n), Int.natCast_zero, sq_zero, aq_zero]
    rw [e1, e2, sm_shift _ (n + 1), sm_shift _ (n + 1), aq_assoc, sm_aq]
    congr 1
    · simp only [ch_zero]
    · refine sm_congr _ fun k hk => ?_
      rw [sq_mq, mq_assoc, show ch (n + 1) (k + 1) = ch n k + ch n (k + 1) from rfl, Int.natCast_add, sq_add, show n + 1 - (k + 1) = n - k by omega]
      rw [show mq D (pq D y k) y = pq D y (k + 1) from rfl]
      apply Prod.ext <;> simp only [aq] <;> omega

/-! ### Congruence -/
def cq (n : Nat) (x y : Z2) : Prop := (n : Int) ∣ x.1 - y.1 ∧ (n : Int) ∣ x.2 - y.2

theorem cq.refl (n : Nat) (x : Z2) : cq n x x := ⟨by simp, by simp⟩
theorem cq.symm {n : Nat} {x y : Z2} (h : cq n x y) : cq n y x := by
  obtain ⟨⟨a, ha⟩, ⟨b, hb⟩⟩ := h
  exact ⟨⟨-a, by rw [Int.mul_neg, ← ha]; omega⟩, ⟨-b, by rw [Int.mul_neg, ← hb]; omega⟩⟩
theorem cq.trans {n : Nat} {x y z : Z2} (h : cq n x y) (h' : cq n y z) : cq n x z := by
  obtain ⟨⟨a, ha⟩, ⟨b, hb⟩⟩ := h
  obtain ⟨⟨c, hc⟩, ⟨d, hd⟩⟩ := h'
  exact ⟨⟨a + c, by rw [Int.mul_add, ← ha, ← hc]; omega⟩, ⟨b + d, by rw [Int.mul_add, ← hb, ← hd]; omega⟩⟩
theorem cq.mul {n : Nat} {D : Int} {x y u v : Z2} (h : cq n x y) (h' : cq n u v) : cq n (mq D x u) (mq D y v) := by
  obtain ⟨⟨a, ha⟩, ⟨b, hb⟩⟩ := h
  obtain ⟨⟨c, hc⟩, ⟨d, hd⟩⟩ := h'
  refine ⟨⟨a * u.1 + y.1 * c + D * (b * u.2 + y.2 * d), ?_⟩, ⟨a * u.2 + y.1 * d + b * u.1 + y.2 * c, ?_⟩⟩ <;> simp only [mq] <;> grind
theorem cq.add {n : Nat} {x y u v : Z2} (h : cq n x y) (h' : cq n u v) : cq n (aq x u) (aq y v) := by
  obtain ⟨⟨a, ha⟩, ⟨b, hb⟩⟩ := h
  obtain ⟨⟨c, hc⟩, ⟨d, hd⟩⟩ := h'
  refine ⟨⟨a + c, ?_⟩, ⟨b + d, ?_⟩⟩ <;> simp only [aq] <;> grind
theorem cq.pow {n : Nat} {D : Int} {x y : Z2} (h : cq n x y) : ∀ k, cq n (pq D x k) (pq D y k)
  | 0 => cq.refl _ _
  | k + 1 => (cq.pow h k).mul h
theorem cq.of_dvd {n r : Nat} {x y : Z2} (h : cq n x y) (hr : r ∣ n) : cq r x y :=
  ⟨Int.dvd_trans (Int.natCast_dvd_natCast.2 hr) h.1, Int.dvd_trans (Int.natCast_dvd_natCast.2 hr) h.2⟩

theorem sm_zero {n : Nat} {f : Nat → Z2} : ∀ m, (∀ k, k < m → cq n (f k) (0, 0)) → cq n (sm f m) (0, 0)
  | 0, _ => cq.refl _ _
  | m + 1, h => by
    have h1 := (sm_zero m fun k hk => h k (by omega)).add (h m (by omega))
    rwa [aq_zero] at h1

/-- The power p of a sum, p a prime. -/
theorem frob {p : Nat} (hp : Pr p) (D : Int) (x y : Z2) : cq p (pq D (aq x y) p) (aq (pq D x p) (pq D y p)) := by
  obtain ⟨m, rfl⟩ : ∃ m, p = m + 1 := ⟨p - 1, by have := hp.1; omega⟩
  rw [binom]
  show cq (m + 1) (aq (sm _ (m + 1)) _) _
  rw [sm_shift]
  have h1 : cq (m + 1) (sm (fun k => sq (ch (m + 1) (k + 1)) (mq D (pq D x (m + 1 - (k + 1))) (pq D y (k + 1)))) m) (0, 0) := by
    refine sm_zero m fun k hk => ?_
    obtain ⟨c, hc⟩ := ch_dvd hp (show 0 < k + 1 by omega) (show k + 1 < m + 1 by omega)
    rw [hc]
    refine ⟨⟨c * (mq D (pq D x (m + 1 - (k + 1))) (pq D y (k + 1))).1, ?_⟩, ⟨c * (mq D (pq D x (m + 1 - (k + 1))) (pq D y (k + 1))).2, ?_⟩⟩ <;> simp only [sq] <;> grind
  have h2 := ((cq.refl (m + 1) (sq (ch (m + 1) 0) (mq D (pq D x (m + 1 - 0)) (pq D y 0)))).add h1).add (cq.refl (m + 1) (sq (ch (m + 1) (m + 1)) (mq D (pq D x (m + 1 - (m + 1))) (pq D y (m + 1)))))
  refine h2.trans ?_
  rw [aq_zero, ch_zero, ch_self, Nat.sub_self, Nat.sub_zero]
  simp only [pq, mq_one, one_mq]
  have : ∀ z : Z2, sq ((1 : Nat) : Int) z = z := fun z => by apply Prod.ext <;> simp [sq]
  rw [this, this]
  exact cq.refl _ _

theorem pq_left (D a : Int) : ∀ n, pq D (a, 0) n = (a ^ n, 0)
  | 0 => by simp [pq]
  | n + 1 => by simp only [pq]; rw [pq_left D a n]; apply Prod.ext <;> simp [mq, Int.pow_succ]
theorem pq_right (D b : Int) : ∀ k, pq D (0, b) (2 * k + 1) = (0, b ^ (2 * k + 1) * D ^ k)
  | 0 => by simp [pq, one_mq, Int.pow_succ]
  | k + 1 => by
    rw [show 2 * (k + 1) + 1 = 2 * k + 1 + 1 + 1 by omega]
    simp only [pq]
    rw [show mq D (pq D (0, b) (2 * k)) (0, b) = pq D (0, b) (2 * k + 1) from rfl, pq_right D b k]
    apply Prod.ext
    · simp [mq]
    · simp only [mq, Int.pow_succ]; grind

/-- Fermat's law. -/
theorem fermat {p : Nat} (hp : Pr p) : ∀ a : Nat, (p : Int) ∣ (a : Int) ^ p - a
  | 0 => by
    obtain ⟨m, hm⟩ : ∃ m, p = m + 1 := ⟨p - 1, by have := hp.1; omega⟩
    rw [hm]; simp [Int.pow_succ]
  | a + 1 => by
    have h1 := (frob hp 0 ((a : Int), 0) (1, 0)).1
    have e : aq ((a : Int), 0) (1, 0) = (((a + 1 : Nat) : Int), 0) := by apply Prod.ext <;> simp [aq]
    rw [e, pq_left, pq_left, pq_left] at h1
    simp only [aq, Int.one_pow] at h1
    obtain ⟨c, hc⟩ := h1
    obtain ⟨d, hd⟩ := fermat hp a
    exact ⟨c + d, by rw [Int.mul_add, ← hc, ← hd]; push_cast; omega⟩

def cj (x : Z2) : Z2 := (x.1, -x.2)

/-- The power r of a pair is the pair, or its other one; r an odd prime that does not divide D. -/
theorem frob2 {r : Nat} (hr : Pr r) (hodd : r % 2 = 1) (D a b : Nat) (hD : ¬ r ∣ D) : cq r (pq D ((a : Int), (b : Int)) r) ((a : Int), (b : Int)) ∨ cq r (pq D ((a : Int), (b : Int)) r) ((a : Int), -(b : Int)) := by
  obtain ⟨k, hk⟩ : ∃ k, r = 2 * k + 1 := ⟨r / 2, by omega⟩
  have h1 := frob hr (D : Int) ((a : Int), 0) (0, (b : Int))
  have e : aq ((a : Int), 0) (0, (b : Int)) = ((a : Int), (b : Int)) := by apply Prod.ext <;> simp [aq]
  rw [e] at h1
  have h2 : pq (D : Int) (0, (b : Int)) r = (0, (b : Int) ^ r * (D : Int) ^ k) := by rw [hk]; exact pq_right _ _ k
  rw [h2, pq_left] at h1
  have fa := fermat hr a
  have fb := fermat hr b
  have fD := fermat hr D
  have e3 : (D : Int) ^ r - D = D * (((D : Int) ^ k - 1) * ((D : Int) ^ k + 1)) := by
    rw [hk, Int.pow_succ, Nat.two_mul, Int.pow_add]; grind
  rw [e3] at fD
  obtain ⟨u, hu⟩ := h1.1
  obtain ⟨v, hv⟩ := h1.2
  obtain ⟨ca, hca⟩ := fa
  obtain ⟨cb, hcb⟩ := fb
  simp only [aq] at hu hv
  generalize pq (D : Int) ((a : Int), (b : Int)) r = Z at hu hv ⊢
  generalize hdk : (D : Int) ^ k = dk at hu hv fD
  generalize (a : Int) ^ r = ar at hu hv hca
  generalize (b : Int) ^ r = br at hu hv hcb
  rcases hr.mulI fD with h | h
  · exact (hD (Int.natCast_dvd_natCast.1 h)).elim
  · clear fD hdk e3 h1 h2
    rcases hr.mulI h with ⟨c, hc⟩ | ⟨c, hc⟩
    · left
      refine ⟨⟨u + ca, ?_⟩, ⟨v + cb * dk + b * c, ?_⟩⟩ <;> simp only <;> clear h <;> grind
    · right
      refine ⟨⟨u + ca, ?_⟩, ⟨v + cb * dk + b * c, ?_⟩⟩ <;> simp only <;> clear h <;> grind

theorem pow_gcd {n : Nat} {D : Int} {x : Z2} (a b : Nat) : cq n (pq D x a) (1, 0) → cq n (pq D x b) (1, 0) → cq n (pq D x (Nat.gcd a b)) (1, 0) := by
  induction a, b using Nat.gcd.induction with
  | H0 b => intro _ h; rw [Nat.gcd_zero_left]; exact h
  | H1 a b h0 ih =>
    intro ha hb
    rw [Nat.gcd_rec]
    refine ih ?_ ha
    have h1 := ha.pow (D := D) (b / a)
    rw [pq_one, ← pq_mul] at h1
    have h2 := h1.mul (D := D) (cq.refl n (pq D x (b % a)))
    rw [one_mq, ← pq_add, Nat.div_add_mod] at h2
    exact h2.symm.trans hb

theorem ord {n s j : Nat} {D : Int} {x : Z2} (h0 : 0 < s) (hs : cq n (pq D x s) (1, 0)) (hj : cq n (pq D x j) (1, 0)) (hq : ∀ q, Pr q → q ∣ s → ¬ cq n (pq D x (s / q)) (1, 0)) : s ∣ j := by
  have hg := pow_gcd s j hs hj
  obtain ⟨c, hc⟩ := Nat.gcd_dvd_left s j
  rcases Nat.lt_or_ge 1 c with h | h
  · obtain ⟨q, hq1, ⟨d, hd⟩, _⟩ := least c h
    refine (hq q hq1 ⟨Nat.gcd s j * d, by rw [Nat.mul_left_comm, ← hd]; exact hc⟩ ?_).elim
    have e : s / q = Nat.gcd s j * d := by
      refine Nat.div_eq_of_eq_mul_right (by have := hq1.1; omega) ?_
      rw [Nat.mul_left_comm, ← hd]; exact hc
    rw [e, pq_mul]
    have := hg.pow (D := D) d
    rwa [pq_one] at this
  · have : c = 1 := by
      rcases Nat.eq_zero_or_pos c with h6 | h6
      · subst h6; simp at hc; omega
      · omega
    rw [this, Nat.mul_one] at hc
    rw [hc]
    exact Nat.gcd_dvd_right s j

/-- The product of a list. -/
def pl : List Nat → Nat
  | [] => 1
  | q :: qs => q * pl qs
theorem pl_mem {q : Nat} (hq : Pr q) : ∀ qs : List Nat, (∀ x ∈ qs, Pr x) → q ∣ pl qs → q ∈ qs
  | [], _, h => by have h1 := Nat.le_of_dvd (by decide) h; have h2 := hq.1; simp only [pl] at h1; omega
  | x :: qs, hx, h => by
    rcases hq.mul h with h | h
    · rcases (hx x (List.mem_cons_self ..)).2 q h with e | e
      · have := hq.1; omega
      · subst e; exact List.mem_cons_self ..
    · exact List.mem_cons_of_mem _ (pl_mem hq qs (fun y hy => hx y (List.mem_cons_of_mem _ hy)) h)

theorem lucas {n D a b s : Nat} (h0 : 0 < s) (hodd : n % 2 = 1) (hnorm : a * a % n = (D * (b * b) + 1) % n) (hD : Nat.gcd D n = 1) (hs : cq n (pq D ((a : Int), (b : Int)) s) (1, 0))
    (hu : ∀ r q, Pr r → r ∣ n → Pr q → q ∣ s → ¬ cq r (pq D ((a : Int), (b : Int)) (s / q)) (1, 0)) (r : Nat) (hr : Pr r) (hrn : r ∣ n) : s ∣ r - 1 ∨ s ∣ r + 1 := by
  obtain ⟨m, hm⟩ : ∃ m, r = m + 1 := ⟨r - 1, by have := hr.1; omega⟩
  have hro : r % 2 = 1 := by
    obtain ⟨c, hc⟩ := hrn
    rcases Nat.mod_two_eq_zero_or_one r with h | h
    · rw [hc, Nat.mul_mod, h] at hodd; simp at hodd
    · exact h
  have hrD : ¬ r ∣ D := fun h => by
    have := Nat.dvd_gcd h hrn
    rw [hD] at this
    have := Nat.le_of_dvd (by decide) this
    have := hr.1
    omega
  have hN : cq r (mq D ((a : Int), (b : Int)) (cj ((a : Int), (b : Int)))) (1, 0) := by
    have h1 : ((a * a : Nat) : Int) % (n : Int) = ((D * (b * b) + 1 : Nat) : Int) % (n : Int) := by rw [← Int.natCast_emod, ← Int.natCast_emod, hnorm]
    have h2 : (n : Int) ∣ ((a * a : Nat) : Int) - ((D * (b * b) + 1 : Nat) : Int) := Int.dvd_of_emod_eq_zero (Int.emod_eq_emod_iff_emod_sub_eq_zero.1 h1)
    obtain ⟨c, hc⟩ := Int.dvd_trans (Int.natCast_dvd_natCast.2 hrn) h2
    push_cast at hc
    refine ⟨⟨c, ?_⟩, ⟨0, ?_⟩⟩ <;> simp only [mq, cj] <;> grind
  have hs' := hs.of_dvd hrn
  rcases frob2 hr hro D a b hrD with h | h
  · left
    refine ord h0 hs' ?_ (fun q => hu r q hr hrn)
    have h1 := h.mul (D := D) (cq.refl r (cj ((a : Int), (b : Int))))
    have e : pq D ((a : Int), (b : Int)) r = mq D (pq D ((a : Int), (b : Int)) (r - 1)) ((a : Int), (b : Int)) := by rw [hm]; rfl
    rw [e, mq_assoc] at h1
    have h2 := (cq.refl r (pq D ((a : Int), (b : Int)) (r - 1))).mul (D := D) hN
    rw [mq_one] at h2
    exact h2.symm.trans (h1.trans hN)
  · right
    refine ord h0 hs' ?_ (fun q => hu r q hr hrn)
    have h1 := h.mul (D := D) (cq.refl r ((a : Int), (b : Int)))
    rw [show mq (D : Int) ((a : Int), -(b : Int)) ((a : Int), (b : Int)) = mq D ((a : Int), (b : Int)) (cj ((a : Int), (b : Int))) from mq_comm _ _ _] at h1
    exact h1.trans hN

/-! ### Powers, reckoned -/
def pn (n D : Nat) : Nat → Nat → Nat → Nat → Nat → Nat → Nat × Nat
  | 0, _, _, _, a1, a2 => (a1, a2)
  | f + 1, x1, x2, e, a1, a2 =>
    if e % 2 = 1 then pn n D f ((x1 * x1 + D * (x2 * x2)) % n) (2 * (x1 * x2) % n) (e / 2) ((a1 * x1 + D * (a2 * x2)) % n) ((a1 * x2 + a2 * x1) % n)
    else pn n D f ((x1 * x1 + D * (x2 * x2)) % n) (2 * (x1 * x2) % n) (e / 2) a1 a2

theorem cq_mod (n : Nat) (u v : Nat) : cq n (((u % n : Nat) : Int), ((v % n : Nat) : Int)) ((u : Int), (v : Int)) := by
  refine ⟨⟨-((u / n : Nat) : Int), ?_⟩, ⟨-((v / n : Nat) : Int), ?_⟩⟩
  · have := Nat.div_add_mod u n
    have h : ((n * (u / n) + u % n : Nat) : Int) = u := by rw [this]
    push_cast at h ⊢
    rw [Int.mul_neg]
    omega
  · have := Nat.div_add_mod v n
    have h : ((n * (v / n) + v % n : Nat) : Int) = v := by rw [this]
    push_cast at h ⊢
    rw [Int.mul_neg]
    omega

theorem pn_eq (n D : Nat) : ∀ (f x1 x2 e a1 a2 : Nat), e < 2 ^ f → cq n (((pn n D f x1 x2 e a1 a2).1 : Int), ((pn n D f x1 x2 e a1 a2).2 : Int)) (mq D ((a1 : Int), (a2 : Int)) (pq D ((x1 : Int), (x2 : Int)) e))
  | 0, x1, x2, e, a1, a2, h => by
    have : e = 0 := by simp at h; exact h
    subst this
    simp only [pn, pq, mq_one]
    exact cq.refl _ _
  | f + 1, x1, x2, e, a1, a2, h => by
    have h2 : e / 2 < 2 ^ f := by rw [Nat.pow_succ] at h; omega
    have hx : cq n ((((x1 * x1 + D * (x2 * x2)) % n : Nat) : Int), ((2 * (x1 * x2) % n : Nat) : Int)) (pq D ((x1 : Int), (x2 : Int)) 2) := by
      refine (cq_mod n _ _).trans ?_
      have : ((((x1 * x1 + D * (x2 * x2) : Nat)) : Int), ((2 * (x1 * x2) : Nat) : Int)) = pq D ((x1 : Int), (x2 : Int)) 2 := by
        simp only [pq, one_mq]
        apply Prod.ext <;> simp only [mq] <;> push_cast <;> grind
      rw [this]
      exact cq.refl _ _
    have hxe := hx.pow (D := D) (e / 2)
    rw [← pq_mul] at hxe
    unfold pn
    split
    · rename_i h1
      refine (pn_eq n D f _ _ _ _ _ h2).trans ?_
      have ha : cq n ((((a1 * x1 + D * (a2 * x2)) % n : Nat) : Int), (((a1 * x2 + a2 * x1) % n : Nat) : Int)) (mq D ((a1 : Int), (a2 : Int)) ((x1 : Int), (x2 : Int))) := by
        refine (cq_mod n _ _).trans ?_
        have : ((((a1 * x1 + D * (a2 * x2) : Nat)) : Int), ((a1 * x2 + a2 * x1 : Nat) : Int)) = mq D ((a1 : Int), (a2 : Int)) ((x1 : Int), (x2 : Int)) := by
          apply Prod.ext <;> simp only [mq] <;> push_cast <;> grind
        rw [this]
        exact cq.refl _ _
      refine (ha.mul hxe).trans ?_
      rw [mq_assoc]
      have : e = 1 + 2 * (e / 2) := by omega
      rw [show pq D ((x1 : Int), (x2 : Int)) e = pq D ((x1 : Int), (x2 : Int)) (1 + 2 * (e / 2)) by rw [← this], pq_add]
      simp only [pq, one_mq]
      exact cq.refl _ _
    · rename_i h1
      refine (pn_eq n D f _ _ _ _ _ h2).trans ?_
      have : 2 * (e / 2) = e := by omega
      rw [this] at hxe
      exact (cq.refl n _).mul hxe

/-! ### Certificates -/
def okC (n D a b s : Nat) (qs : List Nat) : Bool :=
  n % 2 == 1 && a * a % n == (D * (b * b) + 1) % n && Nat.gcd D n == 1 && s == pl qs && Nat.blt 1 s && Nat.blt s (2 ^ 600) && Nat.blt n ((s - 1) * (s - 1)) && pn n D 600 a b s 1 0 == (1, 0) &&
    qs.all fun q => Nat.gcd (pn n D 600 a b (s / q) 1 0).2 n == 1 || Nat.gcd ((pn n D 600 a b (s / q) 1 0).1 + n - 1) n == 1

theorem pr_cert {n : Nat} (D a b s : Nat) (qs : List Nat) (hq : ∀ q ∈ qs, Pr q) (h : okC n D a b s qs = true) : Pr n := by
  unfold okC at h
  simp only [Bool.and_eq_true, beq_iff_eq, Nat.blt_eq] at h
  obtain ⟨⟨⟨⟨⟨⟨⟨⟨h1, h2⟩, h3⟩, h4⟩, h5⟩, h5'⟩, h6⟩, h7⟩, h8⟩ := h
  have hn : 1 < n := by
    rcases Nat.lt_or_ge 1 n with h | h
    · exact h
    · have : n = 1 := by omega
      subst this
      rw [Nat.gcd_one_right] at h3
      exact (by
        have hs2 : s ≠ 2 ∨ s = 2 := by omega
        have e : pn 1 D 600 a b s 1 0 = (1, 0) := h7
        have := pn_eq 1 D 600 a b s 1 0 h5'
        have hle : ∀ (f x1 x2 e a1 a2 : Nat), 0 < e → e < 2 ^ f → (pn 1 D f x1 x2 e a1 a2).1 = 0 := by
          intro f
          induction f with
          | zero => intro x1 x2 e a1 a2 he h; simp at h; omega
          | succ f ih =>
            intro x1 x2 e a1 a2 he h
            have h2 : e / 2 < 2 ^ f := by rw [Nat.pow_succ] at h; omega
            have h0 : ∀ (f x1 x2 a1 a2 : Nat), a1 = 0 → (pn 1 D f x1 x2 0 a1 a2).1 = 0 := by
              intro f
              induction f with
              | zero => intro x1 x2 a1 a2 h; exact h
              | succ f ih =>
                intro x1 x2 a1 a2 h
                unfold pn
                rw [if_neg (by decide)]
                exact ih _ _ _ _ h
            unfold pn
            split
            · rcases Nat.eq_zero_or_pos (e / 2) with h | h
              · rw [h]; exact h0 _ _ _ _ _ (Nat.mod_one _)
              · exact ih _ _ _ _ _ h h2
            · exact ih _ _ _ _ _ (by omega) h2
        have := hle 600 a b s 1 0 (by omega) h5'
        rw [e] at this
        simp at this)
  have hs : cq n (pq D ((a : Int), (b : Int)) s) (1, 0) := by
    have := pn_eq n D 600 a b s 1 0 h5'
    rw [h7] at this
    have e : mq D (((1 : Nat) : Int), ((0 : Nat) : Int)) (pq D ((a : Int), (b : Int)) s) = pq D ((a : Int), (b : Int)) s := one_mq _ _
    rw [e] at this
    exact this.symm
  refine pr_of n hn fun r hr hrn => ?_
  have hr1 := hr.1
  have key := lucas (by omega) h1 h2 h3 hs (fun r q hr hrn hqp hqs => by
    rw [h4] at hqs
    have hm := pl_mem hqp qs hq hqs
    have h9 := List.all_eq_true.1 h8 q hm
    simp only [Bool.or_eq_true, beq_iff_eq] at h9
    intro hc
    have hlt : s / q < 2 ^ 600 := Nat.lt_of_le_of_lt (Nat.div_le_self _ _) h5'
    have hp := (pn_eq n D 600 a b (s / q) 1 0 hlt).of_dvd hrn
    have e : mq D (((1 : Nat) : Int), ((0 : Nat) : Int)) (pq D ((a : Int), (b : Int)) (s / q)) = pq D ((a : Int), (b : Int)) (s / q) := one_mq _ _
    rw [e] at hp
    obtain ⟨k1, k2⟩ := hp.trans hc
    have hr1 := hr.1
    have hn0 : 0 < n := by omega
    rcases h9 with h9 | h9
    · have : r ∣ (pn n D 600 a b (s / q) 1 0).2 := by
        have : (r : Int) ∣ ((pn n D 600 a b (s / q) 1 0).2 : Int) := by simpa using k2
        exact Int.natCast_dvd_natCast.1 this
      have := Nat.dvd_gcd this hrn
      rw [h9] at this
      have := Nat.le_of_dvd (by decide) this
      omega
    · have : r ∣ (pn n D 600 a b (s / q) 1 0).1 + n - 1 := by
        have h10 : (r : Int) ∣ (((pn n D 600 a b (s / q) 1 0).1 : Int) - 1) + n := Int.dvd_add k1 (Int.natCast_dvd_natCast.2 hrn)
        have h11 : (((pn n D 600 a b (s / q) 1 0).1 + n - 1 : Nat) : Int) = (((pn n D 600 a b (s / q) 1 0).1 : Int) - 1) + n := by omega
        rw [← h11] at h10
        exact Int.natCast_dvd_natCast.1 h10
      have := Nat.dvd_gcd this hrn
      rw [h9] at this
      have := Nat.le_of_dvd (by decide) this
      omega) r hr hrn
  have hle : s - 1 ≤ r := by
    rcases key with h | h
    · have := Nat.le_of_dvd (by omega) h; omega
    · have := Nat.le_of_dvd (by omega) h; omega
  exact Nat.lt_of_lt_of_le h6 (Nat.mul_le_mul hle hle)

/-- Small primes, by trial. -/
def noDiv (q : Nat) : Nat → Nat → Bool
  | 0, _ => false
  | f + 1, d => Nat.blt q (d * d) || (q % d != 0 && noDiv q f (d + 1))
theorem noDiv_spec {q : Nat} : ∀ f d, noDiv q f d = true → (∀ e, 1 < e → e < d → ¬ e ∣ q) → ∀ e, 1 < e → e * e ≤ q → ¬ e ∣ q
  | 0, d, h, _ => by simp [noDiv] at h
  | f + 1, d, h, hd => by
    unfold noDiv at h
    rw [Bool.or_eq_true] at h
    intro e he he2 hdv
    rcases h with h | h
    · rw [Nat.blt_eq] at h
      rcases Nat.lt_or_ge e d with h1 | h1
      · exact hd e he h1 hdv
      · have := Nat.mul_le_mul h1 h1; omega
    · simp only [Bool.and_eq_true, bne_iff_ne, ne_eq] at h
      refine noDiv_spec f (d + 1) h.2 (fun e he1 he2 => ?_) e he he2 hdv
      rcases Nat.lt_or_ge e d with h1 | h1
      · exact hd e he1 h1
      · have : e = d := by omega
        subst this
        exact fun h3 => h.1 (Nat.mod_eq_zero_of_dvd h3)
theorem pr_small {q : Nat} (h : (Nat.blt 1 q && noDiv q 2000 2) = true) : Pr q := by
  rw [Bool.and_eq_true, Nat.blt_eq] at h
  refine pr_of q h.1 fun r hr hrq => ?_
  rcases Nat.lt_or_ge q (r * r) with h1 | h1
  · exact h1
  · exact (noDiv_spec 2000 2 h.2 (fun e h1 h2 => by omega) r hr.1 h1 hrq).elim

/-! ### The keys -/
theorem fermat_exp {p : Nat} (hp : Pr p) (x : Nat) : ∀ t, (p : Int) ∣ (x : Int) ^ (1 + t * (p - 1)) - x
  | 0 => by simp [Int.pow_succ]
  | t + 1 => by
    obtain ⟨c, hc⟩ := fermat_exp hp x t
    obtain ⟨d, hd⟩ := fermat hp x
    have e : 1 + (t + 1) * (p - 1) = (1 + t * (p - 1)) + (p - 1) := by rw [Nat.add_mul]; omega
    have e2 : (x : Int) ^ p = x ^ (p - 1) * x := by rw [← Int.pow_succ]; congr 1; have := hp.1; omega
    rw [e, Int.pow_add]
    refine ⟨c * (x : Int) ^ (p - 1) + d, ?_⟩
    rw [e2] at hd
    grind

theorem rsa {p q e : Nat} (hp : Pr p) (hq : Pr q) (hpq : p ≠ q) (h1 : (e - 1) % (p - 1) = 0) (h2 : (e - 1) % (q - 1) = 0) (he : 0 < e) (x : Nat) : x ^ e % (p * q) = x % (p * q) := by
  have k : ∀ p, Pr p → (e - 1) % (p - 1) = 0 → (p : Int) ∣ (x : Int) ^ e - x := fun p hp h => by
    have : e = 1 + (e - 1) / (p - 1) * (p - 1) := by rw [Nat.div_mul_cancel (Nat.dvd_of_mod_eq_zero h)]; omega
    rw [this]
    exact fermat_exp hp x _
  have hc : Nat.Coprime p q := hp.cop fun h => by
    rcases hq.2 p h with h | h
    · have := hp.1; omega
    · exact hpq h
  have h3 : (p * q) ∣ ((x : Int) ^ e - x).natAbs := hc.mul_dvd_of_dvd_of_dvd (Int.ofNat_dvd_left.1 (k p hp h1)) (Int.ofNat_dvd_left.1 (k q hq h2))
  have h4 : ((p * q : Nat) : Int) ∣ (x : Int) ^ e - x := Int.ofNat_dvd_left.2 h3
  have h5 := Int.emod_eq_emod_iff_emod_sub_eq_zero.2 (Int.emod_eq_zero_of_dvd h4)
  have h6 : ((x ^ e % (p * q) : Nat) : Int) = ((x % (p * q) : Nat) : Int) := by
    rw [Int.natCast_emod, Int.natCast_emod, Int.natCast_pow]
    exact h5
  exact Int.ofNat.inj h6
end Go.Proofs.YtniaeiikdgbnfaaDoor.NT
namespace Go.Proofs.YtniaeiikdgbnfaaDoor.NT
set_option maxRecDepth 100000
theorem pr_10753 : Pr 10753 := pr_small (by decide +kernel)
theorem pr_29 : Pr 29 := pr_small (by decide +kernel)
theorem pc2 : Pr 165897283 :=
  pr_cert 2 143630067 91821716 311837 [10753, 29] (by
    intro q h
    simp only [List.mem_cons, List.not_mem_nil, or_false] at h
    rcases h with rfl | rfl
    · exact pr_10753
    · exact pr_29) (by decide +kernel)
theorem pr_683 : Pr 683 := pr_small (by decide +kernel)
theorem pr_271 : Pr 271 := pr_small (by decide +kernel)
theorem pc5 : Pr 28134137 :=
  pr_cert 1 5610137 17697966 185093 [683, 271] (by
    intro q h
    simp only [List.mem_cons, List.not_mem_nil, or_false] at h
    rcases h with rfl | rfl
    · exact pr_683
    · exact pr_271) (by decide +kernel)
theorem pc6 : Pr 1026822915326949619 :=
  pr_cert 2 144496047993392229 11078077694650316 4667376887849771 [165897283, 28134137] (by
    intro q h
    simp only [List.mem_cons, List.not_mem_nil, or_false] at h
    rcases h with rfl | rfl
    · exact pc2
    · exact pc5) (by decide +kernel)
theorem pc7 : Pr 492788963458751584656841493456441951 :=
  pr_cert 7 131001177733329851917665687089357292 310214100155079144999937114334645104 1026822915326949619 [1026822915326949619] (by
    intro q h
    simp only [List.mem_cons, List.not_mem_nil, or_false] at h
    subst h
    · exact pc6) (by decide +kernel)
theorem pr_3032321 : Pr 3032321 := pr_small (by decide +kernel)
theorem pc9 : Pr 54581777 :=
  pr_cert 3 31228229 41617295 3032321 [3032321] (by
    intro q h
    simp only [List.mem_cons, List.not_mem_nil, or_false] at h
    subst h
    · exact pr_3032321) (by decide +kernel)
theorem pr_46687 : Pr 46687 := pr_small (by decide +kernel)
theorem pc11 : Pr 592893326864952133 :=
  pr_cert 2 114827335319928040 227733156510171999 2548259422799 [54581777, 46687] (by
    intro q h
    simp only [List.mem_cons, List.not_mem_nil, or_false] at h
    rcases h with rfl | rfl
    · exact pc9
    · exact pr_46687) (by decide +kernel)
theorem pc12 : Pr 112289642932016304371756649481332778992551393574107444139052838912955283313407 :=
  pr_cert 3 7103579482537400824979290052751854476951617071428579139246715436686012367699 27736059415247342677139661187806691803486678884029938402951189786505450251020 292171287987390555897471562376262227262374034108131483 [492788963458751584656841493456441951, 592893326864952133] (by
    intro q h
    simp only [List.mem_cons, List.not_mem_nil, or_false] at h
    rcases h with rfl | rfl
    · exact pc7
    · exact pc11) (by decide +kernel)
theorem key0p : Pr 112289642932016304371756649481332778992551393574107444139052838912955283313407 := pc12
theorem pr_288929 : Pr 288929 := pr_small (by decide +kernel)
theorem pr_2089 : Pr 2089 := pr_small (by decide +kernel)
theorem pc15 : Pr 1350795660079 :=
  pr_cert 1 625993300832 51485897312 603572681 [288929, 2089] (by
    intro q h
    simp only [List.mem_cons, List.not_mem_nil, or_false] at h
    rcases h with rfl | rfl
    · exact pr_288929
    · exact pr_2089) (by decide +kernel)
theorem pc16 : Pr 227639086104469775539 :=
  pr_cert 1 57701564349034395745 163245615138989192517 1350795660079 [1350795660079] (by
    intro q h
    simp only [List.mem_cons, List.not_mem_nil, or_false] at h
    subst h
    · exact pc15) (by decide +kernel)
theorem pc17 : Pr 225140049697111845219535652857169198257 :=
  pr_cert 5 167087153558347167951605592732652468021 174262118634749250689749075014274331095 227639086104469775539 [227639086104469775539] (by
    intro q h
    simp only [List.mem_cons, List.not_mem_nil, or_false] at h
    subst h
    · exact pc16) (by decide +kernel)
theorem pc18 : Pr 8527554047588345288234343007959966076213958709267751429337969 :=
  pr_cert 1 3646413338655878434630664446864492968971704369151374274174335 3749843957151713742847659727609968045681358839542371351644241 225140049697111845219535652857169198257 [225140049697111845219535652857169198257] (by
    intro q h
    simp only [List.mem_cons, List.not_mem_nil, or_false] at h
    subst h
    · exact pc17) (by decide +kernel)
theorem pc19 : Pr 112278977878014794934387468732230951909665353991314206570858853383570697513071 :=
  pr_cert 13 88355346342570963914593591859319917511222436824788377302453946175640147506800 55989154460052591407236250686672288865006601273387924343926721999073631876028 8527554047588345288234343007959966076213958709267751429337969 [8527554047588345288234343007959966076213958709267751429337969] (by
    intro q h
    simp only [List.mem_cons, List.not_mem_nil, or_false] at h
    subst h
    · exact pc18) (by decide +kernel)
theorem key0q : Pr 112278977878014794934387468732230951909665353991314206570858853383570697513071 := pc19
theorem pr_1444811 : Pr 1444811 := pr_small (by decide +kernel)
theorem pr_6337 : Pr 6337 := pr_small (by decide +kernel)
theorem pc22 : Pr 8353016089689757229 :=
  pr_cert 2 3407786154558354664 174701336128981973 9155767307 [1444811, 6337] (by
    intro q h
    simp only [List.mem_cons, List.not_mem_nil, or_false] at h
    rcases h with rfl | rfl
    · exact pr_1444811
    · exact pr_6337) (by decide +kernel)
theorem pr_2161 : Pr 2161 := pr_small (by decide +kernel)
theorem pr_59 : Pr 59 := pr_small (by decide +kernel)
theorem pc25 : Pr 718074367 :=
  pr_cert 3 137233864 8974276 127499 [2161, 59] (by
    intro q h
    simp only [List.mem_cons, List.not_mem_nil, or_false] at h
    rcases h with rfl | rfl
    · exact pr_2161
    · exact pr_59) (by decide +kernel)
theorem pc26 : Pr 1534847714027339982290181083694253370739322573 :=
  pr_cert 1 559508146932534856999816308117829863781475946 875162832306538616303581377036179311516126804 5998086741144787648597849043 [8353016089689757229, 718074367] (by
    intro q h
    simp only [List.mem_cons, List.not_mem_nil, or_false] at h
    rcases h with rfl | rfl
    · exact pc22
    · exact pc25) (by decide +kernel)
theorem pc27 : Pr 1038515761502732774290605519516383798236899882625902882727409046197281 :=
  pr_cert 1 378113632436490161560453862315220767939951503748251967842031748117601 922385388720762126488124060754664967260377236973444779351039440845744 1534847714027339982290181083694253370739322573 [1534847714027339982290181083694253370739322573] (by
    intro q h
    simp only [List.mem_cons, List.not_mem_nil, or_false] at h
    subst h
    · exact pc26) (by decide +kernel)
theorem pc28 : Pr 95350817846681796337898091958903254439827423116154551737010290600988810741873 :=
  pr_cert 1 66576564515403129683564306478466007366061782235147841812349481741598433660707 77861286828774085792195799900513895081969861583042550420776514820156970721478 1038515761502732774290605519516383798236899882625902882727409046197281 [1038515761502732774290605519516383798236899882625902882727409046197281] (by
    intro q h
    simp only [List.mem_cons, List.not_mem_nil, or_false] at h
    subst h
    · exact pc27) (by decide +kernel)
theorem key1p : Pr 95350817846681796337898091958903254439827423116154551737010290600988810741873 := pc28
theorem pr_859 : Pr 859 := pr_small (by decide +kernel)
theorem pr_89 : Pr 89 := pr_small (by decide +kernel)
theorem pc31 : Pr 94952141 :=
  pr_cert 2 45105246 43965386 76451 [859, 89] (by
    intro q h
    simp only [List.mem_cons, List.not_mem_nil, or_false] at h
    rcases h with rfl | rfl
    · exact pr_859
    · exact pr_89) (by decide +kernel)
theorem pr_732863 : Pr 732863 := pr_small (by decide +kernel)
theorem pc33 : Pr 11725807 :=
  pr_cert 3 2715961 11519649 732863 [732863] (by
    intro q h
    simp only [List.mem_cons, List.not_mem_nil, or_false] at h
    subst h
    · exact pr_732863) (by decide +kernel)
theorem pc34 : Pr 32094593965029938063 :=
  pr_cert 1 10518773054151512804 27961162761453403045 1113390479602787 [94952141, 11725807] (by
    intro q h
    simp only [List.mem_cons, List.not_mem_nil, or_false] at h
    rcases h with rfl | rfl
    · exact pc31
    · exact pc33) (by decide +kernel)
theorem pr_727 : Pr 727 := pr_small (by decide +kernel)
theorem pr_53 : Pr 53 := pr_small (by decide +kernel)
theorem pc37 : Pr 41613479 :=
  pr_cert 13 24823364 34176678 38531 [727, 53] (by
    intro q h
    simp only [List.mem_cons, List.not_mem_nil, or_false] at h
    rcases h with rfl | rfl
    · exact pr_727
    · exact pr_53) (by decide +kernel)
theorem pr_3583 : Pr 3583 := pr_small (by decide +kernel)
theorem pc39 : Pr 60148872837626369 :=
  pr_cert 3 39382816131873866 40102326210612598 149101095257 [41613479, 3583] (by
    intro q h
    simp only [List.mem_cons, List.not_mem_nil, or_false] at h
    rcases h with rfl | rfl
    · exact pc37
    · exact pr_3583) (by decide +kernel)
theorem pc40 : Pr 555692718004874223235636636675437509973495796542267689 :=
  pr_cert 1 379961202501249082334043263195651347581569933590075205 405338217382074974458049092922476496072951759330777321 1930453651177836428176654932005583247 [32094593965029938063, 60148872837626369] (by
    intro q h
    simp only [List.mem_cons, List.not_mem_nil, or_false] at h
    rcases h with rfl | rfl
    · exact pc34
    · exact pc39) (by decide +kernel)
theorem pc41 : Pr 1115418567277847596135734910066379364479151278834512019221647855759721 :=
  pr_cert 7 995654840057338130983614522909178958977808886624555030693175868730344 425091342657201037133820684378762305068071841468795651541081223096610 555692718004874223235636636675437509973495796542267689 [555692718004874223235636636675437509973495796542267689] (by
    intro q h
    simp only [List.mem_cons, List.not_mem_nil, or_false] at h
    subst h
    · exact pc40) (by decide +kernel)
theorem pc42 : Pr 92279200474456872667267992849871381863045564664392769007913652786505232254317 :=
  pr_cert 2 90666009894787443680321897311693370340741465640645348561515457032365748432879 35177543126583850846829037167672604315705238390031119005365663859531695993917 1115418567277847596135734910066379364479151278834512019221647855759721 [1115418567277847596135734910066379364479151278834512019221647855759721] (by
    intro q h
    simp only [List.mem_cons, List.not_mem_nil, or_false] at h
    subst h
    · exact pc41) (by decide +kernel)
theorem key1q : Pr 92279200474456872667267992849871381863045564664392769007913652786505232254317 := pc42
theorem pr_289397 : Pr 289397 := pr_small (by decide +kernel)
theorem pc44 : Pr 60155218009 :=
  pr_cert 1 52065905504 43388261031 289397 [289397] (by
    intro q h
    simp only [List.mem_cons, List.not_mem_nil, or_false] at h
    subst h
    · exact pr_289397) (by decide +kernel)
theorem pc45 : Pr 24594409510423470313 :=
  pr_cert 5 24109582937782154146 16157968334624334621 60155218009 [60155218009] (by
    intro q h
    simp only [List.mem_cons, List.not_mem_nil, or_false] at h
    subst h
    · exact pc44) (by decide +kernel)
theorem pr_828787 : Pr 828787 := pr_small (by decide +kernel)
theorem pr_8677 : Pr 8677 := pr_small (by decide +kernel)
theorem pc48 : Pr 939309916906183 :=
  pr_cert 3 613570519750924 878475335813869 7191384799 [828787, 8677] (by
    intro q h
    simp only [List.mem_cons, List.not_mem_nil, or_false] at h
    rcases h with rfl | rfl
    · exact pr_828787
    · exact pr_8677) (by decide +kernel)
theorem pr_1381 : Pr 1381 := pr_small (by decide +kernel)
theorem pr_67 : Pr 67 := pr_small (by decide +kernel)
theorem pc51 : Pr 39231449 :=
  pr_cert 1 15698650 21502051 92527 [1381, 67] (by
    intro q h
    simp only [List.mem_cons, List.not_mem_nil, or_false] at h
    rcases h with rfl | rfl
    · exact pr_1381
    · exact pr_67) (by decide +kernel)
theorem pr_1003291 : Pr 1003291 := pr_small (by decide +kernel)
theorem pc53 : Pr 275456583988929329404639160091170951246876035025372700105967520475444382950551953407335146513 :=
  pr_cert 1 170815050723920513067782375008092270547079821205043514988822520730118744635867753922977424533 169201898554331686046887588061726245778977680225207742457238592956805712675548320712118432880 909298705612631776800951403665661556496444980861 [24594409510423470313, 939309916906183, 39231449, 1003291] (by
    intro q h
    simp only [List.mem_cons, List.not_mem_nil, or_false] at h
    rcases h with rfl | rfl | rfl | rfl
    · exact pc45
    · exact pc48
    · exact pc51
    · exact pr_1003291) (by decide +kernel)
theorem pc54 : Pr 6680671347182751099543217331186744211243817307718669810088012033787107442759234135595372130229011616028798659664920610347386251708445263137 :=
  pr_cert 3 5941804986902971576685076487438348268951987240319383948804458905597166521188514502565885985241460598382585478019609971456543034969334092184 2723790721037790933019425910837363782552098640009784038789337301158230948863615111748446358322579456643761493148047176383502729893752726114 275456583988929329404639160091170951246876035025372700105967520475444382950551953407335146513 [275456583988929329404639160091170951246876035025372700105967520475444382950551953407335146513] (by
    intro q h
    simp only [List.mem_cons, List.not_mem_nil, or_false] at h
    subst h
    · exact pc53) (by decide +kernel)
theorem pc55 : Pr 66806713471827510995432173311867442112438173077186698100880120337871074427592341355953721302290116160287986596649206103473862517084452631369 :=
  pr_cert 7 35828897756634454786480456921657792948505444346107426398203463518854039192224919431635535281281244425491165443836967447730850103236446116820 59728946622668977597331957539525380854843268977075568256495809614362198623510763279037361161797834220343560613326650122447640444823207595133 6680671347182751099543217331186744211243817307718669810088012033787107442759234135595372130229011616028798659664920610347386251708445263137 [6680671347182751099543217331186744211243817307718669810088012033787107442759234135595372130229011616028798659664920610347386251708445263137] (by
    intro q h
    simp only [List.mem_cons, List.not_mem_nil, or_false] at h
    subst h
    · exact pc54) (by decide +kernel)
theorem pc56 : Pr 12329477222992863067035609111604184371805710698277106172196551772303302632927049457756976661843525144868265139576196260095675556062881725217631014058728183 :=
  pr_cert 3 8529708345183094467877569013384394968115981232916083373763677818564578677933445626327313602758592090405973012535283627520745839452044793812585216423411623 7892599258490464866810744908546452780648784501145905972928062978459392119155397784778196866597249421798517622683938457351251267064031458384668977219369322 66806713471827510995432173311867442112438173077186698100880120337871074427592341355953721302290116160287986596649206103473862517084452631369 [66806713471827510995432173311867442112438173077186698100880120337871074427592341355953721302290116160287986596649206103473862517084452631369] (by
    intro q h
    simp only [List.mem_cons, List.not_mem_nil, or_false] at h
    subst h
    · exact pc55) (by decide +kernel)
theorem key2p : Pr 12329477222992863067035609111604184371805710698277106172196551772303302632927049457756976661843525144868265139576196260095675556062881725217631014058728183 := pc56
end Go.Proofs.YtniaeiikdgbnfaaDoor.NT
namespace Go.Proofs.YtniaeiikdgbnfaaDoor.NT
set_option linter.unusedSimpArgs false
set_option linter.unusedVariables false

def evp : List Int → Int → Int
  | [], _ => 0
  | c :: r, x => c + x * evp r x
def addP : List Int → List Int → List Int
  | [], q => q
  | p, [] => p
  | a :: p, b :: q => (a + b) :: addP p q
def linP (u : Int) (p : List Int) : List Int := addP (p.map (u * ·)) (0 :: p)
def hb (n u : Int) (B : List Int) : List Int → List Int
  | [] => B
  | a :: as => addP [a * n ^ (as.length + 1)] (linP u (hb n u B as))
def bdP : List Int → Nat → Nat
  | [], _ => 0
  | c :: r, X => c.natAbs + X * bdP r X

theorem ev_add : ∀ (p q : List Int) (x : Int), evp (addP p q) x = evp p x + evp q x
  | [], q, x => by simp [addP, evp]
  | a :: p, [], x => by simp [addP, evp]
  | a :: p, b :: q, x => by simp only [addP, evp, ev_add p q x]; grind
theorem ev_scale (u : Int) (x : Int) : ∀ p : List Int, evp (p.map (u * ·)) x = u * evp p x
  | [] => by simp [evp]
  | a :: p => by simp only [List.map_cons, evp, ev_scale u x p]; grind
theorem ev_lin (u : Int) (p : List Int) (x : Int) : evp (linP u p) x = (x + u) * evp p x := by
  unfold linP
  rw [ev_add, ev_scale]
  simp only [evp]
  grind
theorem hb_dvd {r n u : Int} {m : Int} (h1 : r ∣ n) (h2 : r ∣ m + u) (B : List Int) : ∀ as : List Int, r ^ as.length ∣ evp (hb n u B as) m
  | [] => by simp
  | a :: as => by
    simp only [hb, List.length_cons]
    rw [ev_add, ev_lin]
    refine Int.dvd_add ?_ ?_
    · simp only [evp, Int.mul_zero, Int.add_zero]
      obtain ⟨c, hc⟩ := h1
      exact ⟨a * c ^ (as.length + 1), by rw [hc, Int.mul_pow]; grind⟩
    · rw [Int.pow_succ, Int.mul_comm (r ^ as.length)]
      exact Int.mul_dvd_mul h2 (hb_dvd h1 h2 B as)
theorem bd_le {X : Nat} : ∀ (p : List Int) (m : Nat), m ≤ X → (evp p m).natAbs ≤ bdP p X
  | [], m, _ => by simp [evp, bdP]
  | c :: p, m, h => by
    have ih := bd_le p m h
    simp only [evp, bdP]
    have h1 := Int.natAbs_add_le c ((m : Int) * evp p m)
    rw [Int.natAbs_mul, Int.natAbs_natCast] at h1
    have h2 : m * (evp p m).natAbs ≤ X * bdP p X := Nat.mul_le_mul h ih
    omega
theorem ev_mod (l : Int) (x y : Int) (h : l ∣ x - y) : ∀ p : List Int, l ∣ evp p x - evp p y
  | [] => by simp [evp]
  | c :: p => by
    obtain ⟨d, hd⟩ := ev_mod l x y h p
    obtain ⟨e, he⟩ := h
    simp only [evp]
    exact ⟨e * evp p x + y * d, by grind⟩

def okR (n S R u lo hi : Nat) (as B : List Int) (l : Nat) : Bool :=
  (S * u) % n == R % n && Nat.gcd S n == 1 && Nat.blt (bdP (hb n u B as) ((hi - R) / S)) (lo ^ as.length) && Nat.blt 0 l &&
    (List.range l).all fun y => evp (hb n u B as) y % l != 0

theorem no_div {n S R u lo hi l : Nat} {as B : List Int} (h : okR n S R u lo hi as B l = true) (r : Nat) (hr : Pr r) (hrn : r ∣ n) (hc : r % S = R) (h1 : lo ≤ r) (h2 : r < hi) : False := by
  unfold okR at h
  simp only [Bool.and_eq_true, beq_iff_eq, Nat.blt_eq] at h
  obtain ⟨⟨⟨⟨e1, e2⟩, e3⟩, e4⟩, e5⟩ := h
  obtain ⟨m, hm⟩ : ∃ m, r = R + S * m := ⟨r / S, by rw [← hc, Nat.add_comm]; exact (Nat.div_add_mod r S).symm⟩
  have hS : 0 < S := by
    rcases Nat.eq_zero_or_pos S with h | h
    · subst h
      simp at hm
      subst hm
      rw [Nat.gcd_zero_left] at e2
      subst e2
      have := Nat.le_of_dvd (by decide) hrn
      have := hr.1
      omega
    · exact h
  have hmX : m ≤ (hi - R) / S := by
    rw [Nat.le_div_iff_mul_le hS, Nat.mul_comm]
    omega
  have d1 : (r : Int) ∣ (n : Int) := Int.natCast_dvd_natCast.2 hrn
  have d2 : (r : Int) ∣ (m : Int) + u := by
    have a1 : ((S * u : Nat) : Int) % (n : Int) = ((R : Nat) : Int) % (n : Int) := by rw [← Int.natCast_emod, ← Int.natCast_emod, e1]
    have a2 : (n : Int) ∣ ((S * u : Nat) : Int) - (R : Int) := Int.dvd_of_emod_eq_zero (Int.emod_eq_emod_iff_emod_sub_eq_zero.1 a1)
    obtain ⟨c, hcc⟩ := Int.dvd_trans d1 a2
    have a3 : (r : Int) ∣ (S : Int) * ((m : Int) + u) := by
      refine ⟨1 + c, ?_⟩
      have hm' : (r : Int) = R + S * m := by rw [hm]; push_cast; rfl
      push_cast at hcc
      grind
    rcases hr.mulI a3 with h | h
    · have h3 := Nat.dvd_gcd (Int.natCast_dvd_natCast.1 h) hrn
      rw [e2] at h3
      have := Nat.le_of_dvd (by decide) h3
      have := hr.1
      omega
    · exact h
  have d3 := hb_dvd d1 d2 B as
  have d4 : r ^ as.length ∣ (evp (hb n u B as) m).natAbs := by
    have : ((r ^ as.length : Nat) : Int) ∣ evp (hb n u B as) m := by rw [Int.natCast_pow]; exact d3
    exact Int.ofNat_dvd_left.1 this
  have d5 : (evp (hb n u B as) m).natAbs < r ^ as.length :=
    Nat.lt_of_le_of_lt (bd_le _ m hmX) (Nat.lt_of_lt_of_le e3 (Nat.pow_le_pow_left h1 _))
  have d6 : evp (hb n u B as) m = 0 := by
    rcases Nat.eq_zero_or_pos (evp (hb n u B as) m).natAbs with h | h
    · exact Int.natAbs_eq_zero.1 h
    · have := Nat.le_of_dvd h d4
      omega
  have d7 : ((l : Nat) : Int) ∣ (m : Int) - ((m % l : Nat) : Int) := by
    have := Nat.div_add_mod m l
    refine ⟨((m / l : Nat) : Int), ?_⟩
    have h : ((l * (m / l) + m % l : Nat) : Int) = m := by rw [this]
    rw [Int.natCast_add, Int.natCast_mul] at h
    omega
  have d8 := ev_mod l m ((m % l : Nat) : Int) d7 (hb n u B as)
  rw [d6] at d8
  have d9 := List.all_eq_true.1 e5 (m % l) (List.mem_range.2 (Nat.mod_lt _ e4))
  simp only [bne_iff_ne, ne_eq] at d9
  refine d9 (Int.emod_eq_zero_of_dvd ?_)
  obtain ⟨c, hcc⟩ := d8
  exact ⟨-c, by rw [Int.mul_neg, ← hcc]; omega⟩

/-- The remainders that a prime divisor may have. -/
def okO (n D a b s : Nat) (qs : List Nat) : Bool :=
  n % 2 == 1 && a * a % n == (D * (b * b) + 1) % n && Nat.gcd D n == 1 && s == pl qs && Nat.blt 1 s && Nat.blt s (2 ^ 600) && pn n D 600 a b s 1 0 == (1, 0) &&
    qs.all fun q => Nat.gcd (pn n D 600 a b (s / q) 1 0).2 n == 1 || Nat.gcd ((pn n D 600 a b (s / q) 1 0).1 + n - 1) n == 1

theorem frob1 {r : Nat} (hr : Pr r) (hodd : r % 2 = 1) (a b : Nat) : cq r (pq 1 ((a : Int), (b : Int)) r) ((a : Int), (b : Int)) := by
  obtain ⟨k, hk⟩ : ∃ k, r = 2 * k + 1 := ⟨r / 2, by omega⟩
  have h1 := frob hr 1 ((a : Int), 0) (0, (b : Int))
  have e : aq ((a : Int), 0) (0, (b : Int)) = ((a : Int), (b : Int)) := by apply Prod.ext <;> simp [aq]
  rw [e] at h1
  have h2 : pq 1 (0, (b : Int)) r = (0, (b : Int) ^ r) := by
    have := pq_right 1 (b : Int) k
    rw [Int.one_pow, Int.mul_one, ← hk] at this
    exact this
  rw [h2, pq_left] at h1
  obtain ⟨ca, hca⟩ := fermat hr a
  obtain ⟨cb, hcb⟩ := fermat hr b
  obtain ⟨u, hu⟩ := h1.1
  obtain ⟨v, hv⟩ := h1.2
  simp only [aq] at hu hv
  generalize pq 1 ((a : Int), (b : Int)) r = Z at hu hv ⊢
  exact ⟨⟨u + ca, by simp only; grind⟩, ⟨v + cb, by simp only; grind⟩⟩

theorem ord_cert {n D a b s : Nat} {qs : List Nat} (hq : ∀ q ∈ qs, Pr q) (h : okO n D a b s qs = true) (r : Nat) (hr : Pr r) (hrn : r ∣ n) : (s ∣ r - 1 ∨ s ∣ r + 1) ∧ (D = 1 → s ∣ r - 1) := by
  unfold okO at h
  simp only [Bool.and_eq_true, beq_iff_eq, Nat.blt_eq] at h
  obtain ⟨⟨⟨⟨⟨⟨⟨h1, h2⟩, h3⟩, h4⟩, h5⟩, h5'⟩, h7⟩, h8⟩ := h
  have hs : cq n (pq D ((a : Int), (b : Int)) s) (1, 0) := by
    have := pn_eq n D 600 a b s 1 0 h5'
    rw [h7] at this
    have e : mq D (((1 : Nat) : Int), ((0 : Nat) : Int)) (pq D ((a : Int), (b : Int)) s) = pq D ((a : Int), (b : Int)) s := one_mq _ _
    rw [e] at this
    exact this.symm
  have hn0 : 0 < n := by omega
  have hu : ∀ r q, Pr r → r ∣ n → Pr q → q ∣ s → ¬ cq r (pq D ((a : Int), (b : Int)) (s / q)) (1, 0) := fun r q hr hrn hqp hqs => by
    rw [h4] at hqs
    have hm := pl_mem hqp qs hq hqs
    have h9 := List.all_eq_true.1 h8 q hm
    simp only [Bool.or_eq_true, beq_iff_eq] at h9
    intro hc
    have hlt : s / q < 2 ^ 600 := Nat.lt_of_le_of_lt (Nat.div_le_self _ _) h5'
    have hp := (pn_eq n D 600 a b (s / q) 1 0 hlt).of_dvd hrn
    have e : mq D (((1 : Nat) : Int), ((0 : Nat) : Int)) (pq D ((a : Int), (b : Int)) (s / q)) = pq D ((a : Int), (b : Int)) (s / q) := one_mq _ _
    rw [e] at hp
    obtain ⟨k1, k2⟩ := hp.trans hc
    have hr1 := hr.1
    rcases h9 with h9 | h9
    · have : r ∣ (pn n D 600 a b (s / q) 1 0).2 := by
        have : (r : Int) ∣ ((pn n D 600 a b (s / q) 1 0).2 : Int) := by simpa using k2
        exact Int.natCast_dvd_natCast.1 this
      have := Nat.dvd_gcd this hrn
      rw [h9] at this
      have := Nat.le_of_dvd (by decide) this
      omega
    · have : r ∣ (pn n D 600 a b (s / q) 1 0).1 + n - 1 := by
        have h10 : (r : Int) ∣ (((pn n D 600 a b (s / q) 1 0).1 : Int) - 1) + n := Int.dvd_add k1 (Int.natCast_dvd_natCast.2 hrn)
        have h11 : (((pn n D 600 a b (s / q) 1 0).1 + n - 1 : Nat) : Int) = (((pn n D 600 a b (s / q) 1 0).1 : Int) - 1) + n := by omega
        rw [← h11] at h10
        exact Int.natCast_dvd_natCast.1 h10
      have := Nat.dvd_gcd this hrn
      rw [h9] at this
      have := Nat.le_of_dvd (by decide) this
      omega
  refine ⟨lucas (by omega) h1 h2 h3 hs hu r hr hrn, fun hD => ?_⟩
  subst hD
  have hro : r % 2 = 1 := by
    obtain ⟨c, hc⟩ := hrn
    rcases Nat.mod_two_eq_zero_or_one r with h | h
    · rw [hc, Nat.mul_mod, h] at h1; simp at h1
    · exact h
  have hN : cq r (mq 1 ((a : Int), (b : Int)) (cj ((a : Int), (b : Int)))) (1, 0) := by
    have h1 : ((a * a : Nat) : Int) % (n : Int) = ((1 * (b * b) + 1 : Nat) : Int) % (n : Int) := by rw [← Int.natCast_emod, ← Int.natCast_emod, h2]
    have h2 : (n : Int) ∣ ((a * a : Nat) : Int) - ((1 * (b * b) + 1 : Nat) : Int) := Int.dvd_of_emod_eq_zero (Int.emod_eq_emod_iff_emod_sub_eq_zero.1 h1)
    obtain ⟨c, hc⟩ := Int.dvd_trans (Int.natCast_dvd_natCast.2 hrn) h2
    push_cast at hc
    refine ⟨⟨c, ?_⟩, ⟨0, ?_⟩⟩ <;> simp only [mq, cj] <;> grind
  refine ord (by omega) (hs.of_dvd hrn) ?_ (fun q => hu r q hr hrn)
  obtain ⟨m, hm⟩ : ∃ m, r = m + 1 := ⟨r - 1, by have := hr.1; omega⟩
  have h := frob1 hr hro a b
  have h1 := h.mul (D := 1) (cq.refl r (cj ((a : Int), (b : Int))))
  have e : pq 1 ((a : Int), (b : Int)) r = mq 1 (pq 1 ((a : Int), (b : Int)) (r - 1)) ((a : Int), (b : Int)) := by rw [hm]; rfl
  rw [e, mq_assoc] at h1
  have h2 := (cq.refl r (pq 1 ((a : Int), (b : Int)) (r - 1))).mul (D := 1) hN
  rw [mq_one] at h2
  exact h2.symm.trans (h1.trans hN)

theorem cls_key {m1 s2 r R : Nat} (hc : Nat.Coprime m1 s2) (hR : R < m1 * s2) (a : (m1 : Int) ∣ (r : Int) - R) (b : (s2 : Int) ∣ (r : Int) - R) : r % (m1 * s2) = R := by
  have c : m1 * s2 ∣ ((r : Int) - R).natAbs := hc.mul_dvd_of_dvd_of_dvd (Int.ofNat_dvd_left.1 a) (Int.ofNat_dvd_left.1 b)
  have d : ((m1 * s2 : Nat) : Int) ∣ (r : Int) - R := Int.ofNat_dvd_left.2 c
  have e := Int.emod_eq_emod_iff_emod_sub_eq_zero.2 (Int.emod_eq_zero_of_dvd d)
  rw [← Int.natCast_emod, ← Int.natCast_emod] at e
  have f := Int.ofNat.inj e
  rw [f, Nat.mod_eq_of_lt hR]
theorem cls_gen {m1 s2 S R r : Nat} (hS : S = m1 * s2) (hc : Nat.Coprime m1 s2) (hr1 : 1 < r) (g1 : m1 ∣ r - 1) (g2 : s2 ∣ r - 1 ∨ s2 ∣ r + 1) (h1R : 1 ≤ R) (hRm : (R - 1) % m1 = 0) (hRs : (R + 1) % s2 = 0) (hR : R < S) (h1S : 1 < S) :
    r % S = 1 ∨ r % S = R := by
  subst hS
  have nat_sub : ∀ {m x : Nat}, 1 ≤ x → m ∣ x - 1 → (m : Int) ∣ (x : Int) - 1 := fun {m x} h h2 => by
    obtain ⟨c, hc⟩ := h2
    have : ((x - 1 : Nat) : Int) = ((m * c : Nat) : Int) := by rw [hc]
    rw [Int.natCast_mul] at this
    exact ⟨c, by omega⟩
  have nat_add : ∀ {m x : Nat}, m ∣ x + 1 → (m : Int) ∣ (x : Int) + 1 := fun {m x} h2 => by
    obtain ⟨c, hc⟩ := h2
    have : ((x + 1 : Nat) : Int) = ((m * c : Nat) : Int) := by rw [hc]
    rw [Int.natCast_mul] at this
    exact ⟨c, by omega⟩
  have a1 := nat_sub (show 1 ≤ r by omega) g1
  have a2 := nat_sub h1R (Nat.dvd_of_mod_eq_zero hRm)
  have a3 := nat_add (Nat.dvd_of_mod_eq_zero hRs)
  rcases g2 with h | h
  · left
    refine cls_key hc h1S ?_ ?_
    · exact a1
    · exact nat_sub (show 1 ≤ r by omega) h
  · right
    have b1 := nat_add h
    refine cls_key hc hR ?_ ?_
    · have := Int.dvd_sub a1 a2
      have e : (r : Int) - 1 - ((R : Int) - 1) = (r : Int) - R := by omega
      rwa [e] at this
    · have := Int.dvd_sub b1 a3
      have e : (r : Int) + 1 - ((R : Int) + 1) = (r : Int) - R := by omega
      rwa [e] at this
theorem small {r S R : Nat} (h : r % S = R) (hlt : r < S) : r = R := by rw [← h, Nat.mod_eq_of_lt hlt]
theorem no_one {r S : Nat} (h1 : 1 < r) (h : r % S = 1) (hlt : r < S) : False := by
  have := small h hlt
  omega
theorem no_res {r S R n : Nat} (h : r % S = R) (hlt : r < S) (hd : r ∣ n) (hn : (n % R == 0) = false) : False := by
  have := small h hlt
  subst this
  rw [Nat.mod_eq_zero_of_dvd hd] at hn
  simp at hn
theorem above {r hi n : Nat} (h : hi ≤ r) (h2 : Nat.blt n (hi * hi) = true) : n < r * r :=
  Nat.lt_of_lt_of_le (by rwa [Nat.blt_eq] at h2) (Nat.mul_le_mul h h)
end Go.Proofs.YtniaeiikdgbnfaaDoor.NT
