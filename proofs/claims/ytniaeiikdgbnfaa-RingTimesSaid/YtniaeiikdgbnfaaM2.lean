/- Plain law, part 2: the short product. -/
import Derived.Test.YtniaeiikdgbnfaaM1
namespace Go.Proofs.Ytniaeiikdgbnfaa.R
set_option linter.unusedVariables false

theorem vstep (xs : List Int) : val xs = xs.getD 0 0 + 4294967296 * val xs.tail := by
  cases xs with
  | nil => simp [val]
  | cons x xs => simp [val]

/-- The lowest limb goes out. -/
theorem mont_zero {us1 us2 n : List Int} {c n0 : Int} {w : Nat} (hu : wfl us2) (h : val us2 + pw (w + 1) * c = val us1 + (us1.getD 0 0 * n0) % 4294967296 * val n) (hinv : (n.getD 0 0 * n0 + 1) % 4294967296 = 0) : us2.getD 0 0 = 0 := by
  have h0 := hu.get 0
  have e1 := vstep us2
  have e2 := vstep us1
  have e3 := vstep n
  have e4 : (us1.getD 0 0 * n0) % 4294967296 = us1.getD 0 0 * n0 - 4294967296 * ((us1.getD 0 0 * n0) / 4294967296) := by omega
  have e5 : n.getD 0 0 * n0 + 1 = 4294967296 * ((n.getD 0 0 * n0 + 1) / 4294967296) := by omega
  rw [e4] at h
  rw [pw_succ] at h
  generalize us1.getD 0 0 * n0 / 4294967296 = k at *
  generalize (n.getD 0 0 * n0 + 1) / 4294967296 = e at *
  generalize us2.getD 0 0 = u at *
  generalize us1.getD 0 0 = t at *
  generalize n.getD 0 0 = m at *
  generalize val us2.tail = a at *
  generalize val us1.tail = b at *
  generalize val n.tail = d at *
  have : u = 4294967296 * (t * e - k * m + b + (t * n0 - 4294967296 * k) * d - a - pw w * c) := by grind
  omega

theorem mont_round {l us1 us3 : List Int} {p c1 c2 x q B N : Int} {w : Nat} (hl3 : us3.length = w) (r1 : val us1 + pw (w + 1) * c1 = val l + x * B) (r2 : val (0 :: us3) + pw (w + 1) * c2 = val us1 + q * N) :
    4294967296 * (val (us3 ++ [((p + c1) % 4294967296 + c2) % 4294967296]) + pw (w + 1) * ((p + c1) / 4294967296 + ((p + c1) % 4294967296 + c2) / 4294967296)) = val l + pw (w + 1) * p + x * B + q * N := by
  rw [val_snoc, hl3]
  simp only [val, pw_succ] at *
  have e1 : (p + c1) % 4294967296 = p + c1 - 4294967296 * ((p + c1) / 4294967296) := by omega
  generalize (p + c1) / 4294967296 = k1 at *
  rw [e1]
  have e2 : (p + c1 - 4294967296 * k1 + c2) % 4294967296 = p + c1 - 4294967296 * k1 + c2 - 4294967296 * ((p + c1 - 4294967296 * k1 + c2) / 4294967296) := by omega
  generalize (p + c1 - 4294967296 * k1 + c2) / 4294967296 = k2 at *
  rw [e2]
  grind

theorem mont_inv {T T' A B N Q x q : Int} (i : Nat) (h : pw i * T = A * B + Q * N) (hr : 4294967296 * T' = T + x * B + q * N) : pw (i + 1) * T' = (A + pw i * x) * B + (Q + pw i * q) * N := by
  rw [pw_succ]
  grind

theorem mont_bound {Q q : Int} (i : Nat) (h : 0 ≤ Q ∧ Q < pw i) (hq : 0 ≤ q ∧ q < 4294967296) : 0 ≤ Q + pw i * q ∧ Q + pw i * q < pw (i + 1) := by
  have hp := pw_pos i
  have h1 : 0 ≤ pw i * q := Int.mul_nonneg (by omega) hq.1
  have h2 : pw i * q ≤ pw i * 4294967295 := Int.mul_le_mul_of_nonneg_left (by omega) (by omega)
  rw [pw_succ]
  omega

/-- At the end: less than twice the modulus. -/
theorem mont_end {T A B N Q : Int} (w : Nat) (h : pw w * T = A * B + Q * N) (hA : 0 ≤ A ∧ A < pw w) (hQ : 0 ≤ Q ∧ Q < pw w) (hB : 0 ≤ B ∧ B < N) : T < 2 * N := by
  have hp := pw_pos w
  have h1 : A * B ≤ pw w * B := Int.mul_le_mul_of_nonneg_right (by omega) hB.1
  have h2 : Q * N ≤ pw w * N := Int.mul_le_mul_of_nonneg_right (by omega) (by omega)
  have h3 : pw w * B < pw w * N := Int.mul_lt_mul_of_pos_left hB.2 hp
  have h4 : pw w * T < pw w * (2 * N) := by rw [h, show pw w * (2 * N) = pw w * N + pw w * N by grind]; omega
  exact Int.lt_of_mul_lt_mul_left h4 (by omega)

theorem mont_less {l n z : List Int} {p A B Q : Int} {w : Nat} (hl : wfl l) (hll : l.length = w) (hn : wfl n) (hnl : n.length = w) (hz : wfl z) (hzl : z.length = w) (hp : 0 ≤ p)
    (h : pw w * (val l + pw w * p) = A * B + Q * val n) (hA : 0 ≤ A ∧ A < pw w) (hQ : 0 ≤ Q ∧ Q < pw w) (hB : 0 ≤ B ∧ B < val n)
    (hs : if (!decide (p = 0)) = true ∨ val n ≤ val l then val z = (val l - val n) % pw w else z = l) :
    val z < val n ∧ ∃ Q', pw w * val z = A * B + Q' * val n := by
  have hT := mont_end w h hA hQ hB
  have h0 := val_nonneg hl
  have hN := val_lt hn
  rw [hnl] at hN
  have hpw := pw_pos w
  by_cases hc : (!decide (p = 0)) = true ∨ val n ≤ val l
  · rw [if_pos hc] at hs
    have hge : val n ≤ val l + pw w * p := by
      have : 0 ≤ pw w * p := Int.mul_nonneg (by omega) hp
      rcases hc with hc | hc
      · have hp1 : 1 ≤ p := by simp at hc; omega
        have : pw w * 1 ≤ pw w * p := Int.mul_le_mul_of_nonneg_left hp1 (by omega)
        omega
      · omega
    have e : val l - val n = (val l + pw w * p - val n) - pw w * p := by omega
    rw [e, Int.sub_mul_emod_self_left, Int.emod_eq_of_lt (by omega) (by omega)] at hs
    refine ⟨by omega, Q - pw w, ?_⟩
    rw [hs]
    grind
  · rw [if_neg hc] at hs
    have hp0 : p = 0 := by
      rcases Decidable.em (p = 0) with h | h
      · exact h
      · exact (hc (.inl (by simp [h]))).elim
    subst hp0
    subst hs
    refine ⟨by omega, Q, by simpa using h⟩

end Go.Proofs.Ytniaeiikdgbnfaa.R
