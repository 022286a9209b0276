/- The ring's code, part 6: elements, products, powers. -/
import Derived.Test.YtniaeiikdgbnfaaR5
namespace Go.Proofs.Ytniaeiikdgbnfaa.R
open Go Go.RowKit Go.Proofs Go.Proofs.Ytniaeiikdgbnfaa.AW
set_option maxRecDepth 100000
set_option linter.unusedSimpArgs false
set_option linter.unusedVariables false
set_option maxHeartbeats 4000000

/-- What is no element. -/
def notEl (n x : List Int) : Bool := decide (x.length ≠ n.length) || decide (val n ≤ val x)

theorem sgn_nonneg (x y : Int) : 0 ≤ sgn x y ↔ y ≤ x := by
  unfold sgn
  split
  · omega
  · split <;> omega

theorem f43 (n : List Int) (n0 : Int) (rr x : List Int) (hn : wfl n) (hx : wfl x) (hbn : bad n = false) : Imm Try.prog 43 [.d (nat x), .d (.ptr (ringD n n0 rr))] (fun r => r = bool (notEl n x)) := by
  (refine Imm.of_awp told0 [] Try.func43 rfl (by decide) (Nat.le_of_ble_eq_true rfl) ?_; intro _w0 _S0 _E0 _B0; ((conv => whnf); repeat' (first | (refine And.intro ?_ ?_; (focus (first | rfl | decide | assumption | omega | decide +kernel | exact ⟨rfl, rfl⟩ | exact ⟨rfl, rfl, rfl, rfl⟩ | exact fun h => Bool.noConfusion h | exact fun _ => rfl | exact Nat.le_of_ble_eq_true rfl | (simp only [List.length_map, List.length_append, List.length_replicate, List.length_take, List.length_drop, List.length_set, List.length_cons, List.length_nil]; omega))); (conv => whnf)) | ((refine And.intro ?_ ?_ <;> intro _h); all_goals ((first | replace _h := of_decide_eq_true _h | replace _h := of_decide_eq_false _h | skip); (try simp only [Bool.not_eq_true', Bool.not_eq_false', Bool.not_true, Bool.not_false, decide_eq_true_eq, decide_eq_false_iff_not] at _h); (try (guard_hyp _h : True; clear _h)); first | done | contradiction | exact absurd ((Eq.symm _h).trans (show _ = true by assumption)) (by decide) | exact absurd ((Eq.symm _h).trans (show _ = false by assumption)) (by decide) | (conv => whnf))) | (intro _h; ((first | replace _h := of_decide_eq_true _h | replace _h := of_decide_eq_false _h | skip); (try simp only [Bool.not_eq_true', Bool.not_eq_false', Bool.not_true, Bool.not_false, decide_eq_true_eq, decide_eq_false_iff_not] at _h); (try (guard_hyp _h : True; clear _h)); first | done | contradiction | exact absurd ((Eq.symm _h).trans (show _ = true by assumption)) (by decide) | exact absurd ((Eq.symm _h).trans (show _ = false by assumption)) (by decide) | (conv => whnf))))))
  · have hl : x.length = n.length := by omega
    refine acallI (f23 x n hx hn (by unfold bad at hbn ⊢; rw [hl]; exact hbn) hbn) rfl fun r hr => ?_
    subst hr
    ((conv => whnf); repeat' (first | (refine And.intro ?_ ?_; (focus (first | rfl | decide | assumption | omega | decide +kernel | exact ⟨rfl, rfl⟩ | exact ⟨rfl, rfl, rfl, rfl⟩ | exact fun h => Bool.noConfusion h | exact fun _ => rfl | exact Nat.le_of_ble_eq_true rfl | (simp only [List.length_map, List.length_append, List.length_replicate, List.length_take, List.length_drop, List.length_set, List.length_cons, List.length_nil]; omega))); (conv => whnf)) | ((refine And.intro ?_ ?_ <;> intro _h); all_goals ((first | replace _h := of_decide_eq_true _h | replace _h := of_decide_eq_false _h | skip); (try simp only [Bool.not_eq_true', Bool.not_eq_false', Bool.not_true, Bool.not_false, decide_eq_true_eq, decide_eq_false_iff_not] at _h); (try (guard_hyp _h : True; clear _h)); first | done | contradiction | exact absurd ((Eq.symm _h).trans (show _ = true by assumption)) (by decide) | exact absurd ((Eq.symm _h).trans (show _ = false by assumption)) (by decide) | (conv => whnf))) | (intro _h; ((first | replace _h := of_decide_eq_true _h | replace _h := of_decide_eq_false _h | skip); (try simp only [Bool.not_eq_true', Bool.not_eq_false', Bool.not_true, Bool.not_false, decide_eq_true_eq, decide_eq_false_iff_not] at _h); (try (guard_hyp _h : True; clear _h)); first | done | contradiction | exact absurd ((Eq.symm _h).trans (show _ = true by assumption)) (by decide) | exact absurd ((Eq.symm _h).trans (show _ = false by assumption)) (by decide) | (conv => whnf)))))
    refine Ends.imm rfl ?_
    unfold bool notEl
    congr 2
    rw [show decide (x.length ≠ n.length) = false by simp [hl], Bool.false_or, decide_eq_decide]
    exact sgn_nonneg _ _
  · refine Ends.imm rfl ?_
    unfold bool notEl
    congr 2
    rw [show decide (x.length ≠ n.length) = true by simp; omega, Bool.true_or]

def told33 : AW.Told := ⟨fun _ => false, fun r i => if r == 1 && i == 1 then [2] else [], fun _ => .done⟩

theorem f33 (n : List Int) (n0 : Int) (rr : List Int) (xss : List (List Int)) (hn : wfl n) (hxs : ∀ x ∈ xss, wfl x) (hbn : bad n = false) :
    Imm Try.prog 33 [.d (ringD n n0 rr), .d (.sl 1 (xss.map nat))] (fun r => r = bool (!xss.any (notEl n))) := by
  (refine Imm.of_awp told33 [] Try.func33 rfl (by decide) (Nat.le_of_ble_eq_true rfl) ?_; intro _w0 _S0 _E0 _B0; ((conv => whnf); repeat' (first | (refine And.intro ?_ ?_; (focus (first | rfl | decide | assumption | omega | decide +kernel | exact ⟨rfl, rfl⟩ | exact ⟨rfl, rfl, rfl, rfl⟩ | exact fun h => Bool.noConfusion h | exact fun _ => rfl | exact Nat.le_of_ble_eq_true rfl | (simp only [List.length_map, List.length_append, List.length_replicate, List.length_take, List.length_drop, List.length_set, List.length_cons, List.length_nil]; omega))); (conv => whnf)) | ((refine And.intro ?_ ?_ <;> intro _h); all_goals ((first | replace _h := of_decide_eq_true _h | replace _h := of_decide_eq_false _h | skip); (try simp only [Bool.not_eq_true', Bool.not_eq_false', Bool.not_true, Bool.not_false, decide_eq_true_eq, decide_eq_false_iff_not] at _h); (try (guard_hyp _h : True; clear _h)); first | done | contradiction | exact absurd ((Eq.symm _h).trans (show _ = true by assumption)) (by decide) | exact absurd ((Eq.symm _h).trans (show _ = false by assumption)) (by decide) | (conv => whnf))) | (intro _h; ((first | replace _h := of_decide_eq_true _h | replace _h := of_decide_eq_false _h | skip); (try simp only [Bool.not_eq_true', Bool.not_eq_false', Bool.not_true, Bool.not_false, decide_eq_true_eq, decide_eq_false_iff_not] at _h); (try (guard_hyp _h : True; clear _h)); first | done | contradiction | exact absurd ((Eq.symm _h).trans (show _ = true by assumption)) (by decide) | exact absurd ((Eq.symm _h).trans (show _ = false by assumption)) (by decide) | (conv => whnf))))))
  refine acallI (f42 43 [.ptr (ringD n n0 rr)] (notEl n) xss rfl fun x hx => f43 n n0 rr x hn (hxs x hx) hbn) rfl fun r hr => ?_
  subst hr
  ((conv => whnf); repeat' (first | (refine And.intro ?_ ?_; (focus (first | rfl | decide | assumption | omega | decide +kernel | exact ⟨rfl, rfl⟩ | exact ⟨rfl, rfl, rfl, rfl⟩ | exact fun h => Bool.noConfusion h | exact fun _ => rfl | exact Nat.le_of_ble_eq_true rfl | (simp only [List.length_map, List.length_append, List.length_replicate, List.length_take, List.length_drop, List.length_set, List.length_cons, List.length_nil]; omega))); (conv => whnf)) | ((refine And.intro ?_ ?_ <;> intro _h); all_goals ((first | replace _h := of_decide_eq_true _h | replace _h := of_decide_eq_false _h | skip); (try simp only [Bool.not_eq_true', Bool.not_eq_false', Bool.not_true, Bool.not_false, decide_eq_true_eq, decide_eq_false_iff_not] at _h); (try (guard_hyp _h : True; clear _h)); first | done | contradiction | exact absurd ((Eq.symm _h).trans (show _ = true by assumption)) (by decide) | exact absurd ((Eq.symm _h).trans (show _ = false by assumption)) (by decide) | (conv => whnf))) | (intro _h; ((first | replace _h := of_decide_eq_true _h | replace _h := of_decide_eq_false _h | skip); (try simp only [Bool.not_eq_true', Bool.not_eq_false', Bool.not_true, Bool.not_false, decide_eq_true_eq, decide_eq_false_iff_not] at _h); (try (guard_hyp _h : True; clear _h)); first | done | contradiction | exact absurd ((Eq.symm _h).trans (show _ = true by assumption)) (by decide) | exact absurd ((Eq.symm _h).trans (show _ = false by assumption)) (by decide) | (conv => whnf)))))
  exact Ends.imm rfl rfl

/-- What is odd divides no power of 2 out. -/
theorem odd_cancel {n : List Int} {n0 : Int} (hinv : (n.getD 0 0 * n0 + 1) % 4294967296 = 0) : ∃ u v : Int, u * 4294967296 + v * val n = 1 := by
  have e3 := val_step n
  generalize n.getD 0 0 = m at *
  have e5 : m * n0 + 1 = 4294967296 * ((m * n0 + 1) / 4294967296) := by omega
  generalize (m * n0 + 1) / 4294967296 = e at *
  refine ⟨e + n0 * val n.tail, -n0, ?_⟩
  rw [e3]
  grind

theorem pw_cancel {n : List Int} {n0 : Int} (hinv : (n.getD 0 0 * n0 + 1) % 4294967296 = 0) : ∀ w, ∃ u v : Int, u * pw w + v * val n = 1
  | 0 => ⟨1, 0, by simp [pw_zero]⟩
  | w + 1 => by
    obtain ⟨u, v, h⟩ := pw_cancel hinv w
    obtain ⟨u', v', h'⟩ := odd_cancel hinv
    refine ⟨u * u', v + u * pw w * v', ?_⟩
    rw [pw_succ]
    grind

/-- Equal by a power of 2, equal. -/
theorem cancel {n : List Int} {n0 : Int} (hinv : (n.getD 0 0 * n0 + 1) % 4294967296 = 0) {w : Nat} {x y Q : Int} (h : pw w * x = pw w * y + Q * val n) : ∃ Q', x = y + Q' * val n := by
  obtain ⟨u, v, e⟩ := pw_cancel hinv w
  refine ⟨u * Q + v * (x - y), ?_⟩
  grind

theorem mod_eq {N x y Q : Int} (h : x = y + Q * N) (h0 : 0 ≤ x) (h1 : x < N) : x = y % N := by
  have : y = x + -Q * N := by grind
  rw [this, Int.add_mul_emod_self_right, Int.emod_eq_of_lt h0 h1]

theorem times_val {n : List Int} {n0 R A B y z Q0 Q1 Q2 : Int} {w : Nat} (hinv : (n.getD 0 0 * n0 + 1) % 4294967296 = 0) (hz0 : 0 ≤ z) (hz1 : z < val n) (h0 : pw w * pw w = R + Q0 * val n)
    (h1 : pw w * y = A * R + Q1 * val n) (h2 : pw w * z = y * B + Q2 * val n) : z = (A * B) % val n := by
  have e : pw w * (pw w * z) = pw w * (pw w * (A * B)) + (Q1 * B + pw w * Q2 - A * B * Q0) * val n := by grind
  obtain ⟨Q3, e3⟩ := cancel hinv (by
    have : pw (w + w) * z = pw (w + w) * (A * B) + (Q1 * B + pw w * Q2 - A * B * Q0) * val n := by rw [pw_add]; grind
    exact this)
  exact mod_eq e3 hz0 hz1

/-- A ring that is right. -/
structure Ring (n : List Int) (n0 : Int) (rr : List Int) : Prop where
  hn : wfl n
  hbn : bad n = false
  hn0 : 0 ≤ n0 ∧ n0 < 4294967296
  hinv : (n.getD 0 0 * n0 + 1) % 4294967296 = 0
  hr : wfl rr
  hrl : rr.length = n.length
  hrv : val rr < val n
  h1 : 1 < val n
  hrr : ∃ Q, pw n.length * pw n.length = val rr + Q * val n

def told25 : AW.Told := ⟨fun _ => false, fun r i => if r == 1 && i == 4 then [11] else [], fun _ => .done⟩

theorem el_of {n x : List Int} (h : notEl n x = false) : x.length = n.length ∧ val x < val n := by
  unfold notEl at h
  simp at h
  omega

/-- What a product short of a factor is. -/
def shortS (n a b z : List Int) : Prop := z.length = n.length ∧ wfl z ∧ val z < val n ∧ ∃ Q, pw n.length * val z = val a * val b + Q * val n

theorem Ring.short {n : List Int} {n0 : Int} {rr a b : List Int} (h : Ring n n0 rr) (ha : wfl a) (hb : wfl b) (hla : a.length = n.length) (hlb : b.length = n.length) (hbv : val b < val n) :
    Imm Try.prog 34 [.d (ringD n n0 rr), .d (nat a), .d (nat b)] (fun r => ∃ z, r = .d (nat z) ∧ shortS n a b z) :=
  f34 n n0 rr a b h.hn h.hn0 ha hb h.hbn hla hlb h.hinv hbv

theorem f25 (n : List Int) (n0 : Int) (rr a b : List Int) (h : Ring n n0 rr) (ha : wfl a) (hb : wfl b) :
    Imm Try.prog 25 [.d (ringD n n0 rr), .d (nat a), .d (nat b)] (fun r => if notEl n a || notEl n b then r = .tup [.nls (nat []), i64 13] else ∃ z, r = .tup [.d (nat z), i64 0] ∧ shortS n a b z) := by
  (refine Imm.of_awp told25 [] Try.func25 rfl (by decide) (Nat.le_of_ble_eq_true rfl) ?_; intro _w0 _S0 _E0 _B0; ((conv => whnf); repeat' (first | (refine And.intro ?_ ?_; (focus (first | rfl | decide | assumption | omega | decide +kernel | exact ⟨rfl, rfl⟩ | exact ⟨rfl, rfl, rfl, rfl⟩ | exact fun h => Bool.noConfusion h | exact fun _ => rfl | exact Nat.le_of_ble_eq_true rfl | (simp only [List.length_map, List.length_append, List.length_replicate, List.length_take, List.length_drop, List.length_set, List.length_cons, List.length_nil]; omega))); (conv => whnf)) | ((refine And.intro ?_ ?_ <;> intro _h); all_goals ((first | replace _h := of_decide_eq_true _h | replace _h := of_decide_eq_false _h | skip); (try simp only [Bool.not_eq_true', Bool.not_eq_false', Bool.not_true, Bool.not_false, decide_eq_true_eq, decide_eq_false_iff_not] at _h); (try (guard_hyp _h : True; clear _h)); first | done | contradiction | exact absurd ((Eq.symm _h).trans (show _ = true by assumption)) (by decide) | exact absurd ((Eq.symm _h).trans (show _ = false by assumption)) (by decide) | (conv => whnf))) | (intro _h; ((first | replace _h := of_decide_eq_true _h | replace _h := of_decide_eq_false _h | skip); (try simp only [Bool.not_eq_true', Bool.not_eq_false', Bool.not_true, Bool.not_false, decide_eq_true_eq, decide_eq_false_iff_not] at _h); (try (guard_hyp _h : True; clear _h)); first | done | contradiction | exact absurd ((Eq.symm _h).trans (show _ = true by assumption)) (by decide) | exact absurd ((Eq.symm _h).trans (show _ = false by assumption)) (by decide) | (conv => whnf))))))
  refine acallI (f33 n n0 rr [a, b] h.hn (by intro x hx; simp at hx; rcases hx with rfl | rfl <;> assumption) h.hbn) rfl fun r hr => ?_
  subst hr
  ((conv => whnf); repeat' (first | (refine And.intro ?_ ?_; (focus (first | rfl | decide | assumption | omega | decide +kernel | exact ⟨rfl, rfl⟩ | exact ⟨rfl, rfl, rfl, rfl⟩ | exact fun h => Bool.noConfusion h | exact fun _ => rfl | exact Nat.le_of_ble_eq_true rfl | (simp only [List.length_map, List.length_append, List.length_replicate, List.length_take, List.length_drop, List.length_set, List.length_cons, List.length_nil]; omega))); (conv => whnf)) | ((refine And.intro ?_ ?_ <;> intro _h); all_goals ((first | replace _h := of_decide_eq_true _h | replace _h := of_decide_eq_false _h | skip); (try simp only [Bool.not_eq_true', Bool.not_eq_false', Bool.not_true, Bool.not_false, decide_eq_true_eq, decide_eq_false_iff_not] at _h); (try (guard_hyp _h : True; clear _h)); first | done | contradiction | exact absurd ((Eq.symm _h).trans (show _ = true by assumption)) (by decide) | exact absurd ((Eq.symm _h).trans (show _ = false by assumption)) (by decide) | (conv => whnf))) | (intro _h; ((first | replace _h := of_decide_eq_true _h | replace _h := of_decide_eq_false _h | skip); (try simp only [Bool.not_eq_true', Bool.not_eq_false', Bool.not_true, Bool.not_false, decide_eq_true_eq, decide_eq_false_iff_not] at _h); (try (guard_hyp _h : True; clear _h)); first | done | contradiction | exact absurd ((Eq.symm _h).trans (show _ = true by assumption)) (by decide) | exact absurd ((Eq.symm _h).trans (show _ = false by assumption)) (by decide) | (conv => whnf)))))
  · simp at _h
    refine Ends.imm rfl ?_
    rw [if_pos (by simp; omega)]
  · simp at _h
    obtain ⟨ha1, ha2⟩ := el_of _h.1
    obtain ⟨hb1, hb2⟩ := el_of _h.2
    refine acallI (h.short ha hb ha1 hb1 hb2) rfl fun r hr => ?_
    obtain ⟨z, rfl, hz⟩ := hr
    ((conv => whnf); repeat' (first | (refine And.intro ?_ ?_; (focus (first | rfl | decide | assumption | omega | decide +kernel | exact ⟨rfl, rfl⟩ | exact ⟨rfl, rfl, rfl, rfl⟩ | exact fun h => Bool.noConfusion h | exact fun _ => rfl | exact Nat.le_of_ble_eq_true rfl | (simp only [List.length_map, List.length_append, List.length_replicate, List.length_take, List.length_drop, List.length_set, List.length_cons, List.length_nil]; omega))); (conv => whnf)) | ((refine And.intro ?_ ?_ <;> intro _h); all_goals ((first | replace _h := of_decide_eq_true _h | replace _h := of_decide_eq_false _h | skip); (try simp only [Bool.not_eq_true', Bool.not_eq_false', Bool.not_true, Bool.not_false, decide_eq_true_eq, decide_eq_false_iff_not] at _h); (try (guard_hyp _h : True; clear _h)); first | done | contradiction | exact absurd ((Eq.symm _h).trans (show _ = true by assumption)) (by decide) | exact absurd ((Eq.symm _h).trans (show _ = false by assumption)) (by decide) | (conv => whnf))) | (intro _h; ((first | replace _h := of_decide_eq_true _h | replace _h := of_decide_eq_false _h | skip); (try simp only [Bool.not_eq_true', Bool.not_eq_false', Bool.not_true, Bool.not_false, decide_eq_true_eq, decide_eq_false_iff_not] at _h); (try (guard_hyp _h : True; clear _h)); first | done | contradiction | exact absurd ((Eq.symm _h).trans (show _ = true by assumption)) (by decide) | exact absurd ((Eq.symm _h).trans (show _ = false by assumption)) (by decide) | (conv => whnf)))))
    refine Ends.imm rfl ?_
    rw [if_neg (by simp [_h])]
    exact ⟨z, rfl, hz⟩

/-- A product. -/
theorem f22 (n : List Int) (n0 : Int) (rr a b : List Int) (h : Ring n n0 rr) (ha : wfl a) (hb : wfl b) :
    Imm Try.prog 22 [.d (ringD n n0 rr), .d (nat a), .d (nat b)] (fun r => if notEl n a || notEl n b then r = .tup [.nls (nat []), i64 13] else ∃ z, r = .tup [.d (nat z), i64 0] ∧ z.length = n.length ∧ wfl z ∧ val z = (val a * val b) % val n) := by
  (refine Imm.of_awp told25 [] Try.func22 rfl (by decide) (Nat.le_of_ble_eq_true rfl) ?_; intro _w0 _S0 _E0 _B0; ((conv => whnf); repeat' (first | (refine And.intro ?_ ?_; (focus (first | rfl | decide | assumption | omega | decide +kernel | exact ⟨rfl, rfl⟩ | exact ⟨rfl, rfl, rfl, rfl⟩ | exact fun h => Bool.noConfusion h | exact fun _ => rfl | exact Nat.le_of_ble_eq_true rfl | (simp only [List.length_map, List.length_append, List.length_replicate, List.length_take, List.length_drop, List.length_set, List.length_cons, List.length_nil]; omega))); (conv => whnf)) | ((refine And.intro ?_ ?_ <;> intro _h); all_goals ((first | replace _h := of_decide_eq_true _h | replace _h := of_decide_eq_false _h | skip); (try simp only [Bool.not_eq_true', Bool.not_eq_false', Bool.not_true, Bool.not_false, decide_eq_true_eq, decide_eq_false_iff_not] at _h); (try (guard_hyp _h : True; clear _h)); first | done | contradiction | exact absurd ((Eq.symm _h).trans (show _ = true by assumption)) (by decide) | exact absurd ((Eq.symm _h).trans (show _ = false by assumption)) (by decide) | (conv => whnf))) | (intro _h; ((first | replace _h := of_decide_eq_true _h | replace _h := of_decide_eq_false _h | skip); (try simp only [Bool.not_eq_true', Bool.not_eq_false', Bool.not_true, Bool.not_false, decide_eq_true_eq, decide_eq_false_iff_not] at _h); (try (guard_hyp _h : True; clear _h)); first | done | contradiction | exact absurd ((Eq.symm _h).trans (show _ = true by assumption)) (by decide) | exact absurd ((Eq.symm _h).trans (show _ = false by assumption)) (by decide) | (conv => whnf))))))
  refine acallI (f33 n n0 rr [a, b] h.hn (by intro x hx; simp at hx; rcases hx with rfl | rfl <;> assumption) h.hbn) rfl fun r hr => ?_
  subst hr
  ((conv => whnf); repeat' (first | (refine And.intro ?_ ?_; (focus (first | rfl | decide | assumption | omega | decide +kernel | exact ⟨rfl, rfl⟩ | exact ⟨rfl, rfl, rfl, rfl⟩ | exact fun h => Bool.noConfusion h | exact fun _ => rfl | exact Nat.le_of_ble_eq_true rfl | (simp only [List.length_map, List.length_append, List.length_replicate, List.length_take, List.length_drop, List.length_set, List.length_cons, List.length_nil]; omega))); (conv => whnf)) | ((refine And.intro ?_ ?_ <;> intro _h); all_goals ((first | replace _h := of_decide_eq_true _h | replace _h := of_decide_eq_false _h | skip); (try simp only [Bool.not_eq_true', Bool.not_eq_false', Bool.not_true, Bool.not_false, decide_eq_true_eq, decide_eq_false_iff_not] at _h); (try (guard_hyp _h : True; clear _h)); first | done | contradiction | exact absurd ((Eq.symm _h).trans (show _ = true by assumption)) (by decide) | exact absurd ((Eq.symm _h).trans (show _ = false by assumption)) (by decide) | (conv => whnf))) | (intro _h; ((first | replace _h := of_decide_eq_true _h | replace _h := of_decide_eq_false _h | skip); (try simp only [Bool.not_eq_true', Bool.not_eq_false', Bool.not_true, Bool.not_false, decide_eq_true_eq, decide_eq_false_iff_not] at _h); (try (guard_hyp _h : True; clear _h)); first | done | contradiction | exact absurd ((Eq.symm _h).trans (show _ = true by assumption)) (by decide) | exact absurd ((Eq.symm _h).trans (show _ = false by assumption)) (by decide) | (conv => whnf)))))
  · simp at _h
    refine Ends.imm rfl ?_
    rw [if_pos (by simp; omega)]
  · simp at _h
    obtain ⟨ha1, ha2⟩ := el_of _h.1
    obtain ⟨hb1, hb2⟩ := el_of _h.2
    refine acallI (h.short ha h.hr ha1 h.hrl h.hrv) rfl fun r hr => ?_
    obtain ⟨y, rfl, hy1, hy2, hy3, Q1, hy4⟩ := hr
    ((conv => whnf); repeat' (first | (refine And.intro ?_ ?_; (focus (first | rfl | decide | assumption | omega | decide +kernel | exact ⟨rfl, rfl⟩ | exact ⟨rfl, rfl, rfl, rfl⟩ | exact fun h => Bool.noConfusion h | exact fun _ => rfl | exact Nat.le_of_ble_eq_true rfl | (simp only [List.length_map, List.length_append, List.length_replicate, List.length_take, List.length_drop, List.length_set, List.length_cons, List.length_nil]; omega))); (conv => whnf)) | ((refine And.intro ?_ ?_ <;> intro _h); all_goals ((first | replace _h := of_decide_eq_true _h | replace _h := of_decide_eq_false _h | skip); (try simp only [Bool.not_eq_true', Bool.not_eq_false', Bool.not_true, Bool.not_false, decide_eq_true_eq, decide_eq_false_iff_not] at _h); (try (guard_hyp _h : True; clear _h)); first | done | contradiction | exact absurd ((Eq.symm _h).trans (show _ = true by assumption)) (by decide) | exact absurd ((Eq.symm _h).trans (show _ = false by assumption)) (by decide) | (conv => whnf))) | (intro _h; ((first | replace _h := of_decide_eq_true _h | replace _h := of_decide_eq_false _h | skip); (try simp only [Bool.not_eq_true', Bool.not_eq_false', Bool.not_true, Bool.not_false, decide_eq_true_eq, decide_eq_false_iff_not] at _h); (try (guard_hyp _h : True; clear _h)); first | done | contradiction | exact absurd ((Eq.symm _h).trans (show _ = true by assumption)) (by decide) | exact absurd ((Eq.symm _h).trans (show _ = false by assumption)) (by decide) | (conv => whnf)))))
    refine acallI (h.short hy2 hb hy1 hb1 hb2) rfl fun r hr => ?_
    obtain ⟨z, rfl, hz1, hz2, hz3, Q2, hz4⟩ := hr
    ((conv => whnf); repeat' (first | (refine And.intro ?_ ?_; (focus (first | rfl | decide | assumption | omega | decide +kernel | exact ⟨rfl, rfl⟩ | exact ⟨rfl, rfl, rfl, rfl⟩ | exact fun h => Bool.noConfusion h | exact fun _ => rfl | exact Nat.le_of_ble_eq_true rfl | (simp only [List.length_map, List.length_append, List.length_replicate, List.length_take, List.length_drop, List.length_set, List.length_cons, List.length_nil]; omega))); (conv => whnf)) | ((refine And.intro ?_ ?_ <;> intro _h); all_goals ((first | replace _h := of_decide_eq_true _h | replace _h := of_decide_eq_false _h | skip); (try simp only [Bool.not_eq_true', Bool.not_eq_false', Bool.not_true, Bool.not_false, decide_eq_true_eq, decide_eq_false_iff_not] at _h); (try (guard_hyp _h : True; clear _h)); first | done | contradiction | exact absurd ((Eq.symm _h).trans (show _ = true by assumption)) (by decide) | exact absurd ((Eq.symm _h).trans (show _ = false by assumption)) (by decide) | (conv => whnf))) | (intro _h; ((first | replace _h := of_decide_eq_true _h | replace _h := of_decide_eq_false _h | skip); (try simp only [Bool.not_eq_true', Bool.not_eq_false', Bool.not_true, Bool.not_false, decide_eq_true_eq, decide_eq_false_iff_not] at _h); (try (guard_hyp _h : True; clear _h)); first | done | contradiction | exact absurd ((Eq.symm _h).trans (show _ = true by assumption)) (by decide) | exact absurd ((Eq.symm _h).trans (show _ = false by assumption)) (by decide) | (conv => whnf)))))
    refine Ends.imm rfl ?_
    rw [if_neg (by simp [_h])]
    obtain ⟨Q0, hQ0⟩ := h.hrr
    exact ⟨z, rfl, hz1, hz2, times_val h.hinv (val_nonneg hz2) hz3 hQ0 hy4 hz4⟩

end Go.Proofs.Ytniaeiikdgbnfaa.R
