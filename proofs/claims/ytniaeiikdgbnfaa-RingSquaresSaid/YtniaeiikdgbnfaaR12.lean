/- The reference's code, part 5: products. -/
import Derived.Test.YtniaeiikdgbnfaaR11
import Derived.Test.YtniaeiikdgbnfaaAW24
namespace Go.Proofs.Ytniaeiikdgbnfaa.R
open Go Go.RowKit Go.Proofs Go.Proofs.Ytniaeiikdgbnfaa.AW
set_option maxRecDepth 100000
set_option linter.unusedSimpArgs false
set_option linter.unusedVariables false
set_option maxHeartbeats 4000000

theorem dval_set : ∀ (xs : List Int) (j : Nat) (v : Int), j < xs.length → dval (xs.set j v) = dval xs + dpw j * (v - xs.getD j 0)
  | [], j, v, h => by simp at h
  | x :: xs, 0, v, _ => by simp [dval, dpw_zero]; omega
  | x :: xs, j + 1, v, h => by
    have ih := dval_set xs j v (by simpa using h)
    simp only [List.set_cons_succ, dval, ih, List.getD_cons_succ, dpw_succ]
    grind

theorem dval_take_all (b : List Int) {k : Nat} (h : b.length ≤ k) : dval (b.take k) = dval b := by rw [List.take_of_length_le h]

/-- A product's place, a digit further. -/
theorem mul_dig {o A B ai Tk bk c x p pi q : Int} (h : o + p * c = A * B + pi * (ai * Tk)) (hp : p = pi * q) (oj : Int) (hx : x = oj + c + ai * bk) :
    o + p * (x % 256 - oj) + p * 256 * (x / 256) = A * B + pi * (ai * (Tk + q * bk)) := by
  have e : x % 256 = x - 256 * (x / 256) := by omega
  rw [e]
  generalize x / 256 = y
  subst hx
  subst hp
  grind

def told20 : AW.Told := ⟨fun _ => false, fun r i => if r == 14 && i == 1 then [65] else [], fun r => if r == 11 then .take 0 (.take 1 (.take 2 (.take 3 (.take 4 (.take 5 (.take 6 (.take 7 (.take 8 (.take 9 (.take 10 (.take 11 .done))))))))))) else .done⟩

theorem f20 (a b : List Int) (ha : wfd a) (hb : wfd b) (hs : a.length + b.length ≤ 100000) :
    Imm Try.prog 20 [.d (digs a), .d (digs b)] (fun r => ∃ zs, r = .d (digs zs) ∧ zs.length ≤ a.length + b.length + 1 ∧ wfd zs ∧ trimmed zs ∧ dval zs = dval a * dval b) := by
  have w1 : IntKind.i64.wrap (IntKind.i64.wrap ((a.length : Int) + b.length) + 1) = ((a.length + b.length + 1 : Nat) : Int) := by
    rw [wrap_i64 (n := (a.length : Int) + b.length) (by omega) (by omega), wrap_i64 (by omega) (by omega)]; rfl
  (refine Imm.of_awp told20 [] Try.func20 rfl (by decide) (Nat.le_of_ble_eq_true rfl) ?_; intro _w0 _S0 _E0 _B0; ((conv => whnf); repeat' (first | (refine And.intro ?_ ?_; (focus (first | rfl | decide | assumption | omega | decide +kernel | exact ⟨rfl, rfl⟩ | exact ⟨rfl, rfl, rfl, rfl⟩ | exact fun h => Bool.noConfusion h | exact fun _ => rfl | exact Nat.le_of_ble_eq_true rfl | (simp only [List.length_map, List.length_append, List.length_replicate, List.length_take, List.length_drop, List.length_set, List.length_cons, List.length_nil]; omega))); (conv => whnf)) | ((refine And.intro ?_ ?_ <;> intro _h); all_goals ((first | replace _h := of_decide_eq_true _h | replace _h := of_decide_eq_false _h | skip); (try simp only [Bool.not_eq_true', Bool.not_eq_false', Bool.not_true, Bool.not_false, decide_eq_true_eq, decide_eq_false_iff_not] at _h); (try (guard_hyp _h : True; clear _h)); first | done | contradiction | exact absurd ((Eq.symm _h).trans (show _ = true by assumption)) (by decide) | exact absurd ((Eq.symm _h).trans (show _ = false by assumption)) (by decide) | (conv => whnf))) | (intro _h; ((first | replace _h := of_decide_eq_true _h | replace _h := of_decide_eq_false _h | skip); (try simp only [Bool.not_eq_true', Bool.not_eq_false', Bool.not_true, Bool.not_false, decide_eq_true_eq, decide_eq_false_iff_not] at _h); (try (guard_hyp _h : True; clear _h)); first | done | contradiction | exact absurd ((Eq.symm _h).trans (show _ = true by assumption)) (by decide) | exact absurd ((Eq.symm _h).trans (show _ = false by assumption)) (by decide) | (conv => whnf))))))
  rw [w1]
  ((conv => whnf); repeat' (first | (refine And.intro ?_ ?_; (focus (first | rfl | decide | assumption | omega | decide +kernel | exact ⟨rfl, rfl⟩ | exact ⟨rfl, rfl, rfl, rfl⟩ | exact fun h => Bool.noConfusion h | exact fun _ => rfl | exact Nat.le_of_ble_eq_true rfl | (simp only [List.length_map, List.length_append, List.length_replicate, List.length_take, List.length_drop, List.length_set, List.length_cons, List.length_nil]; omega))); (conv => whnf)) | ((refine And.intro ?_ ?_ <;> intro _h); all_goals ((first | replace _h := of_decide_eq_true _h | replace _h := of_decide_eq_false _h | skip); (try simp only [Bool.not_eq_true', Bool.not_eq_false', Bool.not_true, Bool.not_false, decide_eq_true_eq, decide_eq_false_iff_not] at _h); (try (guard_hyp _h : True; clear _h)); first | done | contradiction | exact absurd ((Eq.symm _h).trans (show _ = true by assumption)) (by decide) | exact absurd ((Eq.symm _h).trans (show _ = false by assumption)) (by decide) | (conv => whnf))) | (intro _h; ((first | replace _h := of_decide_eq_true _h | replace _h := of_decide_eq_false _h | skip); (try simp only [Bool.not_eq_true', Bool.not_eq_false', Bool.not_true, Bool.not_false, decide_eq_true_eq, decide_eq_false_iff_not] at _h); (try (guard_hyp _h : True; clear _h)); first | done | contradiction | exact absurd ((Eq.symm _h).trans (show _ = true by assumption)) (by decide) | exact absurd ((Eq.symm _h).trans (show _ = false by assumption)) (by decide) | (conv => whnf)))))
  refine aloop (T := told20) (ι := Nat × List Int) (fun p => [(0, .d (digs a)), (1, .d (digs b)), (5, .own 0), (6, i64 p.1)]) (fun p => [(0, .row .i64 3 p.2)]) 67 1
    (fun p => a.length - p.1) (fun p => p.1 ≤ a.length ∧ p.2.length = a.length + b.length + 1 ∧ wfd p.2 ∧ dval p.2 = dval (a.take p.1) * dval b)
    ⟨(0, List.replicate (a.length + b.length + 1) 0), [0], rfl, ⟨by omega, by simp, fun x hx => by simp at hx; omega, by rw [dval_zeros _ fun x hx => by simp at hx; omega]; simp [dval]⟩, by (refine ⟨rfl, rfl, ?_, ?_⟩ <;> repeat' (first | exact True.intro | rfl | decide | (refine And.intro ?_ ?_)))⟩ ?_
  intro ⟨i, o⟩ ⟨hi, hol, ho, hv⟩
  dsimp only at hi hol ho hv ⊢
  have hai := ha.get i
  ((conv => whnf); repeat' (first | (refine And.intro ?_ ?_; (focus (first | rfl | decide | assumption | omega | decide +kernel | exact ⟨rfl, rfl⟩ | exact ⟨rfl, rfl, rfl, rfl⟩ | exact fun h => Bool.noConfusion h | exact fun _ => rfl | exact Nat.le_of_ble_eq_true rfl | (simp only [List.length_map, List.length_append, List.length_replicate, List.length_take, List.length_drop, List.length_set, List.length_cons, List.length_nil]; omega))); (conv => whnf)) | ((refine And.intro ?_ ?_ <;> intro _h); all_goals ((first | replace _h := of_decide_eq_true _h | replace _h := of_decide_eq_false _h | skip); (try simp only [Bool.not_eq_true', Bool.not_eq_false', Bool.not_true, Bool.not_false, decide_eq_true_eq, decide_eq_false_iff_not] at _h); (try (guard_hyp _h : True; clear _h)); first | done | contradiction | exact absurd ((Eq.symm _h).trans (show _ = true by assumption)) (by decide) | exact absurd ((Eq.symm _h).trans (show _ = false by assumption)) (by decide) | (conv => whnf))) | (intro _h; ((first | replace _h := of_decide_eq_true _h | replace _h := of_decide_eq_false _h | skip); (try simp only [Bool.not_eq_true', Bool.not_eq_false', Bool.not_true, Bool.not_false, decide_eq_true_eq, decide_eq_false_iff_not] at _h); (try (guard_hyp _h : True; clear _h)); first | done | contradiction | exact absurd ((Eq.symm _h).trans (show _ = true by assumption)) (by decide) | exact absurd ((Eq.symm _h).trans (show _ = false by assumption)) (by decide) | (conv => whnf)))))
  · refine aloop (T := told20) (ι := Nat × List Int × Int) (fun p => [(0, .d (digs a)), (1, .d (digs b)), (5, .own 0), (6, i64 i), (7, i64 p.2.2), (8, i64 p.1)]) (fun p => [(0, .row .i64 3 p.2.1)]) 67 1
      (fun p => b.length + 2 - p.1) (fun p => p.1 ≤ b.length + 1 ∧ p.2.1.length = a.length + b.length + 1 ∧ wfd p.2.1 ∧ (0 ≤ p.2.2 ∧ p.2.2 < 256) ∧ dval p.2.1 + dpw (i + p.1) * p.2.2 = dval (a.take i) * dval b + dpw i * (a.getD i 0 * dval (b.take p.1)))
      ⟨(0, o, 0), [0], rfl, ⟨by omega, hol, ho, by dsimp only; omega, by simpa [dval] using hv⟩, by (refine ⟨rfl, rfl, ?_, ?_⟩ <;> repeat' (first | exact True.intro | rfl | decide | (refine And.intro ?_ ?_)))⟩ ?_
    intro ⟨k, ys, c⟩ ⟨hk, hyl, hy, hc, hw⟩
    dsimp only at hk hyl hy hc hw ⊢
    have hbk := hb.get k
    have hi2 : i < a.length := by omega
    have wj : IntKind.i64.wrap ((i : Int) + k) = ((i + k : Nat) : Int) := by rw [wrap_i64 (by omega) (by omega)]; rfl
    have hover : b.length ≤ k → 0 < c → k = b.length := fun h1 h2 => by
      rw [dval_take_all b h1] at hw
      have h3 := dval_take_succ a i
      have h4 := dval_lt (ha.take (i + 1))
      rw [List.length_take, Nat.min_eq_left (by omega)] at h4
      have h5 := dval_lt hb
      have h6 := dval_nonneg hb
      have h7 := dval_nonneg hy
      have h8 : dval (a.take (i + 1)) * dval b ≤ dpw (i + 1) * dval b := Int.mul_le_mul_of_nonneg_right (by omega) h6
      have h9 : dpw (i + 1) * dval b < dpw (i + 1) * dpw b.length := Int.mul_lt_mul_of_pos_left h5 (dpw_pos _)
      rw [← dpw_add] at h9
      have h10 : dpw (i + k) * 1 ≤ dpw (i + k) * c := Int.mul_le_mul_of_nonneg_left (by omega) (by have := dpw_pos (i + k); omega)
      have h11 : dval (a.take (i + 1)) * dval b = dval (a.take i) * dval b + dpw i * (a.getD i 0 * dval b) := by rw [h3]; grind
      have h12 : dpw (i + k) < dpw (i + 1 + b.length) := by omega
      rcases Nat.lt_or_ge k (b.length + 1) with h | h
      · omega
      · have := dpw_le (show i + 1 + b.length ≤ i + k by omega)
        omega
    have hyj := hy.get (i + k)
    have wk : IntKind.i64.wrap ((k : Int) + 1) = ((k + 1 : Nat) : Int) := by rw [wrap_i64 (by omega) (by omega)]; rfl
    have step : ∀ (x t : Int), k ≤ b.length → x = ys.getD (i + k) 0 + c + a.getD i 0 * b.getD k 0 → x < 65536 → 0 ≤ x →
        ((ys.set (i + k) (x % 256)).length = a.length + b.length + 1 ∧ wfd (ys.set (i + k) (x % 256)) ∧ (0 ≤ x / 256 ∧ x / 256 < 256) ∧
        dval (ys.set (i + k) (x % 256)) + dpw (i + (k + 1)) * (x / 256) = dval (a.take i) * dval b + dpw i * (a.getD i 0 * dval (b.take (k + 1)))) := fun x t hkl hx hx1 hx0 => by
      refine ⟨by simpa using hyl, hy.set _ (by omega), by omega, ?_⟩
      rw [dval_set _ _ _ (by omega), dval_take_succ b k, ← Nat.add_assoc, dpw_succ]
      exact mul_dig hw (dpw_add i k) _ hx
    ((conv => whnf); repeat' (first | (refine And.intro ?_ ?_; (focus (first | rfl | decide | assumption | omega | decide +kernel | exact ⟨rfl, rfl⟩ | exact ⟨rfl, rfl, rfl, rfl⟩ | exact fun h => Bool.noConfusion h | exact fun _ => rfl | exact Nat.le_of_ble_eq_true rfl | (simp only [List.length_map, List.length_append, List.length_replicate, List.length_take, List.length_drop, List.length_set, List.length_cons, List.length_nil]; omega))); (conv => whnf)) | ((refine And.intro ?_ ?_ <;> intro _h); all_goals ((first | replace _h := of_decide_eq_true _h | replace _h := of_decide_eq_false _h | skip); (try simp only [Bool.not_eq_true', Bool.not_eq_false', Bool.not_true, Bool.not_false, decide_eq_true_eq, decide_eq_false_iff_not] at _h); (try (guard_hyp _h : True; clear _h)); first | done | contradiction | exact absurd ((Eq.symm _h).trans (show _ = true by assumption)) (by decide) | exact absurd ((Eq.symm _h).trans (show _ = false by assumption)) (by decide) | (conv => whnf))) | (intro _h; ((first | replace _h := of_decide_eq_true _h | replace _h := of_decide_eq_false _h | skip); (try simp only [Bool.not_eq_true', Bool.not_eq_false', Bool.not_true, Bool.not_false, decide_eq_true_eq, decide_eq_false_iff_not] at _h); (try (guard_hyp _h : True; clear _h)); first | done | contradiction | exact absurd ((Eq.symm _h).trans (show _ = true by assumption)) (by decide) | exact absurd ((Eq.symm _h).trans (show _ = false by assumption)) (by decide) | (conv => whnf)))))
    · rename_i hc0
      have hkb := hover (by omega) hc0
      have hb0 : b.getD k 0 = 0 := by rw [List.getD_eq_getElem?_getD, List.getElem?_eq_none (by omega)]; rfl
      have e1 : IntKind.i64.wrap (ys.getD (i + k) 0 + c) = ys.getD (i + k) 0 + c := wrap_i64 (by omega) (by omega)
      obtain ⟨k1, k2, k3, k4⟩ := step (ys.getD (i + k) 0 + c) 0 (by omega) (by rw [hb0]; omega) (by omega) (by omega)
      refine ⟨(k + 1, ys.set (i + k) ((ys.getD (i + k) 0 + c) % 256), (ys.getD (i + k) 0 + c) / 256), [0], by dsimp only; omega, ⟨by dsimp only; omega, k1, k2, k3, k4⟩, rfl, ?_⟩
      (refine ⟨rfl, rfl, ?_, ?_⟩ <;> repeat' (first | exact True.intro | rfl | decide | (refine And.intro ?_ ?_)))
      · refine di ?_
        rw [wj, Int.toNat_natCast, e1, Int.tdiv_eq_ediv_of_nonneg (by omega), wrap_i64 (by omega) (by omega)]
      · exact di wk
      · show some (Ob.row .i64 3 (ys.set (IntKind.i64.wrap ((i : Int) + k)).toNat ((IntKind.i64.wrap (ys.getD (IntKind.i64.wrap ((i : Int) + k)).toNat 0 + c)).tmod 256))) = some (Ob.row .i64 3 _)
        rw [wj, Int.toNat_natCast, e1, Int.tmod_eq_emod_of_nonneg (by omega)]
    · rename_i hkb
      have hc0 : c = 0 := by omega
      subst hc0
      refine ⟨(i + 1, ys), [0], by dsimp only; omega, ⟨by dsimp only; omega, hyl, hy, ?_⟩, rfl, ?_⟩
      · dsimp only
        rw [dval_take_all b (by omega)] at hw
        rw [dval_take_succ a i]
        grind
      · (refine ⟨rfl, rfl, ?_, ?_⟩ <;> repeat' (first | exact True.intro | rfl | decide | (refine And.intro ?_ ?_)))
        refine di ?_
        rw [wrap_i64 (by omega) (by omega)]; rfl
    · have m0 : 0 ≤ a.getD i 0 * b.getD k 0 := Int.mul_nonneg hai.1 hbk.1
      have m1 : a.getD i 0 * b.getD k 0 ≤ 255 * 255 := Int.mul_le_mul (by omega) (by omega) hbk.1 (by omega)
      have e1 : IntKind.i64.wrap (ys.getD (i + k) 0 + c) = ys.getD (i + k) 0 + c := wrap_i64 (by omega) (by omega)
      have e2 : IntKind.i64.wrap (a.getD i 0 * b.getD k 0) = a.getD i 0 * b.getD k 0 := wrap_i64 (by omega) (by omega)
      have e3 : IntKind.i64.wrap (ys.getD (i + k) 0 + c + a.getD i 0 * b.getD k 0) = ys.getD (i + k) 0 + c + a.getD i 0 * b.getD k 0 := wrap_i64 (by omega) (by omega)
      obtain ⟨k1, k2, k3, k4⟩ := step (ys.getD (i + k) 0 + c + a.getD i 0 * b.getD k 0) 0 (by omega) rfl (by omega) (by omega)
      refine ⟨(k + 1, ys.set (i + k) ((ys.getD (i + k) 0 + c + a.getD i 0 * b.getD k 0) % 256), (ys.getD (i + k) 0 + c + a.getD i 0 * b.getD k 0) / 256), [0], by dsimp only; omega, ⟨by dsimp only; omega, k1, k2, k3, k4⟩, rfl, ?_⟩
      (refine ⟨rfl, rfl, ?_, ?_⟩ <;> repeat' (first | exact True.intro | rfl | decide | (refine And.intro ?_ ?_)))
      · refine di ?_
        rw [wj, Int.toNat_natCast, Int.toNat_natCast, Int.toNat_natCast, e1, e2, e3, Int.tdiv_eq_ediv_of_nonneg (by omega), wrap_i64 (by omega) (by omega)]
      · exact di wk
      · show some (Ob.row .i64 3 (ys.set (IntKind.i64.wrap ((i : Int) + k)).toNat ((IntKind.i64.wrap (IntKind.i64.wrap (ys.getD (IntKind.i64.wrap ((i : Int) + k)).toNat 0 + c) + IntKind.i64.wrap (a.getD (i : Int).toNat 0 * b.getD (k : Int).toNat 0))).tmod 256))) = some (Ob.row .i64 3 _)
        rw [wj, Int.toNat_natCast, Int.toNat_natCast, Int.toNat_natCast, e1, e2, e3, Int.tmod_eq_emod_of_nonneg (by omega)]
  · have hia : i = a.length := by omega
    subst hia
    refine acallI (f29' o ho (by omega)) rfl fun r hr => ?_
    obtain ⟨ds, rfl, h1, h2, h3, h4⟩ := hr
    ((conv => whnf); repeat' (first | (refine And.intro ?_ ?_; (focus (first | rfl | decide | assumption | omega | decide +kernel | exact ⟨rfl, rfl⟩ | exact ⟨rfl, rfl, rfl, rfl⟩ | exact fun h => Bool.noConfusion h | exact fun _ => rfl | exact Nat.le_of_ble_eq_true rfl | (simp only [List.length_map, List.length_append, List.length_replicate, List.length_take, List.length_drop, List.length_set, List.length_cons, List.length_nil]; omega))); (conv => whnf)) | ((refine And.intro ?_ ?_ <;> intro _h); all_goals ((first | replace _h := of_decide_eq_true _h | replace _h := of_decide_eq_false _h | skip); (try simp only [Bool.not_eq_true', Bool.not_eq_false', Bool.not_true, Bool.not_false, decide_eq_true_eq, decide_eq_false_iff_not] at _h); (try (guard_hyp _h : True; clear _h)); first | done | contradiction | exact absurd ((Eq.symm _h).trans (show _ = true by assumption)) (by decide) | exact absurd ((Eq.symm _h).trans (show _ = false by assumption)) (by decide) | (conv => whnf))) | (intro _h; ((first | replace _h := of_decide_eq_true _h | replace _h := of_decide_eq_false _h | skip); (try simp only [Bool.not_eq_true', Bool.not_eq_false', Bool.not_true, Bool.not_false, decide_eq_true_eq, decide_eq_false_iff_not] at _h); (try (guard_hyp _h : True; clear _h)); first | done | contradiction | exact absurd ((Eq.symm _h).trans (show _ = true by assumption)) (by decide) | exact absurd ((Eq.symm _h).trans (show _ = false by assumption)) (by decide) | (conv => whnf)))))
    refine Ends.imm rfl ⟨ds, rfl, by omega, h2, h3, ?_⟩
    rw [h4, hv, dval_take_all a (Nat.le_refl _)]

end Go.Proofs.Ytniaeiikdgbnfaa.R
