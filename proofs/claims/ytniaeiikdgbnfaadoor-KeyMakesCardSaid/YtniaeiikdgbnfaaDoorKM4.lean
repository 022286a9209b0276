/- Parts R16, K1, K2, K3, K4, K5, K6, K7, K8, K9, K10, K11, K12, K13, K14, K15, K16, K17, K18, K19, K20, K21. No condition of its own. -/
import Derived.Test.YtniaeiikdgbnfaaDoorKM3
import Derived.Test.YtniaeiikdgbnfaaDoorKM2
import Derived.Shelf.RegionOpen
import Derived.WalkKit
import Derived.TacticsInMore
import Derived.LoopIn
import Derived.OwnWalkIn

namespace Go.Proofs.YtniaeiikdgbnfaaDoor.R
open Go Go.RowKit Go.Proofs Go.Proofs.YtniaeiikdgbnfaaDoor.AW
set_option linter.unusedSectionVars false
variable [Globs]
set_option maxRecDepth 100000
set_option linter.unusedSimpArgs false
set_option linter.unusedVariables false
set_option maxHeartbeats 4000000

theorem f13 (n : List Int) (n0 : Int) (rr : List Int) (h0 : 0 ≤ n0 ∧ n0 < 4294967296) : Imm Tryd.prog 65 [.d (ringD n n0 rr)] (fun r => r = i64 n0) := by
  (refine Imm.of_awp told0 [] Tryd.func65 rfl (by decide) (Nat.le_of_ble_eq_true rfl) ?_; intro _w0 _S0 _E0 _B0; ((conv => whnf); repeat' (first | (refine And.intro ?_ ?_; (focus (first | rfl | decide | assumption | omega | decide +kernel | exact ⟨rfl, rfl⟩ | exact ⟨rfl, rfl, rfl, rfl⟩ | exact fun h => Bool.noConfusion h | exact fun _ => rfl | exact Nat.le_of_ble_eq_true rfl | (simp only [List.length_map, List.length_append, List.length_replicate, List.length_take, List.length_drop, List.length_set, List.length_cons, List.length_nil]; omega))); (conv => whnf)) | ((refine And.intro ?_ ?_ <;> intro _h); all_goals ((first | replace _h := of_decide_eq_true _h | replace _h := of_decide_eq_false _h | skip); (try simp only [Bool.not_eq_true', Bool.not_eq_false', Bool.not_true, Bool.not_false, decide_eq_true_eq, decide_eq_false_iff_not] at _h); (try (guard_hyp _h : True; clear _h)); first | done | contradiction | exact absurd ((Eq.symm _h).trans (show _ = true by assumption)) (by decide) | exact absurd ((Eq.symm _h).trans (show _ = false by assumption)) (by decide) | (conv => whnf))) | (intro _h; ((first | replace _h := of_decide_eq_true _h | replace _h := of_decide_eq_false _h | skip); (try simp only [Bool.not_eq_true', Bool.not_eq_false', Bool.not_true, Bool.not_false, decide_eq_true_eq, decide_eq_false_iff_not] at _h); (try (guard_hyp _h : True; clear _h)); first | done | contradiction | exact absurd ((Eq.symm _h).trans (show _ = true by assumption)) (by decide) | exact absurd ((Eq.symm _h).trans (show _ = false by assumption)) (by decide) | (conv => whnf))))))
  exact Ends.imm rfl (di (wrap_i64 (by omega) (by omega)))

theorem f15 (n : List Int) (n0 : Int) (rr : List Int) (hne : rr ≠ []) (hl : rr.length ≤ 1000000) : Imm Tryd.prog 66 [.d (ringD n n0 rr)] (fun r => r = .d (nat rr)) := by
  (refine Imm.of_awp told0 [2] Tryd.func66 rfl (by decide) (Nat.le_of_ble_eq_true rfl) ?_; intro _w0 _S0 _E0 _B0; ((conv => whnf); repeat' (first | (refine And.intro ?_ ?_; (focus (first | rfl | decide | assumption | omega | decide +kernel | exact ⟨rfl, rfl⟩ | exact ⟨rfl, rfl, rfl, rfl⟩ | exact fun h => Bool.noConfusion h | exact fun _ => rfl | exact Nat.le_of_ble_eq_true rfl | (simp only [List.length_map, List.length_append, List.length_replicate, List.length_take, List.length_drop, List.length_set, List.length_cons, List.length_nil]; omega))); (conv => whnf)) | ((refine And.intro ?_ ?_ <;> intro _h); all_goals ((first | replace _h := of_decide_eq_true _h | replace _h := of_decide_eq_false _h | skip); (try simp only [Bool.not_eq_true', Bool.not_eq_false', Bool.not_true, Bool.not_false, decide_eq_true_eq, decide_eq_false_iff_not] at _h); (try (guard_hyp _h : True; clear _h)); first | done | contradiction | exact absurd ((Eq.symm _h).trans (show _ = true by assumption)) (by decide) | exact absurd ((Eq.symm _h).trans (show _ = false by assumption)) (by decide) | (conv => whnf))) | (intro _h; ((first | replace _h := of_decide_eq_true _h | replace _h := of_decide_eq_false _h | skip); (try simp only [Bool.not_eq_true', Bool.not_eq_false', Bool.not_true, Bool.not_false, decide_eq_true_eq, decide_eq_false_iff_not] at _h); (try (guard_hyp _h : True; clear _h)); first | done | contradiction | exact absurd ((Eq.symm _h).trans (show _ = true by assumption)) (by decide) | exact absurd ((Eq.symm _h).trans (show _ = false by assumption)) (by decide) | (conv => whnf))))))
  refine acall [] (f27 rr hne hl) rfl trivial rfl (fun h => rfl) fun st nx r hr => ?_
  obtain ⟨rfl, rfl, rfl⟩ := hr
  ((conv => whnf); repeat' (first | (refine And.intro ?_ ?_; (focus (first | rfl | decide | assumption | omega | decide +kernel | exact ⟨rfl, rfl⟩ | exact ⟨rfl, rfl, rfl, rfl⟩ | exact fun h => Bool.noConfusion h | exact fun _ => rfl | exact Nat.le_of_ble_eq_true rfl | (simp only [List.length_map, List.length_append, List.length_replicate, List.length_take, List.length_drop, List.length_set, List.length_cons, List.length_nil]; omega))); (conv => whnf)) | ((refine And.intro ?_ ?_ <;> intro _h); all_goals ((first | replace _h := of_decide_eq_true _h | replace _h := of_decide_eq_false _h | skip); (try simp only [Bool.not_eq_true', Bool.not_eq_false', Bool.not_true, Bool.not_false, decide_eq_true_eq, decide_eq_false_iff_not] at _h); (try (guard_hyp _h : True; clear _h)); first | done | contradiction | exact absurd ((Eq.symm _h).trans (show _ = true by assumption)) (by decide) | exact absurd ((Eq.symm _h).trans (show _ = false by assumption)) (by decide) | (conv => whnf))) | (intro _h; ((first | replace _h := of_decide_eq_true _h | replace _h := of_decide_eq_false _h | skip); (try simp only [Bool.not_eq_true', Bool.not_eq_false', Bool.not_true, Bool.not_false, decide_eq_true_eq, decide_eq_false_iff_not] at _h); (try (guard_hyp _h : True; clear _h)); first | done | contradiction | exact absurd ((Eq.symm _h).trans (show _ = true by assumption)) (by decide) | exact absurd ((Eq.symm _h).trans (show _ = false by assumption)) (by decide) | (conv => whnf)))))
  exact Ends.imm rfl rfl

/-- A number, moved up by one digit. -/
def shl (n k : Nat) (r : List Int) : List Int := r.take (k + 1) ++ (r.drop k).take (n - 1 - k)

theorem shl_len {n k : Nat} {r : List Int} (hr : r.length = n) (hk : k + 1 ≤ n) : (shl n k r).length = n := by
  simp [shl, List.length_take, List.length_drop]; omega

theorem shl_get {n k : Nat} {r : List Int} (hr : r.length = n) (hk : k + 1 ≤ n) {p : Nat} (hp : p ≤ k) : (shl n k r).getD p 0 = r.getD p 0 := by
  unfold shl
  rw [List.getD_eq_getElem?_getD, List.getElem?_append_left (by simp; omega), List.getElem?_take, if_pos (by omega), ← List.getD_eq_getElem?_getD]

theorem shl_set {n k : Nat} {r : List Int} (hr : r.length = n) (h1 : 1 ≤ k) (hk : k + 1 ≤ n) : (shl n k r).set k (r.getD (k - 1) 0) = shl n (k - 1) r := by
  apply List.ext_getElem?
  intro p
  rw [List.getElem?_set]
  unfold shl
  have hl : (r.take (k + 1) ++ (r.drop k).take (n - 1 - k)).length = n := shl_len hr hk
  by_cases hpk : k = p
  · subst hpk
    rw [if_pos rfl, if_pos (by rw [hl]; omega), List.getElem?_append_right (by simp; omega), List.getElem?_take, List.getElem?_drop, List.length_take, Nat.min_eq_left (by omega)]
    rw [if_pos (by omega), List.getD_eq_getElem?_getD]
    have : k - 1 + (k - (k - 1 + 1)) = k - 1 := by omega
    rw [this, List.getElem?_eq_getElem (by omega)]; rfl
  · rw [if_neg hpk]
    rcases Nat.lt_or_ge p k with h | h
    · rw [List.getElem?_append_left (by simp; omega), List.getElem?_append_left (by simp; omega), List.getElem?_take, List.getElem?_take, if_pos (by omega), if_pos (by omega)]
    · rw [List.getElem?_append_right (by simp; omega), List.getElem?_append_right (by simp; omega), List.getElem?_take, List.getElem?_take, List.getElem?_drop, List.getElem?_drop, List.length_take, List.length_take, Nat.min_eq_left (by omega), Nat.min_eq_left (by omega)]
      have e : k + (p - (k + 1)) = k - 1 + (p - (k - 1 + 1)) := by omega
      rw [e]
      by_cases hpn : p < n
      · rw [if_pos (by omega), if_pos (by omega)]
      · rw [if_neg (by omega), if_neg (by omega)]

theorem shl_end {n : Nat} {r : List Int} (hr : r.length = n) (hn : 1 ≤ n) (x : Int) : (shl n 0 r).set 0 x = x :: r.take (n - 1) := by
  cases r with
  | nil => simp at hr; omega
  | cons a r => simp [shl]

theorem dval_take_lt {r : List Int} {n : Nat} (hr : wfd r) (h : dval r < dpw n) : dval (r.take n) = dval r := by
  have e : dval r = dval (r.take n) + dpw (r.take n).length * dval (r.drop n) := by rw [← dval_append, List.take_append_drop]
  rcases Nat.lt_or_ge r.length n with hl | hl
  · rw [List.take_of_length_le (by omega)]
  · rw [List.length_take, Nat.min_eq_left hl] at e
    have h1 := dval_nonneg (hr.take n)
    have h2 := dval_nonneg (hr.drop n)
    have h3 := dpw_pos n
    rcases (show dval (r.drop n) = 0 ∨ 1 ≤ dval (r.drop n) by omega) with h4 | h4
    · rw [h4] at e; omega
    · have : dpw n * 1 ≤ dpw n * dval (r.drop n) := Int.mul_le_mul_of_nonneg_left h4 (by omega)
      omega

theorem dval_drop {a : List Int} {i : Nat} (h : i < a.length) : dval (a.drop i) = a.getD i 0 + 256 * dval (a.drop (i + 1)) := by
  rw [List.drop_eq_getElem_cons h, List.getD_eq_getElem?_getD, List.getElem?_eq_getElem h]
  simp [dval]

def told16 : AW.Told := ⟨fun f => f == 83, fun r i => if r == 7 && i == 5 then [25] else if r == 21 && i == 0 then [6] else [], fun _ => .done⟩

theorem f16 (a m : List Int) (ha : wfd a) (hm : wfd m) (hm0 : 0 < dval m) (hs : a.length + m.length ≤ 100000) :
    Imm Tryd.prog 51 [.d (digs a), .d (digs m)] (fun r => ∃ zs, r = .d (digs zs) ∧ zs.length ≤ m.length + 2 ∧ wfd zs ∧ trimmed zs ∧ dval zs = dval a % dval m) := by
  obtain ⟨n, hn⟩ : ∃ n, n = m.length + 2 := ⟨_, rfl⟩
  have w1 : IntKind.i64.wrap ((m.length : Int) + 2) = n := by rw [wrap_i64 (by omega) (by omega)]; omega
  (refine Imm.of_awp told16 [] Tryd.func51 rfl (by decide) (Nat.le_of_ble_eq_true rfl) ?_; intro _w0 _S0 _E0 _B0; ((conv => whnf); repeat' (first | (refine And.intro ?_ ?_; (focus (first | rfl | decide | assumption | omega | decide +kernel | exact ⟨rfl, rfl⟩ | exact ⟨rfl, rfl, rfl, rfl⟩ | exact fun h => Bool.noConfusion h | exact fun _ => rfl | exact Nat.le_of_ble_eq_true rfl | (simp only [List.length_map, List.length_append, List.length_replicate, List.length_take, List.length_drop, List.length_set, List.length_cons, List.length_nil]; omega))); (conv => whnf)) | ((refine And.intro ?_ ?_ <;> intro _h); all_goals ((first | replace _h := of_decide_eq_true _h | replace _h := of_decide_eq_false _h | skip); (try simp only [Bool.not_eq_true', Bool.not_eq_false', Bool.not_true, Bool.not_false, decide_eq_true_eq, decide_eq_false_iff_not] at _h); (try (guard_hyp _h : True; clear _h)); first | done | contradiction | exact absurd ((Eq.symm _h).trans (show _ = true by assumption)) (by decide) | exact absurd ((Eq.symm _h).trans (show _ = false by assumption)) (by decide) | (conv => whnf))) | (intro _h; ((first | replace _h := of_decide_eq_true _h | replace _h := of_decide_eq_false _h | skip); (try simp only [Bool.not_eq_true', Bool.not_eq_false', Bool.not_true, Bool.not_false, decide_eq_true_eq, decide_eq_false_iff_not] at _h); (try (guard_hyp _h : True; clear _h)); first | done | contradiction | exact absurd ((Eq.symm _h).trans (show _ = true by assumption)) (by decide) | exact absurd ((Eq.symm _h).trans (show _ = false by assumption)) (by decide) | (conv => whnf))))))
  rw [w1]
  ((conv => whnf); repeat' (first | (refine And.intro ?_ ?_; (focus (first | rfl | decide | assumption | omega | decide +kernel | exact ⟨rfl, rfl⟩ | exact ⟨rfl, rfl, rfl, rfl⟩ | exact fun h => Bool.noConfusion h | exact fun _ => rfl | exact Nat.le_of_ble_eq_true rfl | (simp only [List.length_map, List.length_append, List.length_replicate, List.length_take, List.length_drop, List.length_set, List.length_cons, List.length_nil]; omega))); (conv => whnf)) | ((refine And.intro ?_ ?_ <;> intro _h); all_goals ((first | replace _h := of_decide_eq_true _h | replace _h := of_decide_eq_false _h | skip); (try simp only [Bool.not_eq_true', Bool.not_eq_false', Bool.not_true, Bool.not_false, decide_eq_true_eq, decide_eq_false_iff_not] at _h); (try (guard_hyp _h : True; clear _h)); first | done | contradiction | exact absurd ((Eq.symm _h).trans (show _ = true by assumption)) (by decide) | exact absurd ((Eq.symm _h).trans (show _ = false by assumption)) (by decide) | (conv => whnf))) | (intro _h; ((first | replace _h := of_decide_eq_true _h | replace _h := of_decide_eq_false _h | skip); (try simp only [Bool.not_eq_true', Bool.not_eq_false', Bool.not_true, Bool.not_false, decide_eq_true_eq, decide_eq_false_iff_not] at _h); (try (guard_hyp _h : True; clear _h)); first | done | contradiction | exact absurd ((Eq.symm _h).trans (show _ = true by assumption)) (by decide) | exact absurd ((Eq.symm _h).trans (show _ = false by assumption)) (by decide) | (conv => whnf)))))
  refine AWp.rounds told16 9 ?_
  ((conv => whnf); repeat' (first | (refine And.intro ?_ ?_; (focus (first | rfl | decide | assumption | omega | decide +kernel | exact ⟨rfl, rfl⟩ | exact ⟨rfl, rfl, rfl, rfl⟩ | exact fun h => Bool.noConfusion h | exact fun _ => rfl | exact Nat.le_of_ble_eq_true rfl | (simp only [List.length_map, List.length_append, List.length_replicate, List.length_take, List.length_drop, List.length_set, List.length_cons, List.length_nil]; omega))); (conv => whnf)) | ((refine And.intro ?_ ?_ <;> intro _h); all_goals ((first | replace _h := of_decide_eq_true _h | replace _h := of_decide_eq_false _h | skip); (try simp only [Bool.not_eq_true', Bool.not_eq_false', Bool.not_true, Bool.not_false, decide_eq_true_eq, decide_eq_false_iff_not] at _h); (try (guard_hyp _h : True; clear _h)); first | done | contradiction | exact absurd ((Eq.symm _h).trans (show _ = true by assumption)) (by decide) | exact absurd ((Eq.symm _h).trans (show _ = false by assumption)) (by decide) | (conv => whnf))) | (intro _h; ((first | replace _h := of_decide_eq_true _h | replace _h := of_decide_eq_false _h | skip); (try simp only [Bool.not_eq_true', Bool.not_eq_false', Bool.not_true, Bool.not_false, decide_eq_true_eq, decide_eq_false_iff_not] at _h); (try (guard_hyp _h : True; clear _h)); first | done | contradiction | exact absurd ((Eq.symm _h).trans (show _ = true by assumption)) (by decide) | exact absurd ((Eq.symm _h).trans (show _ = false by assumption)) (by decide) | (conv => whnf)))))
  refine acallI (f30 m 0 n hm (by omega) (by omega) (by omega)) rfl fun r hr => ?_
  obtain ⟨z0, rfl, hz0⟩ := hr
  ((conv => whnf); repeat' (first | (refine And.intro ?_ ?_; (focus (first | rfl | decide | assumption | omega | decide +kernel | exact ⟨rfl, rfl⟩ | exact ⟨rfl, rfl, rfl, rfl⟩ | exact fun h => Bool.noConfusion h | exact fun _ => rfl | exact Nat.le_of_ble_eq_true rfl | (simp only [List.length_map, List.length_append, List.length_replicate, List.length_take, List.length_drop, List.length_set, List.length_cons, List.length_nil]; omega))); (conv => whnf)) | ((refine And.intro ?_ ?_ <;> intro _h); all_goals ((first | replace _h := of_decide_eq_true _h | replace _h := of_decide_eq_false _h | skip); (try simp only [Bool.not_eq_true', Bool.not_eq_false', Bool.not_true, Bool.not_false, decide_eq_true_eq, decide_eq_false_iff_not] at _h); (try (guard_hyp _h : True; clear _h)); first | done | contradiction | exact absurd ((Eq.symm _h).trans (show _ = true by assumption)) (by decide) | exact absurd ((Eq.symm _h).trans (show _ = false by assumption)) (by decide) | (conv => whnf))) | (intro _h; ((first | replace _h := of_decide_eq_true _h | replace _h := of_decide_eq_false _h | skip); (try simp only [Bool.not_eq_true', Bool.not_eq_false', Bool.not_true, Bool.not_false, decide_eq_true_eq, decide_eq_false_iff_not] at _h); (try (guard_hyp _h : True; clear _h)); first | done | contradiction | exact absurd ((Eq.symm _h).trans (show _ = true by assumption)) (by decide) | exact absurd ((Eq.symm _h).trans (show _ = false by assumption)) (by decide) | (conv => whnf)))))
  refine acallI (f30 m 1 n hm (by omega) (by omega) (by omega)) rfl fun r hr => ?_
  obtain ⟨z1, rfl, hz1⟩ := hr
  ((conv => whnf); repeat' (first | (refine And.intro ?_ ?_; (focus (first | rfl | decide | assumption | omega | decide +kernel | exact ⟨rfl, rfl⟩ | exact ⟨rfl, rfl, rfl, rfl⟩ | exact fun h => Bool.noConfusion h | exact fun _ => rfl | exact Nat.le_of_ble_eq_true rfl | (simp only [List.length_map, List.length_append, List.length_replicate, List.length_take, List.length_drop, List.length_set, List.length_cons, List.length_nil]; omega))); (conv => whnf)) | ((refine And.intro ?_ ?_ <;> intro _h); all_goals ((first | replace _h := of_decide_eq_true _h | replace _h := of_decide_eq_false _h | skip); (try simp only [Bool.not_eq_true', Bool.not_eq_false', Bool.not_true, Bool.not_false, decide_eq_true_eq, decide_eq_false_iff_not] at _h); (try (guard_hyp _h : True; clear _h)); first | done | contradiction | exact absurd ((Eq.symm _h).trans (show _ = true by assumption)) (by decide) | exact absurd ((Eq.symm _h).trans (show _ = false by assumption)) (by decide) | (conv => whnf))) | (intro _h; ((first | replace _h := of_decide_eq_true _h | replace _h := of_decide_eq_false _h | skip); (try simp only [Bool.not_eq_true', Bool.not_eq_false', Bool.not_true, Bool.not_false, decide_eq_true_eq, decide_eq_false_iff_not] at _h); (try (guard_hyp _h : True; clear _h)); first | done | contradiction | exact absurd ((Eq.symm _h).trans (show _ = true by assumption)) (by decide) | exact absurd ((Eq.symm _h).trans (show _ = false by assumption)) (by decide) | (conv => whnf)))))
  refine acallI (f30 m 2 n hm (by omega) (by omega) (by omega)) rfl fun r hr => ?_
  obtain ⟨z2, rfl, hz2⟩ := hr
  ((conv => whnf); repeat' (first | (refine And.intro ?_ ?_; (focus (first | rfl | decide | assumption | omega | decide +kernel | exact ⟨rfl, rfl⟩ | exact ⟨rfl, rfl, rfl, rfl⟩ | exact fun h => Bool.noConfusion h | exact fun _ => rfl | exact Nat.le_of_ble_eq_true rfl | (simp only [List.length_map, List.length_append, List.length_replicate, List.length_take, List.length_drop, List.length_set, List.length_cons, List.length_nil]; omega))); (conv => whnf)) | ((refine And.intro ?_ ?_ <;> intro _h); all_goals ((first | replace _h := of_decide_eq_true _h | replace _h := of_decide_eq_false _h | skip); (try simp only [Bool.not_eq_true', Bool.not_eq_false', Bool.not_true, Bool.not_false, decide_eq_true_eq, decide_eq_false_iff_not] at _h); (try (guard_hyp _h : True; clear _h)); first | done | contradiction | exact absurd ((Eq.symm _h).trans (show _ = true by assumption)) (by decide) | exact absurd ((Eq.symm _h).trans (show _ = false by assumption)) (by decide) | (conv => whnf))) | (intro _h; ((first | replace _h := of_decide_eq_true _h | replace _h := of_decide_eq_false _h | skip); (try simp only [Bool.not_eq_true', Bool.not_eq_false', Bool.not_true, Bool.not_false, decide_eq_true_eq, decide_eq_false_iff_not] at _h); (try (guard_hyp _h : True; clear _h)); first | done | contradiction | exact absurd ((Eq.symm _h).trans (show _ = true by assumption)) (by decide) | exact absurd ((Eq.symm _h).trans (show _ = false by assumption)) (by decide) | (conv => whnf)))))
  refine acallI (f30 m 3 n hm (by omega) (by omega) (by omega)) rfl fun r hr => ?_
  obtain ⟨z3, rfl, hz3⟩ := hr
  ((conv => whnf); repeat' (first | (refine And.intro ?_ ?_; (focus (first | rfl | decide | assumption | omega | decide +kernel | exact ⟨rfl, rfl⟩ | exact ⟨rfl, rfl, rfl, rfl⟩ | exact fun h => Bool.noConfusion h | exact fun _ => rfl | exact Nat.le_of_ble_eq_true rfl | (simp only [List.length_map, List.length_append, List.length_replicate, List.length_take, List.length_drop, List.length_set, List.length_cons, List.length_nil]; omega))); (conv => whnf)) | ((refine And.intro ?_ ?_ <;> intro _h); all_goals ((first | replace _h := of_decide_eq_true _h | replace _h := of_decide_eq_false _h | skip); (try simp only [Bool.not_eq_true', Bool.not_eq_false', Bool.not_true, Bool.not_false, decide_eq_true_eq, decide_eq_false_iff_not] at _h); (try (guard_hyp _h : True; clear _h)); first | done | contradiction | exact absurd ((Eq.symm _h).trans (show _ = true by assumption)) (by decide) | exact absurd ((Eq.symm _h).trans (show _ = false by assumption)) (by decide) | (conv => whnf))) | (intro _h; ((first | replace _h := of_decide_eq_true _h | replace _h := of_decide_eq_false _h | skip); (try simp only [Bool.not_eq_true', Bool.not_eq_false', Bool.not_true, Bool.not_false, decide_eq_true_eq, decide_eq_false_iff_not] at _h); (try (guard_hyp _h : True; clear _h)); first | done | contradiction | exact absurd ((Eq.symm _h).trans (show _ = true by assumption)) (by decide) | exact absurd ((Eq.symm _h).trans (show _ = false by assumption)) (by decide) | (conv => whnf)))))
  refine acallI (f30 m 4 n hm (by omega) (by omega) (by omega)) rfl fun r hr => ?_
  obtain ⟨z4, rfl, hz4⟩ := hr
  ((conv => whnf); repeat' (first | (refine And.intro ?_ ?_; (focus (first | rfl | decide | assumption | omega | decide +kernel | exact ⟨rfl, rfl⟩ | exact ⟨rfl, rfl, rfl, rfl⟩ | exact fun h => Bool.noConfusion h | exact fun _ => rfl | exact Nat.le_of_ble_eq_true rfl | (simp only [List.length_map, List.length_append, List.length_replicate, List.length_take, List.length_drop, List.length_set, List.length_cons, List.length_nil]; omega))); (conv => whnf)) | ((refine And.intro ?_ ?_ <;> intro _h); all_goals ((first | replace _h := of_decide_eq_true _h | replace _h := of_decide_eq_false _h | skip); (try simp only [Bool.not_eq_true', Bool.not_eq_false', Bool.not_true, Bool.not_false, decide_eq_true_eq, decide_eq_false_iff_not] at _h); (try (guard_hyp _h : True; clear _h)); first | done | contradiction | exact absurd ((Eq.symm _h).trans (show _ = true by assumption)) (by decide) | exact absurd ((Eq.symm _h).trans (show _ = false by assumption)) (by decide) | (conv => whnf))) | (intro _h; ((first | replace _h := of_decide_eq_true _h | replace _h := of_decide_eq_false _h | skip); (try simp only [Bool.not_eq_true', Bool.not_eq_false', Bool.not_true, Bool.not_false, decide_eq_true_eq, decide_eq_false_iff_not] at _h); (try (guard_hyp _h : True; clear _h)); first | done | contradiction | exact absurd ((Eq.symm _h).trans (show _ = true by assumption)) (by decide) | exact absurd ((Eq.symm _h).trans (show _ = false by assumption)) (by decide) | (conv => whnf)))))
  refine acallI (f30 m 5 n hm (by omega) (by omega) (by omega)) rfl fun r hr => ?_
  obtain ⟨z5, rfl, hz5⟩ := hr
  ((conv => whnf); repeat' (first | (refine And.intro ?_ ?_; (focus (first | rfl | decide | assumption | omega | decide +kernel | exact ⟨rfl, rfl⟩ | exact ⟨rfl, rfl, rfl, rfl⟩ | exact fun h => Bool.noConfusion h | exact fun _ => rfl | exact Nat.le_of_ble_eq_true rfl | (simp only [List.length_map, List.length_append, List.length_replicate, List.length_take, List.length_drop, List.length_set, List.length_cons, List.length_nil]; omega))); (conv => whnf)) | ((refine And.intro ?_ ?_ <;> intro _h); all_goals ((first | replace _h := of_decide_eq_true _h | replace _h := of_decide_eq_false _h | skip); (try simp only [Bool.not_eq_true', Bool.not_eq_false', Bool.not_true, Bool.not_false, decide_eq_true_eq, decide_eq_false_iff_not] at _h); (try (guard_hyp _h : True; clear _h)); first | done | contradiction | exact absurd ((Eq.symm _h).trans (show _ = true by assumption)) (by decide) | exact absurd ((Eq.symm _h).trans (show _ = false by assumption)) (by decide) | (conv => whnf))) | (intro _h; ((first | replace _h := of_decide_eq_true _h | replace _h := of_decide_eq_false _h | skip); (try simp only [Bool.not_eq_true', Bool.not_eq_false', Bool.not_true, Bool.not_false, decide_eq_true_eq, decide_eq_false_iff_not] at _h); (try (guard_hyp _h : True; clear _h)); first | done | contradiction | exact absurd ((Eq.symm _h).trans (show _ = true by assumption)) (by decide) | exact absurd ((Eq.symm _h).trans (show _ = false by assumption)) (by decide) | (conv => whnf)))))
  refine acallI (f30 m 6 n hm (by omega) (by omega) (by omega)) rfl fun r hr => ?_
  obtain ⟨z6, rfl, hz6⟩ := hr
  ((conv => whnf); repeat' (first | (refine And.intro ?_ ?_; (focus (first | rfl | decide | assumption | omega | decide +kernel | exact ⟨rfl, rfl⟩ | exact ⟨rfl, rfl, rfl, rfl⟩ | exact fun h => Bool.noConfusion h | exact fun _ => rfl | exact Nat.le_of_ble_eq_true rfl | (simp only [List.length_map, List.length_append, List.length_replicate, List.length_take, List.length_drop, List.length_set, List.length_cons, List.length_nil]; omega))); (conv => whnf)) | ((refine And.intro ?_ ?_ <;> intro _h); all_goals ((first | replace _h := of_decide_eq_true _h | replace _h := of_decide_eq_false _h | skip); (try simp only [Bool.not_eq_true', Bool.not_eq_false', Bool.not_true, Bool.not_false, decide_eq_true_eq, decide_eq_false_iff_not] at _h); (try (guard_hyp _h : True; clear _h)); first | done | contradiction | exact absurd ((Eq.symm _h).trans (show _ = true by assumption)) (by decide) | exact absurd ((Eq.symm _h).trans (show _ = false by assumption)) (by decide) | (conv => whnf))) | (intro _h; ((first | replace _h := of_decide_eq_true _h | replace _h := of_decide_eq_false _h | skip); (try simp only [Bool.not_eq_true', Bool.not_eq_false', Bool.not_true, Bool.not_false, decide_eq_true_eq, decide_eq_false_iff_not] at _h); (try (guard_hyp _h : True; clear _h)); first | done | contradiction | exact absurd ((Eq.symm _h).trans (show _ = true by assumption)) (by decide) | exact absurd ((Eq.symm _h).trans (show _ = false by assumption)) (by decide) | (conv => whnf)))))
  refine acallI (f30 m 7 n hm (by omega) (by omega) (by omega)) rfl fun r hr => ?_
  obtain ⟨z7, rfl, hz7⟩ := hr
  ((conv => whnf); repeat' (first | (refine And.intro ?_ ?_; (focus (first | rfl | decide | assumption | omega | decide +kernel | exact ⟨rfl, rfl⟩ | exact ⟨rfl, rfl, rfl, rfl⟩ | exact fun h => Bool.noConfusion h | exact fun _ => rfl | exact Nat.le_of_ble_eq_true rfl | (simp only [List.length_map, List.length_append, List.length_replicate, List.length_take, List.length_drop, List.length_set, List.length_cons, List.length_nil]; omega))); (conv => whnf)) | ((refine And.intro ?_ ?_ <;> intro _h); all_goals ((first | replace _h := of_decide_eq_true _h | replace _h := of_decide_eq_false _h | skip); (try simp only [Bool.not_eq_true', Bool.not_eq_false', Bool.not_true, Bool.not_false, decide_eq_true_eq, decide_eq_false_iff_not] at _h); (try (guard_hyp _h : True; clear _h)); first | done | contradiction | exact absurd ((Eq.symm _h).trans (show _ = true by assumption)) (by decide) | exact absurd ((Eq.symm _h).trans (show _ = false by assumption)) (by decide) | (conv => whnf))) | (intro _h; ((first | replace _h := of_decide_eq_true _h | replace _h := of_decide_eq_false _h | skip); (try simp only [Bool.not_eq_true', Bool.not_eq_false', Bool.not_true, Bool.not_false, decide_eq_true_eq, decide_eq_false_iff_not] at _h); (try (guard_hyp _h : True; clear _h)); first | done | contradiction | exact absurd ((Eq.symm _h).trans (show _ = true by assumption)) (by decide) | exact absurd ((Eq.symm _h).trans (show _ = false by assumption)) (by decide) | (conv => whnf)))))
  have hz : ∀ k, k < 8 → (([z0, z1, z2, z3, z4, z5, z6, z7].getD k []).length = n ∧ wfd ([z0, z1, z2, z3, z4, z5, z6, z7].getD k []) ∧ dval ([z0, z1, z2, z3, z4, z5, z6, z7].getD k []) = dval m * 2 ^ k) := fun k hk => by
    match k, hk with
    | 0, _ => exact hz0
    | 1, _ => exact hz1
    | 2, _ => exact hz2
    | 3, _ => exact hz3
    | 4, _ => exact hz4
    | 5, _ => exact hz5
    | 6, _ => exact hz6
    | 7, _ => exact hz7
  have hzc : ∀ k : Nat, k < 8 → [AVal.d (digs z0), .d (digs z1), .d (digs z2), .d (digs z3), .d (digs z4), .d (digs z5), .d (digs z6), .d (digs z7)][k]? = some (.d (digs ([z0, z1, z2, z3, z4, z5, z6, z7].getD k []))) := fun k hk => by
    match k, hk with
    | 0, _ | 1, _ | 2, _ | 3, _ | 4, _ | 5, _ | 6, _ | 7, _ => rfl
  clear hz0 hz1 hz2 hz3 hz4 hz5 hz6 hz7
  have hmlt : dval m < dpw (n - 1) := by
    have h1 := dval_lt hm
    have h2 := dpw_le (show m.length ≤ n - 1 by omega)
    omega
  refine aloop (T := told16) (ι := Nat × List Int) (fun p => [(0, .d (digs a)), (1, .d (digs m)), (5, i64 n), (6, .own 0), (7, .optr 1 0), (9, i64 ((p.1 : Int) - 1))]) (fun p => [(0, .row .i64 3 p.2), (1, .cell 96 [.d (digs z0), .d (digs z1), .d (digs z2), .d (digs z3), .d (digs z4), .d (digs z5), .d (digs z6), .d (digs z7)])]) 70 2
    (fun p => p.1) (fun p => p.1 ≤ a.length ∧ p.2.length = n ∧ wfd p.2 ∧ dval p.2 = dval (a.drop p.1) % dval m)
    ⟨(a.length, List.replicate n 0), [0, 1], rfl, ⟨by dsimp only; omega, by simp, fun x hx => by simp at hx; omega, by dsimp only; rw [List.drop_length, dval_zeros _ fun x hx => by simp at hx; omega]; simp [dval]⟩, by
      (refine ⟨rfl, rfl, ?_, ?_⟩ <;> repeat' (first | exact True.intro | rfl | decide | (refine And.intro ?_ ?_)))
      refine di ?_
      rw [wrap_i64 (by omega) (by omega)]⟩ ?_
  intro ⟨j, r⟩ ⟨hj, hrl, hr, hrv⟩
  dsimp only at hj hrl hr hrv ⊢
  ((conv => whnf); repeat' (first | (refine And.intro ?_ ?_; (focus (first | rfl | decide | assumption | omega | decide +kernel | exact ⟨rfl, rfl⟩ | exact ⟨rfl, rfl, rfl, rfl⟩ | exact fun h => Bool.noConfusion h | exact fun _ => rfl | exact Nat.le_of_ble_eq_true rfl | (simp only [List.length_map, List.length_append, List.length_replicate, List.length_take, List.length_drop, List.length_set, List.length_cons, List.length_nil]; omega))); (conv => whnf)) | ((refine And.intro ?_ ?_ <;> intro _h); all_goals ((first | replace _h := of_decide_eq_true _h | replace _h := of_decide_eq_false _h | skip); (try simp only [Bool.not_eq_true', Bool.not_eq_false', Bool.not_true, Bool.not_false, decide_eq_true_eq, decide_eq_false_iff_not] at _h); (try (guard_hyp _h : True; clear _h)); first | done | contradiction | exact absurd ((Eq.symm _h).trans (show _ = true by assumption)) (by decide) | exact absurd ((Eq.symm _h).trans (show _ = false by assumption)) (by decide) | (conv => whnf))) | (intro _h; ((first | replace _h := of_decide_eq_true _h | replace _h := of_decide_eq_false _h | skip); (try simp only [Bool.not_eq_true', Bool.not_eq_false', Bool.not_true, Bool.not_false, decide_eq_true_eq, decide_eq_false_iff_not] at _h); (try (guard_hyp _h : True; clear _h)); first | done | contradiction | exact absurd ((Eq.symm _h).trans (show _ = true by assumption)) (by decide) | exact absurd ((Eq.symm _h).trans (show _ = false by assumption)) (by decide) | (conv => whnf)))))
  · obtain ⟨i, rfl⟩ : ∃ i, j = i + 1 := ⟨j - 1, by omega⟩
    have hai := ha.get i
    have ei : ((i + 1 : Nat) : Int) - 1 = i := by omega
    rw [ei]
    have hsh : shl n (n - 1) r = r := by
      unfold shl
      rw [show n - 1 + 1 = n by omega, List.take_of_length_le (by omega), show n - 1 - (n - 1) = 0 by omega, List.take_zero, List.append_nil]
    have hrm : dval r < dval m := by rw [hrv]; exact Int.emod_lt_of_pos _ hm0
    refine aloop (T := told16) (ι := Nat) (fun k => [(0, .d (digs a)), (1, .d (digs m)), (5, i64 n), (6, .own 0), (7, .optr 1 0), (9, i64 i), (10, i64 k)]) (fun k => [(0, .row .i64 3 (shl n k r)), (1, .cell 96 [.d (digs z0), .d (digs z1), .d (digs z2), .d (digs z3), .d (digs z4), .d (digs z5), .d (digs z6), .d (digs z7)])]) 70 2
      (fun k => k) (fun k => k + 1 ≤ n) ⟨n - 1, [0, 1], rfl, by omega, by
        (refine ⟨rfl, rfl, ?_, ?_⟩ <;> repeat' (first | exact True.intro | rfl | decide | (refine And.intro ?_ ?_)))
        · refine di ?_
          rw [wrap_i64 (by omega) (by omega)]; omega
        · show some (Ob.row .i64 3 r) = some (Ob.row .i64 3 (shl n (n - 1) r))
          rw [hsh]⟩ ?_
    intro k hk
    have hsl := shl_len hrl hk
    have wk : IntKind.i64.wrap ((k : Int) - 1) = (k : Int) - 1 := wrap_i64 (by omega) (by omega)
    ((conv => whnf); repeat' (first | (refine And.intro ?_ ?_; (focus (first | rfl | decide | assumption | omega | decide +kernel | exact ⟨rfl, rfl⟩ | exact ⟨rfl, rfl, rfl, rfl⟩ | exact fun h => Bool.noConfusion h | exact fun _ => rfl | exact Nat.le_of_ble_eq_true rfl | (simp only [List.length_map, List.length_append, List.length_replicate, List.length_take, List.length_drop, List.length_set, List.length_cons, List.length_nil]; omega))); (conv => whnf)) | ((refine And.intro ?_ ?_ <;> intro _h); all_goals ((first | replace _h := of_decide_eq_true _h | replace _h := of_decide_eq_false _h | skip); (try simp only [Bool.not_eq_true', Bool.not_eq_false', Bool.not_true, Bool.not_false, decide_eq_true_eq, decide_eq_false_iff_not] at _h); (try (guard_hyp _h : True; clear _h)); first | done | contradiction | exact absurd ((Eq.symm _h).trans (show _ = true by assumption)) (by decide) | exact absurd ((Eq.symm _h).trans (show _ = false by assumption)) (by decide) | (conv => whnf))) | (intro _h; ((first | replace _h := of_decide_eq_true _h | replace _h := of_decide_eq_false _h | skip); (try simp only [Bool.not_eq_true', Bool.not_eq_false', Bool.not_true, Bool.not_false, decide_eq_true_eq, decide_eq_false_iff_not] at _h); (try (guard_hyp _h : True; clear _h)); first | done | contradiction | exact absurd ((Eq.symm _h).trans (show _ = true by assumption)) (by decide) | exact absurd ((Eq.symm _h).trans (show _ = false by assumption)) (by decide) | (conv => whnf)))))
    · refine ⟨k - 1, [0, 1], by omega, by omega, rfl, ?_⟩
      (refine ⟨rfl, rfl, ?_, ?_⟩ <;> repeat' (first | exact True.intro | rfl | decide | (refine And.intro ?_ ?_)))
      · refine di ?_
        rw [wk]; omega
      · show some (Ob.row .i64 3 ((shl n k r).set (k : Int).toNat ((shl n k r).getD (IntKind.i64.wrap ((k : Int) - 1)).toNat 0))) = some (Ob.row .i64 3 (shl n (k - 1) r))
        rw [wk, Int.toNat_natCast, show ((k : Int) - 1).toNat = k - 1 by omega, shl_get hrl hk (by omega), shl_set hrl (by omega) hk]
    · have hk0 : k = 0 := by omega
      subst hk0
      have hR : dval (a.getD i 0 :: r.take (n - 1)) = a.getD i 0 + 256 * dval r := by
        simp only [dval]
        rw [dval_take_lt hr (by omega)]
      refine aloop (T := told16) (ι := Nat × List Int) (fun p => [(0, .d (digs a)), (1, .d (digs m)), (5, i64 n), (6, .own 0), (7, .optr 1 0), (9, i64 i), (11, i64 ((p.1 : Int) - 1))]) (fun p => [(0, .row .i64 3 p.2), (1, .cell 96 [.d (digs z0), .d (digs z1), .d (digs z2), .d (digs z3), .d (digs z4), .d (digs z5), .d (digs z6), .d (digs z7)])]) 70 2
        (fun p => p.1) (fun p => p.1 ≤ 8 ∧ p.2.length = n ∧ wfd p.2 ∧ dval p.2 < dval m * 2 ^ p.1 ∧ dval p.2 % dval m = (a.getD i 0 + 256 * dval r) % dval m)
        ⟨(8, a.getD i 0 :: r.take (n - 1)), [0, 1], rfl, ⟨by dsimp only; omega, by simp; omega, (wfd.one hai).append (hr.take _), by dsimp only; rw [hR]; omega, by dsimp only; rw [hR]⟩, by
          (refine ⟨rfl, rfl, ?_, ?_⟩ <;> repeat' (first | exact True.intro | rfl | decide | (refine And.intro ?_ ?_)))
          show some (Ob.row .i64 3 ((shl n 0 r).set 0 (a.getD i 0))) = some (Ob.row .i64 3 (a.getD i 0 :: r.take (n - 1)))
          rw [shl_end hrl (by omega)]⟩ ?_
      intro ⟨q, r2⟩ ⟨hq, hl2, hr2, hlt2, hmod2⟩
      dsimp only at hq hl2 hr2 hlt2 hmod2 ⊢
      ((conv => whnf); repeat' (first | (refine And.intro ?_ ?_; (focus (first | rfl | decide | assumption | omega | decide +kernel | exact ⟨rfl, rfl⟩ | exact ⟨rfl, rfl, rfl, rfl⟩ | exact fun h => Bool.noConfusion h | exact fun _ => rfl | exact Nat.le_of_ble_eq_true rfl | (simp only [List.length_map, List.length_append, List.length_replicate, List.length_take, List.length_drop, List.length_set, List.length_cons, List.length_nil]; omega))); (conv => whnf)) | ((refine And.intro ?_ ?_ <;> intro _h); all_goals ((first | replace _h := of_decide_eq_true _h | replace _h := of_decide_eq_false _h | skip); (try simp only [Bool.not_eq_true', Bool.not_eq_false', Bool.not_true, Bool.not_false, decide_eq_true_eq, decide_eq_false_iff_not] at _h); (try (guard_hyp _h : True; clear _h)); first | done | contradiction | exact absurd ((Eq.symm _h).trans (show _ = true by assumption)) (by decide) | exact absurd ((Eq.symm _h).trans (show _ = false by assumption)) (by decide) | (conv => whnf))) | (intro _h; ((first | replace _h := of_decide_eq_true _h | replace _h := of_decide_eq_false _h | skip); (try simp only [Bool.not_eq_true', Bool.not_eq_false', Bool.not_true, Bool.not_false, decide_eq_true_eq, decide_eq_false_iff_not] at _h); (try (guard_hyp _h : True; clear _h)); first | done | contradiction | exact absurd ((Eq.symm _h).trans (show _ = true by assumption)) (by decide) | exact absurd ((Eq.symm _h).trans (show _ = false by assumption)) (by decide) | (conv => whnf)))))
      · obtain ⟨k, rfl⟩ : ∃ k, q = k + 1 := ⟨q - 1, by omega⟩
        have ek : ((k + 1 : Nat) : Int) - 1 = k := by omega
        rw [ek]
        obtain ⟨zk, hzk⟩ : ∃ zk, [z0, z1, z2, z3, z4, z5, z6, z7].getD k [] = zk := ⟨_, rfl⟩
        obtain ⟨hk1, hk2, hk3⟩ := hz k (by omega)
        have hget := hzc k (by omega)
        rw [hzk] at hk1 hk2 hk3 hget
        have e0k : 0 + (k : Int).toNat = k := by omega
        have hp2 : (2 : Int) ^ (k + 1) = 2 ^ k * 2 := Int.pow_succ ..
        have hm2 : dval m * 2 ^ (k + 1) = dval m * 2 ^ k + dval m * 2 ^ k := by rw [hp2]; grind
        rw [e0k, hget]
        ((conv => whnf); repeat' (first | (refine And.intro ?_ ?_; (focus (first | rfl | decide | assumption | omega | decide +kernel | exact ⟨rfl, rfl⟩ | exact ⟨rfl, rfl, rfl, rfl⟩ | exact fun h => Bool.noConfusion h | exact fun _ => rfl | exact Nat.le_of_ble_eq_true rfl | (simp only [List.length_map, List.length_append, List.length_replicate, List.length_take, List.length_drop, List.length_set, List.length_cons, List.length_nil]; omega))); (conv => whnf)) | ((refine And.intro ?_ ?_ <;> intro _h); all_goals ((first | replace _h := of_decide_eq_true _h | replace _h := of_decide_eq_false _h | skip); (try simp only [Bool.not_eq_true', Bool.not_eq_false', Bool.not_true, Bool.not_false, decide_eq_true_eq, decide_eq_false_iff_not] at _h); (try (guard_hyp _h : True; clear _h)); first | done | contradiction | exact absurd ((Eq.symm _h).trans (show _ = true by assumption)) (by decide) | exact absurd ((Eq.symm _h).trans (show _ = false by assumption)) (by decide) | (conv => whnf))) | (intro _h; ((first | replace _h := of_decide_eq_true _h | replace _h := of_decide_eq_false _h | skip); (try simp only [Bool.not_eq_true', Bool.not_eq_false', Bool.not_true, Bool.not_false, decide_eq_true_eq, decide_eq_false_iff_not] at _h); (try (guard_hyp _h : True; clear _h)); first | done | contradiction | exact absurd ((Eq.symm _h).trans (show _ = true by assumption)) (by decide) | exact absurd ((Eq.symm _h).trans (show _ = false by assumption)) (by decide) | (conv => whnf)))))
        refine acallPI [] (f31 r2 zk hr2 hk2 (by omega) (by omega)) trivial rfl fun r' hr' => ?_
        subst hr'
        refine ⟨rfl, ?_⟩
        ((conv => whnf); repeat' (first | (refine And.intro ?_ ?_; (focus (first | rfl | decide | assumption | omega | decide +kernel | exact ⟨rfl, rfl⟩ | exact ⟨rfl, rfl, rfl, rfl⟩ | exact fun h => Bool.noConfusion h | exact fun _ => rfl | exact Nat.le_of_ble_eq_true rfl | (simp only [List.length_map, List.length_append, List.length_replicate, List.length_take, List.length_drop, List.length_set, List.length_cons, List.length_nil]; omega))); (conv => whnf)) | ((refine And.intro ?_ ?_ <;> intro _h); all_goals ((first | replace _h := of_decide_eq_true _h | replace _h := of_decide_eq_false _h | skip); (try simp only [Bool.not_eq_true', Bool.not_eq_false', Bool.not_true, Bool.not_false, decide_eq_true_eq, decide_eq_false_iff_not] at _h); (try (guard_hyp _h : True; clear _h)); first | done | contradiction | exact absurd ((Eq.symm _h).trans (show _ = true by assumption)) (by decide) | exact absurd ((Eq.symm _h).trans (show _ = false by assumption)) (by decide) | (conv => whnf))) | (intro _h; ((first | replace _h := of_decide_eq_true _h | replace _h := of_decide_eq_false _h | skip); (try simp only [Bool.not_eq_true', Bool.not_eq_false', Bool.not_true, Bool.not_false, decide_eq_true_eq, decide_eq_false_iff_not] at _h); (try (guard_hyp _h : True; clear _h)); first | done | contradiction | exact absurd ((Eq.symm _h).trans (show _ = true by assumption)) (by decide) | exact absurd ((Eq.symm _h).trans (show _ = false by assumption)) (by decide) | (conv => whnf)))))
        · rw [e0k, hget]
          ((conv => whnf); repeat' (first | (refine And.intro ?_ ?_; (focus (first | rfl | decide | assumption | omega | decide +kernel | exact ⟨rfl, rfl⟩ | exact ⟨rfl, rfl, rfl, rfl⟩ | exact fun h => Bool.noConfusion h | exact fun _ => rfl | exact Nat.le_of_ble_eq_true rfl | (simp only [List.length_map, List.length_append, List.length_replicate, List.length_take, List.length_drop, List.length_set, List.length_cons, List.length_nil]; omega))); (conv => whnf)) | ((refine And.intro ?_ ?_ <;> intro _h); all_goals ((first | replace _h := of_decide_eq_true _h | replace _h := of_decide_eq_false _h | skip); (try simp only [Bool.not_eq_true', Bool.not_eq_false', Bool.not_true, Bool.not_false, decide_eq_true_eq, decide_eq_false_iff_not] at _h); (try (guard_hyp _h : True; clear _h)); first | done | contradiction | exact absurd ((Eq.symm _h).trans (show _ = true by assumption)) (by decide) | exact absurd ((Eq.symm _h).trans (show _ = false by assumption)) (by decide) | (conv => whnf))) | (intro _h; ((first | replace _h := of_decide_eq_true _h | replace _h := of_decide_eq_false _h | skip); (try simp only [Bool.not_eq_true', Bool.not_eq_false', Bool.not_true, Bool.not_false, decide_eq_true_eq, decide_eq_false_iff_not] at _h); (try (guard_hyp _h : True; clear _h)); first | done | contradiction | exact absurd ((Eq.symm _h).trans (show _ = true by assumption)) (by decide) | exact absurd ((Eq.symm _h).trans (show _ = false by assumption)) (by decide) | (conv => whnf)))))
          refine acall [0] (f32 r2 zk hr2 hk2 (by omega) (by omega) _h) rfl ⟨⟨by decide, rfl⟩, trivial⟩ rfl (fun h => Bool.noConfusion h) fun st nx r' hr' => ?_
          obtain ⟨r3, rfl, rfl, rfl, h1, h2, h3⟩ := hr'
          ((conv => whnf); repeat' (first | (refine And.intro ?_ ?_; (focus (first | rfl | decide | assumption | omega | decide +kernel | exact ⟨rfl, rfl⟩ | exact ⟨rfl, rfl, rfl, rfl⟩ | exact fun h => Bool.noConfusion h | exact fun _ => rfl | exact Nat.le_of_ble_eq_true rfl | (simp only [List.length_map, List.length_append, List.length_replicate, List.length_take, List.length_drop, List.length_set, List.length_cons, List.length_nil]; omega))); (conv => whnf)) | ((refine And.intro ?_ ?_ <;> intro _h); all_goals ((first | replace _h := of_decide_eq_true _h | replace _h := of_decide_eq_false _h | skip); (try simp only [Bool.not_eq_true', Bool.not_eq_false', Bool.not_true, Bool.not_false, decide_eq_true_eq, decide_eq_false_iff_not] at _h); (try (guard_hyp _h : True; clear _h)); first | done | contradiction | exact absurd ((Eq.symm _h).trans (show _ = true by assumption)) (by decide) | exact absurd ((Eq.symm _h).trans (show _ = false by assumption)) (by decide) | (conv => whnf))) | (intro _h; ((first | replace _h := of_decide_eq_true _h | replace _h := of_decide_eq_false _h | skip); (try simp only [Bool.not_eq_true', Bool.not_eq_false', Bool.not_true, Bool.not_false, decide_eq_true_eq, decide_eq_false_iff_not] at _h); (try (guard_hyp _h : True; clear _h)); first | done | contradiction | exact absurd ((Eq.symm _h).trans (show _ = true by assumption)) (by decide) | exact absurd ((Eq.symm _h).trans (show _ = false by assumption)) (by decide) | (conv => whnf)))))
          refine ⟨(k, r3), [0, 1], by dsimp only; omega, ⟨by dsimp only; omega, by dsimp only; omega, h2, by dsimp only; omega, ?_⟩, rfl, ?_⟩
          · dsimp only
            rw [h3, hk3, ← hmod2, Int.sub_mul_emod_self_left]
          · (refine ⟨rfl, rfl, ?_, ?_⟩ <;> repeat' (first | exact True.intro | rfl | decide | (refine And.intro ?_ ?_)))
            refine di ?_
            rw [wrap_i64 (by omega) (by omega)]
        · refine ⟨(k, r2), [0, 1], by dsimp only; omega, ⟨by dsimp only; omega, hl2, hr2, by dsimp only; omega, hmod2⟩, rfl, ?_⟩
          (refine ⟨rfl, rfl, ?_, ?_⟩ <;> repeat' (first | exact True.intro | rfl | decide | (refine And.intro ?_ ?_)))
          refine di ?_
          rw [wrap_i64 (by omega) (by omega)]
      · have hq0 : q = 0 := by omega
        subst hq0
        refine ⟨(i, r2), [0, 1], by dsimp only; omega, ⟨by dsimp only; omega, hl2, hr2, ?_⟩, rfl, ?_⟩
        · dsimp only
          have h1 : dval r2 = dval r2 % dval m := (Int.emod_eq_of_lt (dval_nonneg hr2) (by omega)).symm
          rw [h1, hmod2, hrv, dval_drop (show i < a.length by omega), Int.add_emod, Int.mul_emod 256 (dval (a.drop (i + 1)) % dval m), Int.emod_emod_of_dvd _ (Int.dvd_refl _), ← Int.mul_emod, ← Int.add_emod]
        · (refine ⟨rfl, rfl, ?_, ?_⟩ <;> repeat' (first | exact True.intro | rfl | decide | (refine And.intro ?_ ?_)))
          refine di ?_
          rw [wrap_i64 (by omega) (by omega)]
  · have hj0 : j = 0 := by omega
    subst hj0
    refine acallI (f29' r hr (by omega)) rfl fun r' hr' => ?_
    obtain ⟨ds, rfl, h1, h2, h3, h4⟩ := hr'
    ((conv => whnf); repeat' (first | (refine And.intro ?_ ?_; (focus (first | rfl | decide | assumption | omega | decide +kernel | exact ⟨rfl, rfl⟩ | exact ⟨rfl, rfl, rfl, rfl⟩ | exact fun h => Bool.noConfusion h | exact fun _ => rfl | exact Nat.le_of_ble_eq_true rfl | (simp only [List.length_map, List.length_append, List.length_replicate, List.length_take, List.length_drop, List.length_set, List.length_cons, List.length_nil]; omega))); (conv => whnf)) | ((refine And.intro ?_ ?_ <;> intro _h); all_goals ((first | replace _h := of_decide_eq_true _h | replace _h := of_decide_eq_false _h | skip); (try simp only [Bool.not_eq_true', Bool.not_eq_false', Bool.not_true, Bool.not_false, decide_eq_true_eq, decide_eq_false_iff_not] at _h); (try (guard_hyp _h : True; clear _h)); first | done | contradiction | exact absurd ((Eq.symm _h).trans (show _ = true by assumption)) (by decide) | exact absurd ((Eq.symm _h).trans (show _ = false by assumption)) (by decide) | (conv => whnf))) | (intro _h; ((first | replace _h := of_decide_eq_true _h | replace _h := of_decide_eq_false _h | skip); (try simp only [Bool.not_eq_true', Bool.not_eq_false', Bool.not_true, Bool.not_false, decide_eq_true_eq, decide_eq_false_iff_not] at _h); (try (guard_hyp _h : True; clear _h)); first | done | contradiction | exact absurd ((Eq.symm _h).trans (show _ = true by assumption)) (by decide) | exact absurd ((Eq.symm _h).trans (show _ = false by assumption)) (by decide) | (conv => whnf)))))
    refine Ends.imm rfl ⟨ds, rfl, by omega, h2, h3, ?_⟩
    rw [h4, hrv]; rfl

/-- Bytes. -/
abbrev byt (xs : List Int) : D := .ints .u8 xs

def sized (n : Nat) : Bool := decide (64 ≤ n) && decide (n ≤ 512) && decide (n % 64 = 0)

theorem k_sized (n : Nat) (hn : n ≤ LIM) : Imm Tryd.prog 46 [i64 n] (fun r => r = bool (sized n)) := by
  have e : ((n : Int).tmod 64 = 0) ↔ n % 64 = 0 := by rw [Int.tmod_eq_emod_of_nonneg (by omega)]; omega
  (refine Imm.of_awp told0 [] Tryd.func46 rfl (by decide) (Nat.le_of_ble_eq_true rfl) ?_; intro _w0 _S0 _E0 _B0; ((conv=>whnf);repeat' (first|((first|(show (_=true→_)∧(_=false→_);first|refine nTt ?_|refine nFf ?_)|(show (_=false→_)∧(_=true→_);first|refine nU ?_|refine nV ?_));conv=>whnf)|((first|(first|refine gD ?_ ?_|refine gE ?_ ?_|refine gI ?_ ?_|refine gJ ?_ ?_|refine gK ?_ ?_|refine gL ?_ ?_|refine splitB ?_ ?_|refine splitB2 ?_ ?_)<;>intro _h|intro _h);all_goals first|contradiction|conv=>whnf)|(show _∧_;refine gA ?_;conv=>whnf)|fail)))
  · refine Ends.imm rfl ?_
    have h1 : 64 ≤ n := by omega
    have h2 : n ≤ 512 := by omega
    simp [sized, e, h1, h2]
  · refine Ends.imm rfl ?_
    have h2 : ¬ n ≤ 512 := by omega
    simp [sized, h2]
  · refine Ends.imm rfl ?_
    have h2 : ¬ 64 ≤ n := by omega
    simp [sized, h2]

def keyD (m n : List Int) (n0 : Int) (rr : List Int) : D := .ptr (.agg [byt m, ringD n n0 rr])

theorem k_size (m n : List Int) (n0 : Int) (rr : List Int) : Imm Tryd.prog 34 [.d (keyD m n n0 rr)] (fun r => r = i64 m.length) := by
  (refine Imm.of_awp told0 [] Tryd.func34 rfl (by decide) (Nat.le_of_ble_eq_true rfl) ?_; intro _w0 _S0 _E0 _B0; ((conv=>whnf);repeat' (first|((first|(show (_=true→_)∧(_=false→_);first|refine nTt ?_|refine nFf ?_)|(show (_=false→_)∧(_=true→_);first|refine nU ?_|refine nV ?_));conv=>whnf)|((first|(first|refine gD ?_ ?_|refine gE ?_ ?_|refine gI ?_ ?_|refine gJ ?_ ?_|refine gK ?_ ?_|refine gL ?_ ?_|refine splitB ?_ ?_|refine splitB2 ?_ ?_)<;>intro _h|intro _h);all_goals first|contradiction|conv=>whnf)|(show _∧_;refine gA ?_;conv=>whnf)|fail)))
  exact Ends.imm rfl rfl

theorem k_n0 (n : List Int) (n0 : Int) (rr : List Int) (h : 0 ≤ n0 ∧ n0 < 4294967296) : Imm Tryd.prog 65 [.d (ringD n n0 rr)] (fun r => r = i64 n0) := by
  (refine Imm.of_awp told0 [] Tryd.func65 rfl (by decide) (Nat.le_of_ble_eq_true rfl) ?_; intro _w0 _S0 _E0 _B0; ((conv=>whnf);repeat' (first|((first|(show (_=true→_)∧(_=false→_);first|refine nTt ?_|refine nFf ?_)|(show (_=false→_)∧(_=true→_);first|refine nU ?_|refine nV ?_));conv=>whnf)|((first|(first|refine gD ?_ ?_|refine gE ?_ ?_|refine gI ?_ ?_|refine gJ ?_ ?_|refine gK ?_ ?_|refine gL ?_ ?_|refine splitB ?_ ?_|refine splitB2 ?_ ?_)<;>intro _h|intro _h);all_goals first|contradiction|conv=>whnf)|(show _∧_;refine gA ?_;conv=>whnf)|fail)))
  exact Ends.imm rfl (di (wrap_i64 (by omega) (by omega)))

theorem k_rr (n : List Int) (n0 : Int) (rr : List Int) (h : rr ≠ []) (hl : rr.length ≤ 1000): Imm Tryd.prog 66 [.d (ringD n n0 rr)] (fun r => r = .d (nat rr)) := by
  (refine Imm.of_awp told0 [2] Tryd.func66 rfl (by decide) (Nat.le_of_ble_eq_true rfl) ?_; intro _w0 _S0 _E0 _B0; ((conv=>whnf);repeat' (first|((first|(show (_=true→_)∧(_=false→_);first|refine nTt ?_|refine nFf ?_)|(show (_=false→_)∧(_=true→_);first|refine nU ?_|refine nV ?_));conv=>whnf)|((first|(first|refine gD ?_ ?_|refine gE ?_ ?_|refine gI ?_ ?_|refine gJ ?_ ?_|refine gK ?_ ?_|refine gL ?_ ?_|refine splitB ?_ ?_|refine splitB2 ?_ ?_)<;>intro _h|intro _h);all_goals first|contradiction|conv=>whnf)|(show _∧_;refine gA ?_;conv=>whnf)|fail)))
  refine acall [] (f27 rr h (by omega)) rfl (by simp [stIn]) rfl (fun _ => rfl) ?_
  rintro st nx r ⟨rfl, rfl, rfl⟩
  ((conv=>whnf);repeat' (first|((first|(show (_=true→_)∧(_=false→_);first|refine nTt ?_|refine nFf ?_)|(show (_=false→_)∧(_=true→_);first|refine nU ?_|refine nV ?_));conv=>whnf)|((first|(first|refine gD ?_ ?_|refine gE ?_ ?_|refine gI ?_ ?_|refine gJ ?_ ?_|refine gK ?_ ?_|refine gL ?_ ?_|refine splitB ?_ ?_|refine splitB2 ?_ ?_)<;>intro _h|intro _h);all_goals first|contradiction|conv=>whnf)|(show _∧_;refine gA ?_;conv=>whnf)|fail))
  exact Ends.imm rfl rfl

/-- A copy: the caller's own. -/
theorem k_cloneO (xs : List Int) (h : xs ≠ []) (hl : xs.length ≤ 1000000) : CSpec Tryd.prog 47 [.d (byt xs)] [] 0 (fun st nx r => st = [(0, .row .u8 5 xs)] ∧ nx = 1 ∧ r = .own 0) := by
  refine CSpec.ends (CSpec.of_awp told0 [] Tryd.func47 rfl (by decide) (Nat.le_of_ble_eq_true rfl) fun _w0 _S0 _E0 _B0 => ?_)
  ((conv=>whnf);repeat' (first|((first|(show (_=true→_)∧(_=false→_);first|refine nTt ?_|refine nFf ?_)|(show (_=false→_)∧(_=true→_);first|refine nU ?_|refine nV ?_));conv=>whnf)|((first|(first|refine gD ?_ ?_|refine gE ?_ ?_|refine gI ?_ ?_|refine gJ ?_ ?_|refine gK ?_ ?_|refine gL ?_ ?_|refine splitB ?_ ?_|refine splitB2 ?_ ?_)<;>intro _h|intro _h);all_goals first|contradiction|conv=>whnf)|(show _∧_;refine gA ?_;conv=>whnf)|fail))
  refine ⟨fun h' => absurd h' h, ?_⟩
  ((conv=>whnf);repeat' (first|((first|(show (_=true→_)∧(_=false→_);first|refine nTt ?_|refine nFf ?_)|(show (_=false→_)∧(_=true→_);first|refine nU ?_|refine nV ?_));conv=>whnf)|((first|(first|refine gD ?_ ?_|refine gE ?_ ?_|refine gI ?_ ?_|refine gJ ?_ ?_|refine gK ?_ ?_|refine gL ?_ ?_|refine splitB ?_ ?_|refine splitB2 ?_ ?_)<;>intro _h|intro _h);all_goals first|contradiction|conv=>whnf)|(show _∧_;refine gA ?_;conv=>whnf)|fail))
  refine ⟨by show (0 + xs.length) * 1 ≤ 140737488355328; omega, ?_⟩
  ((conv=>whnf);repeat' (first|((first|(show (_=true→_)∧(_=false→_);first|refine nTt ?_|refine nFf ?_)|(show (_=false→_)∧(_=true→_);first|refine nU ?_|refine nV ?_));conv=>whnf)|((first|(first|refine gD ?_ ?_|refine gE ?_ ?_|refine gI ?_ ?_|refine gJ ?_ ?_|refine gK ?_ ?_|refine gL ?_ ?_|refine splitB ?_ ?_|refine splitB2 ?_ ?_)<;>intro _h|intro _h);all_goals first|contradiction|conv=>whnf)|(show _∧_;refine gA ?_;conv=>whnf)|fail))
  exact ⟨[0], [(0, .row .u8 5 xs)], .own 0, ⟨rfl, ⟨⟨by decide, rfl⟩, trivial⟩, rfl⟩, rfl, rfl, rfl⟩
theorem k_clone (xs : List Int) (h : xs ≠ []) (hl : xs.length ≤ 1000000) : Imm Tryd.prog 47 [.d (byt xs)] (fun r => r = .d (byt xs)) := by
  (refine Imm.of_awp told0 [2] Tryd.func47 rfl (by decide) (Nat.le_of_ble_eq_true rfl) ?_; intro _w0 _S0 _E0 _B0; ((conv=>whnf);repeat' (first|((first|(show (_=true→_)∧(_=false→_);first|refine nTt ?_|refine nFf ?_)|(show (_=false→_)∧(_=true→_);first|refine nU ?_|refine nV ?_));conv=>whnf)|((first|(first|refine gD ?_ ?_|refine gE ?_ ?_|refine gI ?_ ?_|refine gJ ?_ ?_|refine gK ?_ ?_|refine gL ?_ ?_|refine splitB ?_ ?_|refine splitB2 ?_ ?_)<;>intro _h|intro _h);all_goals first|contradiction|conv=>whnf)|(show _∧_;refine gA ?_;conv=>whnf)|fail)))
  refine ⟨fun h' => absurd h' h, ?_⟩
  ((conv=>whnf);repeat' (first|((first|(show (_=true→_)∧(_=false→_);first|refine nTt ?_|refine nFf ?_)|(show (_=false→_)∧(_=true→_);first|refine nU ?_|refine nV ?_));conv=>whnf)|((first|(first|refine gD ?_ ?_|refine gE ?_ ?_|refine gI ?_ ?_|refine gJ ?_ ?_|refine gK ?_ ?_|refine gL ?_ ?_|refine splitB ?_ ?_|refine splitB2 ?_ ?_)<;>intro _h|intro _h);all_goals first|contradiction|conv=>whnf)|(show _∧_;refine gA ?_;conv=>whnf)|fail))
  refine ⟨by show (0 + xs.length) * 1 ≤ 140737488355328; omega, ?_⟩
  ((conv=>whnf);repeat' (first|((first|(show (_=true→_)∧(_=false→_);first|refine nTt ?_|refine nFf ?_)|(show (_=false→_)∧(_=true→_);first|refine nU ?_|refine nV ?_));conv=>whnf)|((first|(first|refine gD ?_ ?_|refine gE ?_ ?_|refine gI ?_ ?_|refine gJ ?_ ?_|refine gK ?_ ?_|refine gL ?_ ?_|refine splitB ?_ ?_|refine splitB2 ?_ ?_)<;>intro _h|intro _h);all_goals first|contradiction|conv=>whnf)|(show _∧_;refine gA ?_;conv=>whnf)|fail))
  exact Ends.imm rfl rfl
theorem k_cloneN : Imm Tryd.prog 47 [.nls (byt [])] (fun r => r = .nls (byt [])) := by
  (refine Imm.of_awp told0 [] Tryd.func47 rfl (by decide) (Nat.le_of_ble_eq_true rfl) ?_; intro _w0 _S0 _E0 _B0; ((conv=>whnf);repeat' (first|((first|(show (_=true→_)∧(_=false→_);first|refine nTt ?_|refine nFf ?_)|(show (_=false→_)∧(_=true→_);first|refine nU ?_|refine nV ?_));conv=>whnf)|((first|(first|refine gD ?_ ?_|refine gE ?_ ?_|refine gI ?_ ?_|refine gJ ?_ ?_|refine gK ?_ ?_|refine gL ?_ ?_|refine splitB ?_ ?_|refine splitB2 ?_ ?_)<;>intro _h|intro _h);all_goals first|contradiction|conv=>whnf)|(show _∧_;refine gA ?_;conv=>whnf)|fail)))
  exact Ends.imm rfl rfl

theorem rev_take {xs : List Int} {k : Nat} (h : k < xs.length) : xs.reverse.take (k + 1) = xs.reverse.take k ++ [xs.getD (xs.length - 1 - k) 0] := by
  rw [take_snoc (by simpa using h)]
  congr 2
  rw [List.getD_eq_getElem?_getD, List.getD_eq_getElem?_getD, List.getElem?_reverse h]

theorem wfd.reverse {xs : List Int} (h : wfd xs) : wfd xs.reverse := fun x hx => h x (by simpa using hx)

def toldLow : AW.Told := ⟨fun _ => false, fun r i => if r == 6 && i == 1 then [20] else [], fun _ => .done⟩

/-- The reference's number of bytes, the highest first. -/
theorem k_low (b : List Int) (hb : wfd b) (hl : b.length ≤ 100000) : Imm Tryd.prog 49 [.d (byt b)] (fun r => ∃ zs, r = .d (digs zs) ∧ zs.length ≤ b.length ∧ wfd zs ∧ trimmed zs ∧ dval zs = dval b.reverse) := by
  (refine Imm.of_awp toldLow [] Tryd.func49 rfl (by decide) (Nat.le_of_ble_eq_true rfl) ?_; intro _w0 _S0 _E0 _B0; ((conv=>whnf);repeat' (first|((first|(show (_=true→_)∧(_=false→_);first|refine nTt ?_|refine nFf ?_)|(show (_=false→_)∧(_=true→_);first|refine nU ?_|refine nV ?_));conv=>whnf)|((first|(first|refine gD ?_ ?_|refine gE ?_ ?_|refine gI ?_ ?_|refine gJ ?_ ?_|refine gK ?_ ?_|refine gL ?_ ?_|refine splitB ?_ ?_|refine splitB2 ?_ ?_)<;>intro _h|intro _h);all_goals first|contradiction|conv=>whnf)|(show _∧_;refine gA ?_;conv=>whnf)|fail)))
  refine AWp.adopt 3 (.row .i64 3 []) rfl rfl ?_
  refine aloop (T := toldLow) (ι := Nat) (fun k => [(0, .d (byt b)), (3, .own 0), (4, i64 ((b.length : Int) - 1 - k))]) (fun k => [(0, .row .i64 3 (b.reverse.take k))]) 22 1
    (fun k => b.length - k) (fun k => k ≤ b.length)
    ⟨0, [0], rfl, by omega, by (refine ⟨rfl, rfl, ?_, ?_⟩ <;> repeat' (first | exact True.intro | rfl | decide | (refine And.intro ?_ ?_))); exact di (by rw [wrap_i64 (by omega) (by omega)]; omega)⟩ ?_
  intro k hk
  ((conv=>whnf);repeat' (first|((first|(show (_=true→_)∧(_=false→_);first|refine nTt ?_|refine nFf ?_)|(show (_=false→_)∧(_=true→_);first|refine nU ?_|refine nV ?_));conv=>whnf)|((first|(first|refine gD ?_ ?_|refine gE ?_ ?_|refine gI ?_ ?_|refine gJ ?_ ?_|refine gK ?_ ?_|refine gL ?_ ?_|refine splitB ?_ ?_|refine splitB2 ?_ ?_)<;>intro _h|intro _h);all_goals first|contradiction|conv=>whnf)|(show _∧_;refine gA ?_;conv=>whnf)|fail))
  · have e1 : ((b.length : Int) - 1 - k).toNat = b.length - 1 - k := by omega
    have hg := hb.get (b.length - 1 - k)
    have e3 : (b.reverse.take k).length = k := by simp; omega
    refine ⟨by rw [e3]; show (k + 1) * 8 ≤ 140737488355328; omega, ?_⟩
    ((conv=>whnf);repeat' (first|((first|(show (_=true→_)∧(_=false→_);first|refine nTt ?_|refine nFf ?_)|(show (_=false→_)∧(_=true→_);first|refine nU ?_|refine nV ?_));conv=>whnf)|((first|(first|refine gD ?_ ?_|refine gE ?_ ?_|refine gI ?_ ?_|refine gJ ?_ ?_|refine gK ?_ ?_|refine gL ?_ ?_|refine splitB ?_ ?_|refine splitB2 ?_ ?_)<;>intro _h|intro _h);all_goals first|contradiction|conv=>whnf)|(show _∧_;refine gA ?_;conv=>whnf)|fail))
    refine ⟨k + 1, [0], by omega, by omega, rfl, ?_⟩
    (refine ⟨rfl, rfl, ?_, ?_⟩ <;> repeat' (first | exact True.intro | rfl | decide | (refine And.intro ?_ ?_)))
    · exact di (by rw [wrap_i64 (by omega) (by omega)]; omega)
    · show some (Ob.row .i64 _ _) = some (Ob.row .i64 _ _)
      rw [e1, wrap_i64 (by omega) (by omega), rev_take (by omega)]
  · have hk' : k = b.length := by omega
    subst hk'
    refine acallI (f29' (b.reverse.take b.length) (hb.reverse.take _) (by simp; omega)) rfl fun r hr => ?_
    obtain ⟨zs, rfl, h1, h2, h3, h4⟩ := hr
    ((conv=>whnf);repeat' (first|((first|(show (_=true→_)∧(_=false→_);first|refine nTt ?_|refine nFf ?_)|(show (_=false→_)∧(_=true→_);first|refine nU ?_|refine nV ?_));conv=>whnf)|((first|(first|refine gD ?_ ?_|refine gE ?_ ?_|refine gI ?_ ?_|refine gJ ?_ ?_|refine gK ?_ ?_|refine gL ?_ ?_|refine splitB ?_ ?_|refine splitB2 ?_ ?_)<;>intro _h|intro _h);all_goals first|contradiction|conv=>whnf)|(show _∧_;refine gA ?_;conv=>whnf)|fail))
    refine Ends.imm rfl ⟨_, rfl, by simp at h1; omega, h2, h3, ?_⟩
    rw [h4, List.take_of_length_le (by simp)]

def toldHigh : AW.Told := told0

/-- The reference's bytes of a number, the highest first. -/
theorem k_high (a : List Int) (size : Nat) (ha : wfd a) (hs : 1 ≤ size ∧ size ≤ 100000) (hl : a.length ≤ size) : Imm Tryd.prog 53 [.d (digs a), i64 size] (fun r => ∃ zs, r = .d (byt zs) ∧ zs.length = size ∧ wfd zs ∧ dval zs.reverse = dval a) := by
  (refine Imm.of_awp told0 [4] Tryd.func53 rfl (by decide) (Nat.le_of_ble_eq_true rfl) ?_; intro _w0 _S0 _E0 _B0; ((conv=>whnf);repeat' (first|((first|(show (_=true→_)∧(_=false→_);first|refine nTt ?_|refine nFf ?_)|(show (_=false→_)∧(_=true→_);first|refine nU ?_|refine nV ?_));conv=>whnf)|((first|(first|refine gD ?_ ?_|refine gE ?_ ?_|refine gI ?_ ?_|refine gJ ?_ ?_|refine gK ?_ ?_|refine gL ?_ ?_|refine splitB ?_ ?_|refine splitB2 ?_ ?_)<;>intro _h|intro _h);all_goals first|contradiction|conv=>whnf)|(show _∧_;refine gA ?_;conv=>whnf)|fail)))
  refine aloop (T := told0) (ι := Nat) (fun k => [(0, .d (digs a)), (1, i64 size), (5, .own 0), (6, i64 k)]) (fun k => [(0, .row .u8 5 (List.replicate (size - k) 0 ++ (a.take k).reverse))]) 32 1
    (fun k => a.length - k) (fun k => k ≤ a.length)
    ⟨0, [0], rfl, by omega, by (refine ⟨rfl, rfl, ?_, ?_⟩ <;> repeat' (first | exact True.intro | rfl | decide | (refine And.intro ?_ ?_))); simp; rfl⟩ ?_
  intro k hk
  have e1 : IntKind.i64.wrap (IntKind.i64.wrap ((size : Int) - 1) - k) = ((size - 1 - k : Nat) : Int) ∨ a.length ≤ k := by
    rcases Nat.lt_or_ge k a.length with h | h
    · left; rw [wrap_i64 (n := (size : Int) - 1) (by omega) (by omega), wrap_i64 (by omega) (by omega)]; omega
    · exact .inr h
  have fin : a.length ≤ k → AW.Ends 0 (fun st nx r => st = [] ∧ nx = 0 ∧ ∃ zs, r = .d (byt zs) ∧ zs.length = size ∧ wfd zs ∧ dval zs.reverse = dval a) [] 1 (.d (byt (List.replicate (size - k) 0 ++ (a.take k).reverse))) := fun h => by
    refine Ends.imm rfl ⟨_, rfl, by simp; omega, (show wfd (List.replicate (size - k) 0) from fun x hx => by rw [List.eq_of_mem_replicate hx]; omega).append (ha.take k).reverse, ?_⟩
    rw [List.reverse_append, List.reverse_reverse, List.take_of_length_le h, List.reverse_replicate, dval_append, dval_zeros (List.replicate (size - k) 0) (fun x hx => List.eq_of_mem_replicate hx)]
    simp
  ((conv=>whnf);repeat' (first|((first|(show (_=true→_)∧(_=false→_);first|refine nTt ?_|refine nFf ?_)|(show (_=false→_)∧(_=true→_);first|refine nU ?_|refine nV ?_));conv=>whnf)|((first|(first|refine gD ?_ ?_|refine gE ?_ ?_|refine gI ?_ ?_|refine gJ ?_ ?_|refine gK ?_ ?_|refine gL ?_ ?_|refine splitB ?_ ?_|refine splitB2 ?_ ?_)<;>intro _h|intro _h);all_goals first|contradiction|conv=>whnf)|(show _∧_;refine gA ?_;conv=>whnf)|fail))
  · have hka : k < a.length := by omega
    have e1 := e1.resolve_right (by omega)
    have hg := ha.get k
    rw [e1]
    refine ⟨k + 1, [0], by omega, by omega, rfl, ?_⟩
    (refine ⟨rfl, rfl, ?_, ?_⟩ <;> repeat' (first | exact True.intro | rfl | decide | (refine And.intro ?_ ?_)))
    · exact di (by rw [wrap_i64 (by omega) (by omega)]; omega)
    · show some (Ob.row .u8 _ _) = some (Ob.row .u8 _ _)
      congr 2
      have hw : IntKind.u8.wrap (a.getD k 0) = a.getD k 0 := wrap_in.2 ⟨by simp only [loK]; omega, by simp only [hiK]; omega⟩
      have e4 : size - k = (size - 1 - k) + 1 := by omega
      rw [Int.toNat_natCast, Int.toNat_natCast, hw, take_snoc hka, List.reverse_append, List.reverse_singleton, e4, List.replicate_succ', List.append_assoc, List.singleton_append, List.set_append_right _ _ (by simp)]
      simp
      omega
  · exact (by omega : False).elim
  · exact fin (by omega)

/-- A number in n bytes, the highest first. -/
def be (n v : Nat) : List Int := (List.range n).map fun i => ((v / 256 ^ (n - 1 - i) % 256 : Nat) : Int)
theorem be_length (n v : Nat) : (be n v).length = n := by simp [be]
theorem be_wfd (n v : Nat) : wfd (be n v) := fun x hx => by
  simp only [be, List.mem_map] at hx
  obtain ⟨i, _, rfl⟩ := hx
  omega
theorem be_take {n v k : Nat} (h : k < n) : (be n v).take (k + 1) = (be n v).take k ++ [((v / 256 ^ (n - 1 - k) % 256 : Nat) : Int)] := by
  rw [take_snoc (by rw [be_length]; exact h)]
  congr 2
  rw [List.getD_eq_getElem?_getD, be, List.getElem?_map, List.getElem?_range h]; rfl
theorem dval_be (n v : Nat) : dval (be n v).reverse = ((v % 256 ^ n : Nat) : Int) := by
  have : ∀ k, k ≤ n → dval ((be n v).reverse.take k) = ((v % 256 ^ k : Nat) : Int) := fun k => by
    induction k with
    | zero => intro _; simp [dval, Nat.mod_one]
    | succ k ih =>
      intro hk
      rw [rev_take (by rw [be_length]; exact hk), dval_snoc, ih (by omega), List.length_take, List.length_reverse, be_length, Nat.min_eq_left (by omega)]
      have e : (be n v).getD (n - 1 - k) 0 = ((v / 256 ^ k % 256 : Nat) : Int) := by
        rw [List.getD_eq_getElem?_getD, be, List.getElem?_map, List.getElem?_range (by omega)]
        simp only [Option.map_some, Option.getD_some]
        rw [show n - 1 - (n - 1 - k) = k by omega]
      rw [e, Nat.mod_pow_succ, dpw]
      push_cast
      rfl
  have h := this n (Nat.le_refl _)
  rwa [List.take_of_length_le (by simp [be_length])] at h

theorem shr64 (x : Nat) (m : Int) (k : Nat) (hm : m = 8 * k) (hk : k ≤ 8) : (x : Int) / 2 ^ min m.toNat (IntKind.bits .i64) = ((x / 256 ^ k : Nat) : Int) := by
  subst hm
  have e : (8 * (k : Int)).toNat = 8 * k := by omega
  rw [e, Nat.min_eq_left (by simp [IntKind.bits]; omega), Int.pow_mul]
  push_cast
  rfl

def putQ (n v : Nat) (b : List Int) (r : AVal) : Prop := r = .tup [.d (byt (b ++ be n v)), i64 0]

theorem k_put (n v : Nat) (hn : 1 ≤ n ∧ n ≤ 8) (hv : v < 256 ^ n) (hv2 : v ≤ 9223372036854775807) (b : List Int) (hb : b ≠ []) (hl : b.length ≤ 100000) :
    Imm Tryd.prog 64 [.d (byt b), i64 n, i64 v] (putQ n v b) := by
  have w1 : IntKind.i64.wrap (8 * (n : Int)) = 8 * n := wrap_i64 (by omega) (by omega)
  have sh := fun (k : Nat) (hk : k ≤ 8) => shr64 v (8 * (k : Int)) k rfl hk
  have hz : (v : Int) / 2 ^ min (IntKind.i64.wrap (8 * (n : Int))).toNat (IntKind.bits .i64) = 0 := by rw [w1, sh n (by omega), Nat.div_eq_of_lt hv]; rfl
  (refine Imm.of_awp told0 [6] Tryd.func64 rfl (by decide) (Nat.le_of_ble_eq_true rfl) ?_; intro _w0 _S0 _E0 _B0; ((conv=>whnf);repeat' (first|((first|(show (_=true→_)∧(_=false→_);first|refine gT ?_|refine gF ?_)|(show (_=false→_)∧(_=true→_);first|refine gU ?_|refine gV ?_));conv=>whnf)|((first|(first|refine gD ?_ ?_|refine gE ?_ ?_|refine gI ?_ ?_|refine gJ ?_ ?_|refine gK ?_ ?_|refine gL ?_ ?_|refine splitB ?_ ?_|refine splitB2 ?_ ?_)<;>intro _h|intro _h);all_goals first|contradiction|conv=>whnf)|(show _∧_;refine gA ?_;conv=>whnf)|fail)))
  all_goals
    refine acall [] (k_cloneO b hb (by omega)) rfl (by simp [stIn]) rfl (fun _ => rfl) ?_
    rintro st nx r ⟨rfl, rfl, rfl⟩
    ((conv=>whnf);repeat' (first|((first|(show (_=true→_)∧(_=false→_);first|refine nTt ?_|refine nFf ?_)|(show (_=false→_)∧(_=true→_);first|refine nU ?_|refine nV ?_));conv=>whnf)|((first|(first|refine gD ?_ ?_|refine gE ?_ ?_|refine gI ?_ ?_|refine gJ ?_ ?_|refine gK ?_ ?_|refine gL ?_ ?_|refine splitB ?_ ?_|refine splitB2 ?_ ?_)<;>intro _h|intro _h);all_goals first|contradiction|conv=>whnf)|(show _∧_;refine gA ?_;conv=>whnf)|fail))
    refine aloop (T := told0) (ι := Nat) (fun k => [(1, i64 n), (2, i64 v), (8, .own 0), (9, i64 ((n : Int) - 1 - k))]) (fun k => [(0, .row .u8 5 (b ++ (be n v).take k))]) 48 1
      (fun k => n - k) (fun k => k ≤ n)
      ⟨0, [0], rfl, by omega, by (refine ⟨rfl, rfl, ?_, ?_⟩ <;> repeat' (first | exact True.intro | rfl | decide | (refine And.intro ?_ ?_))); exact di (by rw [wrap_i64 (by omega) (by omega)]; omega); simp; rfl⟩ ?_
    intro k hk
    rcases Nat.lt_or_ge k n with hkn | hkn
    · have e1 : IntKind.i64.wrap (8 * ((n : Int) - 1 - k)) = 8 * (n - 1 - k : Nat) := by rw [wrap_i64 (by omega) (by omega)]; omega
      have hlen : (b ++ (be n v).take k).length = b.length + k := by simp [be_length]; omega
      have e2 : IntKind.u8.wrap (((v / 256 ^ (n - 1 - k) : Nat) : Int)) = ((v / 256 ^ (n - 1 - k) % 256 : Nat) : Int) := by
        generalize v / 256 ^ (n - 1 - k) = q
        simp [IntKind.wrap, IntKind.bits, IntKind.signed]
      have e0 : (0 : Int) ≤ IntKind.i64.wrap (8 * ((n : Int) - 1 - k)) := by omega
      ((conv=>whnf);repeat' (first|((first|(show (_=true→_)∧(_=false→_);first|refine gT ?_|refine gF ?_)|(show (_=false→_)∧(_=true→_);first|refine gU ?_|refine gV ?_));conv=>whnf)|((first|(first|refine gD ?_ ?_|refine gE ?_ ?_|refine gI ?_ ?_|refine gJ ?_ ?_|refine gK ?_ ?_|refine gL ?_ ?_|refine splitB ?_ ?_|refine splitB2 ?_ ?_)<;>intro _h|intro _h);all_goals first|contradiction|conv=>whnf)|(show _∧_;refine gA ?_;conv=>whnf)|fail))
      refine ⟨by rw [hlen]; show (b.length + k + 1) * 1 ≤ 140737488355328; omega, ?_⟩
      ((conv=>whnf);repeat' (first|((first|(show (_=true→_)∧(_=false→_);first|refine gT ?_|refine gF ?_)|(show (_=false→_)∧(_=true→_);first|refine gU ?_|refine gV ?_));conv=>whnf)|((first|(first|refine gD ?_ ?_|refine gE ?_ ?_|refine gI ?_ ?_|refine gJ ?_ ?_|refine gK ?_ ?_|refine gL ?_ ?_|refine splitB ?_ ?_|refine splitB2 ?_ ?_)<;>intro _h|intro _h);all_goals first|contradiction|conv=>whnf)|(show _∧_;refine gA ?_;conv=>whnf)|fail))
      refine ⟨k + 1, [0], by omega, by omega, rfl, ?_⟩
      (refine ⟨rfl, rfl, ?_, ?_⟩ <;> repeat' (first | exact True.intro | rfl | decide | (refine And.intro ?_ ?_)))
      · exact di (by rw [wrap_i64 (by omega) (by omega)]; omega)
      · show some (Ob.row .u8 _ _) = some (Ob.row .u8 _ _)
        rw [e1, sh _ (by omega), e2, be_take (by omega), List.append_assoc]
    · have hk' : k = n := by omega
      subst hk'
      ((conv=>whnf);repeat' (first|((first|(show (_=true→_)∧(_=false→_);first|refine gT ?_|refine gF ?_)|(show (_=false→_)∧(_=true→_);first|refine gU ?_|refine gV ?_));conv=>whnf)|((first|(first|refine gD ?_ ?_|refine gE ?_ ?_|refine gI ?_ ?_|refine gJ ?_ ?_|refine gK ?_ ?_|refine gL ?_ ?_|refine splitB ?_ ?_|refine splitB2 ?_ ?_)<;>intro _h|intro _h);all_goals first|contradiction|conv=>whnf)|(show _∧_;refine gA ?_;conv=>whnf)|fail))
      refine Ends.imm rfl ?_
      show _ = _
      rw [List.take_of_length_le (by rw [be_length]; omega)]

theorem k_putN (n v : Nat) (hn : 1 ≤ n ∧ n ≤ 8) (hv : v < 256 ^ n) (hv2 : v ≤ 9223372036854775807) :
    Imm Tryd.prog 64 [.nls (byt []), i64 n, i64 v] (putQ n v []) := by
  have w1 : IntKind.i64.wrap (8 * (n : Int)) = 8 * n := wrap_i64 (by omega) (by omega)
  have sh := fun (k : Nat) (hk : k ≤ 8) => shr64 v (8 * (k : Int)) k rfl hk
  have hz : (v : Int) / 2 ^ min (IntKind.i64.wrap (8 * (n : Int))).toNat (IntKind.bits .i64) = 0 := by rw [w1, sh n (by omega), Nat.div_eq_of_lt hv]; rfl
  (refine Imm.of_awp told0 [6] Tryd.func64 rfl (by decide) (Nat.le_of_ble_eq_true rfl) ?_; intro _w0 _S0 _E0 _B0; ((conv=>whnf);repeat' (first|((first|(show (_=true→_)∧(_=false→_);first|refine gT ?_|refine gF ?_)|(show (_=false→_)∧(_=true→_);first|refine gU ?_|refine gV ?_));conv=>whnf)|((first|(first|refine gD ?_ ?_|refine gE ?_ ?_|refine gI ?_ ?_|refine gJ ?_ ?_|refine gK ?_ ?_|refine gL ?_ ?_|refine splitB ?_ ?_|refine splitB2 ?_ ?_)<;>intro _h|intro _h);all_goals first|contradiction|conv=>whnf)|(show _∧_;refine gA ?_;conv=>whnf)|fail)))
  all_goals
    refine acallI k_cloneN rfl fun r hr => ?_
    subst hr
    ((conv=>whnf);repeat' (first|((first|(show (_=true→_)∧(_=false→_);first|refine nTt ?_|refine nFf ?_)|(show (_=false→_)∧(_=true→_);first|refine nU ?_|refine nV ?_));conv=>whnf)|((first|(first|refine gD ?_ ?_|refine gE ?_ ?_|refine gI ?_ ?_|refine gJ ?_ ?_|refine gK ?_ ?_|refine gL ?_ ?_|refine splitB ?_ ?_|refine splitB2 ?_ ?_)<;>intro _h|intro _h);all_goals first|contradiction|conv=>whnf)|(show _∧_;refine gA ?_;conv=>whnf)|fail))
    refine AWp.adopt 8 (.row .u8 5 []) rfl rfl ?_
    refine aloop (T := told0) (ι := Nat) (fun k => [(1, i64 n), (2, i64 v), (8, .own 0), (9, i64 ((n : Int) - 1 - k))]) (fun k => [(0, .row .u8 5 ([] ++ (be n v).take k))]) 48 1
      (fun k => n - k) (fun k => k ≤ n)
      ⟨0, [0], rfl, by omega, by (refine ⟨rfl, rfl, ?_, ?_⟩ <;> repeat' (first | exact True.intro | rfl | decide | (refine And.intro ?_ ?_))); exact di (by rw [wrap_i64 (by omega) (by omega)]; omega)⟩ ?_
    intro k hk
    rcases Nat.lt_or_ge k n with hkn | hkn
    · have e1 : IntKind.i64.wrap (8 * ((n : Int) - 1 - k)) = 8 * (n - 1 - k : Nat) := by rw [wrap_i64 (by omega) (by omega)]; omega
      have hlen : ([] ++ (be n v).take k).length = k := by simp [be_length]; omega
      have e2 : IntKind.u8.wrap (((v / 256 ^ (n - 1 - k) : Nat) : Int)) = ((v / 256 ^ (n - 1 - k) % 256 : Nat) : Int) := by
        generalize v / 256 ^ (n - 1 - k) = q
        simp [IntKind.wrap, IntKind.bits, IntKind.signed]
      have e0 : (0 : Int) ≤ IntKind.i64.wrap (8 * ((n : Int) - 1 - k)) := by omega
      ((conv=>whnf);repeat' (first|((first|(show (_=true→_)∧(_=false→_);first|refine gT ?_|refine gF ?_)|(show (_=false→_)∧(_=true→_);first|refine gU ?_|refine gV ?_));conv=>whnf)|((first|(first|refine gD ?_ ?_|refine gE ?_ ?_|refine gI ?_ ?_|refine gJ ?_ ?_|refine gK ?_ ?_|refine gL ?_ ?_|refine splitB ?_ ?_|refine splitB2 ?_ ?_)<;>intro _h|intro _h);all_goals first|contradiction|conv=>whnf)|(show _∧_;refine gA ?_;conv=>whnf)|fail))
      refine ⟨by rw [hlen]; show (k + 1) * 1 ≤ 140737488355328; omega, ?_⟩
      ((conv=>whnf);repeat' (first|((first|(show (_=true→_)∧(_=false→_);first|refine gT ?_|refine gF ?_)|(show (_=false→_)∧(_=true→_);first|refine gU ?_|refine gV ?_));conv=>whnf)|((first|(first|refine gD ?_ ?_|refine gE ?_ ?_|refine gI ?_ ?_|refine gJ ?_ ?_|refine gK ?_ ?_|refine gL ?_ ?_|refine splitB ?_ ?_|refine splitB2 ?_ ?_)<;>intro _h|intro _h);all_goals first|contradiction|conv=>whnf)|(show _∧_;refine gA ?_;conv=>whnf)|fail))
      refine ⟨k + 1, [0], by omega, by omega, rfl, ?_⟩
      (refine ⟨rfl, rfl, ?_, ?_⟩ <;> repeat' (first | exact True.intro | rfl | decide | (refine And.intro ?_ ?_)))
      · exact di (by rw [wrap_i64 (by omega) (by omega)]; omega)
      · show some (Ob.row .u8 _ _) = some (Ob.row .u8 _ _)
        rw [e1, sh _ (by omega), e2, be_take (by omega), List.append_assoc]
    · have hk' : k = n := by omega
      subst hk'
      ((conv=>whnf);repeat' (first|((first|(show (_=true→_)∧(_=false→_);first|refine gT ?_|refine gF ?_)|(show (_=false→_)∧(_=true→_);first|refine gU ?_|refine gV ?_));conv=>whnf)|((first|(first|refine gD ?_ ?_|refine gE ?_ ?_|refine gI ?_ ?_|refine gJ ?_ ?_|refine gK ?_ ?_|refine gL ?_ ?_|refine splitB ?_ ?_|refine splitB2 ?_ ?_)<;>intro _h|intro _h);all_goals first|contradiction|conv=>whnf)|(show _∧_;refine gA ?_;conv=>whnf)|fail))
      refine Ends.imm rfl ?_
      show _ = _
      rw [List.take_of_length_le (by rw [be_length]; omega)]

end Go.Proofs.YtniaeiikdgbnfaaDoor.R
namespace Go.Proofs.YtniaeiikdgbnfaaDoor.R
open Go Go.RowKit Go.Proofs Go.Proofs.YtniaeiikdgbnfaaDoor.AW
set_option linter.unusedSectionVars false
variable [Globs]
attribute [local go_sem] Oper.semAt_some
set_option maxRecDepth 100000
set_option linter.unusedSimpArgs false
set_option linter.unusedVariables false
set_option maxHeartbeats 4000000

theorem itB (l b o b2 o2 c : Nat) (A : Option Addr) (xs : List Int) (J : Nat → World → Prop) (Jx : World → Prop) (W : World) (hl : xs.length ≤ LIM) (hA : 0 < xs.length → A = some ⟨b2, o2, none⟩)
   (hG : ∀ k W, J k W → W.cell? ⟨b, o, none⟩ = some (.slice A xs.length c) ∧ ∀ i, i < xs.length → W.cell? ⟨b2, o2 + i, none⟩ = some (.int .u8 (xs.getD i 0)))
   (hY : ∀ k W, k < xs.length → J k W → YieldAt (fence none) 0 Tryd.prog l #[.int .i64 ((xs.length : Int) - 1 - k), .int .u8 (xs.getD (xs.length - 1 - k) 0)] W fun e W' => (e = .returned (.bool true) ∧ J (k + 1) W') ∨ (e = .returned (.bool false) ∧ Jx W'))
   (h0 : J 0 W) : CallsIn Fence.wide 0 Tryd.prog 84 #[.func (.yield l) #[] #[], .pointer (some ⟨b, o, none⟩)] W fun e W' => (∃ v, e = .returned v) ∧ (J xs.length W' ∨ Jx W') := by
  unfold LIM at hl
  have hc := (hG 0 W h0).1
  refine callsIn_of_wp Tryd.func84 rfl trivial ?_ rfl
  simp only [Tryd.ntmps84, List.size_toArray, List.length_cons, List.length_nil, Nat.reduceAdd, Nat.reduceSub, Array.replicate_succ, Array.replicate_zero, List.push_toArray, List.append_toArray, List.nil_append, List.cons_append]
  gi_wp2
  clear hc
  gi_loopw [3] (fun i wr => ∃ k : Nat, k ≤ xs.length ∧ i = .int .i64 ((xs.length : Int) - 1 - k) ∧ J k wr) (fun i _ => (intOf i + 1).toNat)
  case atStart => exact ⟨0, Nat.zero_le _, by simp, h0⟩
  case round =>
    obtain ⟨k, hk, rfl, hJ⟩ := hrel
    by_cases hlt : k < xs.length
    · have hA' := hA (by omega)
      subst hA'
      have hc := (hG k _ hJ).1
      have hc2 := (hG k _ hJ).2 (xs.length - 1 - k) (by omega)
      obtain ⟨fn, tmps, assign, body, hy, hR⟩ := hY k _ hlt hJ
      have hn : ((xs.length : Int) - 1 - k).toNat = xs.length - 1 - k := by omega
      clear hG hY hA
      rw [List.getD_eq_getElem?_getD] at hc2 hy
      gi_wp2
      refine ⟨rfl, RoundIn.mono hR ?_⟩
      rintro e W' (⟨rfl, hJ'⟩ | ⟨rfl, hJ'⟩)
      · gi_wp2
        go_roundw
        case rel => exact ⟨k + 1, by omega, by simp; omega, hJ'⟩
        case measure => simp [intOf]; omega
      · gi_wp2
        exact bodyPost_ret (results_none rfl _ _ _) rfl ⟨⟨_, rfl⟩, .inr hJ'⟩
    · have : k = xs.length := by omega
      subst this
      gi_wp2
      go_end0
      exact ⟨⟨_, rfl⟩, .inl hJ⟩

/-- A range from the end to the beginning. -/
theorem aiB (xs : List Int) : AIter Tryd.prog 84 [.ptr (byt xs)] xs.length (fun k => [.int .i64 ((xs.length : Int) - 1 - k), .int .u8 (xs.getD (xs.length - 1 - k) 0)]) := by
  refine ⟨⟨_, Tryd.func84, rfl, by decide⟩, fun w S lb h => ?_⟩
  simp only [RepAll, Rep] at h
  obtain ⟨c1, c2, e, ⟨b, o, rfl, hSb, vs, hcb, A, c, rfl, hle, hL, hwf, hne⟩, rfl⟩ := h
  have hlb : lb = #[.pointer (some ⟨b, o, none⟩)] := by apply Array.ext'; simpa using e
  subst hlb
  refine ⟨fun k => #[.int .i64 ((xs.length : Int) - 1 - k), .int .u8 (xs.getD (xs.length - 1 - k) 0)], fun k hk => ?_, fun l J Jx W hJg hJxg hG hY h0 => ?_⟩
  · have hm : xs.getD (xs.length - 1 - k) 0 ∈ xs := by
      rw [List.getD_eq_getElem?_getD, List.getElem?_eq_getElem (by omega)]
      exact List.getElem_mem _
    unfold LIM at hL
    simp only [List.map_cons, List.map_nil, VAll, VRel, Rep]
    exact ⟨_, _, rfl, ⟨_, ⟨rfl, wrap_i64 (by omega) (by omega)⟩, rfl⟩, _, _, rfl, ⟨_, ⟨rfl, hwf _ hm⟩, rfl⟩, rfl⟩
  · have hcell : ∀ W : World, (∀ b, S b → W.heap[b]? = w.heap[b]?) → W.cell? ⟨b, o, none⟩ = some (.slice A xs.length c) := fun W hW => by
      have := (Cells.keep hcb (hW b hSb)) 0 _ rfl
      simpa using this
    refine callsIn_fence.1 (?_ : CallsIn Fence.wide 0 _ _ _ _ _)
    by_cases h0' : xs = []
    · subst h0'
      exact itB l b o 0 0 c A [] J Jx W (Nat.zero_le _) (fun h => by simp at h) (fun k W hJ => ⟨hcell W (hG k W hJ), fun i hi => by simp at hi⟩) hY h0
    · obtain ⟨b2, o2, rfl, hS2, hc2⟩ := hne h0'
      exact itB l b o b2 o2 c _ xs J Jx W hL (fun _ => rfl) (fun k W hJ => ⟨hcell W (hG k W hJ), fun i hi => by
        refine (Cells.keep hc2 (hG k W hJ b2 hS2)) i _ ?_
        rw [List.getElem?_map, List.getElem?_eq_getElem hi, List.getD_eq_getElem?_getD, List.getElem?_eq_getElem hi]; rfl⟩) hY h0

theorem k_backB (xs : List Int) : Imm Tryd.prog 55 [.d (byt xs)] (fun r => r = .d (.fn 84 [.ptr (byt xs)])) := by
  (refine Imm.of_awp (⟨fun _ => false, fun r i => if r == 1 && i == 0 then [1] else [], fun _ => .done⟩ : AW.Told) [] Tryd.func55 rfl (by decide) (Nat.le_of_ble_eq_true rfl) ?_; intro _w0 _S0 _E0 _B0; ((conv => whnf); repeat' (first | (refine And.intro ?_ ?_; (focus (first | rfl | decide | assumption | omega | decide +kernel | exact ⟨rfl, rfl⟩ | exact ⟨rfl, rfl, rfl, rfl⟩ | exact fun h => Bool.noConfusion h | exact fun _ => rfl | exact Nat.le_of_ble_eq_true rfl | (simp only [List.length_map, List.length_append, List.length_replicate, List.length_take, List.length_drop, List.length_set, List.length_cons, List.length_nil]; omega))); (conv => whnf)) | ((refine And.intro ?_ ?_ <;> intro _h); all_goals ((first | replace _h := of_decide_eq_true _h | replace _h := of_decide_eq_false _h | skip); (try simp only [Bool.not_eq_true', Bool.not_eq_false', Bool.not_true, Bool.not_false, decide_eq_true_eq, decide_eq_false_iff_not] at _h); (try (guard_hyp _h : True; clear _h)); first | done | contradiction | exact absurd ((Eq.symm _h).trans (show _ = true by assumption)) (by decide) | exact absurd ((Eq.symm _h).trans (show _ = false by assumption)) (by decide) | (conv => whnf))) | (intro _h; ((first | replace _h := of_decide_eq_true _h | replace _h := of_decide_eq_false _h | skip); (try simp only [Bool.not_eq_true', Bool.not_eq_false', Bool.not_true, Bool.not_false, decide_eq_true_eq, decide_eq_false_iff_not] at _h); (try (guard_hyp _h : True; clear _h)); first | done | contradiction | exact absurd ((Eq.symm _h).trans (show _ = true by assumption)) (by decide) | exact absurd ((Eq.symm _h).trans (show _ = false by assumption)) (by decide) | (conv => whnf))))))
  exact Ends.imm rfl rfl
end Go.Proofs.YtniaeiikdgbnfaaDoor.R
namespace Go.Proofs.YtniaeiikdgbnfaaDoor.R
open Go Go.RowKit Go.Proofs Go.Proofs.YtniaeiikdgbnfaaDoor.AW
set_option linter.unusedSectionVars false
variable [Globs]
set_option maxRecDepth 100000
set_option linter.unusedSimpArgs false
set_option linter.unusedVariables false
set_option maxHeartbeats 4000000

theorem val_set : ∀ (xs : List Int) (j : Nat) (v : Int), j < xs.length → val (xs.set j v) = val xs + pw j * (v - xs.getD j 0)
  | [], j, v, h => by simp at h
  | x :: xs, 0, v, _ => by simp [val, pw_zero]; omega
  | x :: xs, j + 1, v, h => by
    have := val_set xs j v (by simpa using h)
    simp only [List.set_cons_succ, val, this, pw_succ, List.getD_cons_succ]
    grind

theorem or_step (x c : Int) (s : Nat) (hs : s < 4) (hx : 0 ≤ x) (hx2 : x < 256 ^ s) (hc : 0 ≤ c) (hc2 : c < 256) (m : Int) (hm : m = 8 * s) :
    bitsK .or .u32 x (IntKind.u32.wrap (c * 2 ^ (min m.toNat (IntKind.bits .u32)))) = x + 256 ^ s * c := by
  obtain ⟨a, rfl⟩ : ∃ a : Nat, x = a := ⟨x.toNat, by omega⟩
  obtain ⟨d, rfl⟩ : ∃ a : Nat, c = a := ⟨c.toNat, by omega⟩
  subst hm
  have e : min (8 * (s : Int)).toNat (IntKind.bits .u32) = 8 * s := by
    have : (8 * (s : Int)).toNat = 8 * s := by omega
    rw [this, Nat.min_eq_left (by simp [IntKind.bits]; omega)]
  have hp : (256 : Nat) ^ s = 2 ^ (8 * s) := by rw [Nat.pow_mul]
  have ha : a < 2 ^ (8 * s) := by rw [← hp]; exact_mod_cast hx2
  have h24 : 2 ^ (8 * s) ≤ 2 ^ 24 := Nat.pow_le_pow_right (by omega) (by omega)
  have hd : d < 256 := by omega
  have hdd : d * 2 ^ (8 * s) < 4294967296 := by
    have : d * 2 ^ (8 * s) ≤ 255 * 2 ^ 24 := Nat.mul_le_mul (by omega) h24
    omega
  rw [e]
  have e2 : IntKind.u32.wrap ((d : Int) * 2 ^ (8 * s)) = ((d * 2 ^ (8 * s) : Nat) : Int) := by
    have e3 : (d : Int) * 2 ^ (8 * s) = ((d * 2 ^ (8 * s) : Nat) : Int) := by push_cast; rfl
    rw [e3, wrap_u32 (by omega) (by omega)]
  rw [e2]
  have e4 : a ||| d * 2 ^ (8 * s) = a + 2 ^ (8 * s) * d := by
    have := Nat.shiftLeft_add_eq_or_of_lt ha d
    rw [Nat.shiftLeft_eq] at this
    rw [Nat.or_comm, ← this, Nat.mul_comm, Nat.add_comm]
  have e5 : d * 2 ^ (8 * s) = 2 ^ (8 * s) * d := Nat.mul_comm ..
  have hlt : a + 2 ^ (8 * s) * d < 4294967296 := by
    have h1 : 2 ^ (8 * s) * d ≤ 2 ^ (8 * s) * 255 := Nat.mul_le_mul_left _ (by omega)
    omega
  have e6 : (BitVec.ofInt 32 (a : Int) ||| BitVec.ofInt 32 ((d * 2 ^ (8 * s) : Nat) : Int)).toNat = a ||| d * 2 ^ (8 * s) := by
    simp only [BitVec.ofInt_natCast, BitVec.toNat_or, BitVec.toNat_ofNat]
    rw [Nat.mod_eq_of_lt (by omega), Nat.mod_eq_of_lt (by omega)]
  show IntKind.u32.wrap ((BitVec.ofInt 32 (a : Int) ||| BitVec.ofInt 32 ((d * 2 ^ (8 * s) : Nat) : Int)).toNat : Int) = _
  rw [e6, e4, wrap_u32 (by omega) (by omega), ← hp]
  push_cast
  rfl

def keep4 (k : Nat) (n : List Int) : Prop := (∀ j, k / 4 < j → n.getD j 0 = 0) ∧ n.getD (k / 4) 0 < 256 ^ (k % 4)

theorem getD_set (n : List Int) (j : Nat) (x : Int) (i : Nat) : (n.set j x).getD i 0 = if i = j ∧ j < n.length then x else n.getD i 0 := by
  rw [List.getD_eq_getElem?_getD, List.getD_eq_getElem?_getD, List.getElem?_set]
  split
  · rename_i h; subst h
    split
    · rename_i h; rw [if_pos ⟨rfl, h⟩]; rfl
    · rename_i h; rw [if_neg (by omega), List.getElem?_eq_none (by omega)]
  · rename_i h; rw [if_neg (by omega)]

theorem pw_dpw (j s : Nat) : pw j * 256 ^ s = dpw (4 * j + s) := by
  unfold pw dpw
  rw [Int.pow_add, Int.pow_mul]
  rfl

theorem from_step (b n : List Int) (w k : Nat) (hb : wfd b) (hk : k < b.length) (hkw : k / 4 < w) (hn : n.length = w) (hwf : wfl n) (hv : val n = dval (b.reverse.take k)) (hz : keep4 k n) {c : Int} (hc : c = b.getD (b.length - 1 - k) 0) :
    (n.set (k / 4) (n.getD (k / 4) 0 + 256 ^ (k % 4) * c)).length = w ∧ wfl (n.set (k / 4) (n.getD (k / 4) 0 + 256 ^ (k % 4) * c)) ∧ val (n.set (k / 4) (n.getD (k / 4) 0 + 256 ^ (k % 4) * c)) = dval (b.reverse.take (k + 1)) ∧
      keep4 (k + 1) (n.set (k / 4) (n.getD (k / 4) 0 + 256 ^ (k % 4) * c)) := by
  obtain ⟨hz, hlt⟩ := hz
  have hg := hb.get (b.length - 1 - k)
  rw [← hc] at hg
  have hx := hwf.get (k / 4)
  have hs : k % 4 < 4 := Nat.mod_lt _ (by omega)
  have key : n.getD (k / 4) 0 + 256 ^ (k % 4) * c < 256 ^ (k % 4 + 1) := by
    rw [Int.pow_succ]
    have : (256 : Int) ^ (k % 4) * c ≤ 256 ^ (k % 4) * 255 := Int.mul_le_mul_of_nonneg_left (by omega) (Int.le_of_lt (Int.pow_pos (by omega)))
    omega
  have hnn : (0 : Int) ≤ 256 ^ (k % 4) * c := Int.mul_nonneg (Int.le_of_lt (Int.pow_pos (by omega))) hg.1
  have hb4 : (256 : Int) ^ (k % 4 + 1) ≤ 4294967296 := by
    have : ∀ s : Fin 4, (256 : Int) ^ (s.val + 1) ≤ 4294967296 := by decide
    exact this ⟨k % 4, hs⟩
  refine ⟨by simp [hn], hwf.set _ ⟨by omega, by omega⟩, ?_, fun j hj => ?_, ?_⟩
  · rw [val_set _ _ _ (by omega), hv, rev_take hk, dval_snoc, ← hc]
    have e : (b.reverse.take k).length = k := by simp; omega
    have e2 : 4 * (k / 4) + k % 4 = k := Nat.div_add_mod k 4
    rw [e, ← congrArg dpw e2, ← pw_dpw]
    generalize n.getD (k / 4) 0 = x
    grind
  · rw [getD_set, if_neg (by omega)]
    exact hz j (by omega)
  · rw [getD_set]
    split
    · rename_i h
      have h4 : (k + 1) % 4 = k % 4 + 1 := by omega
      rw [h4]; exact key
    · rename_i h
      have h4 : (k + 1) / 4 = k / 4 + 1 := by omega
      rw [h4, hz _ (by omega)]
      exact Int.pow_pos (by omega)

def toldFrom : AW.Told := ⟨fun _ => false, fun r i => [], fun r => if r == 9 then .take 0 (.take 1 (.take 2 (.take 3 (.take 4 (.take 5 (.take 6 (.take 7 (.take 8 (.take 9 (.take 10 (.take 11 (.take 12 (.one 13 .done))))))))))))) else .done⟩

theorem k_from (b : List Int) (w : Nat) (hb : wfd b) (hw : 1 ≤ w ∧ w ≤ 256) (hl : b.length ≤ 4 * w) : Imm Tryd.prog 24 [.d (byt b), i64 w] (fun r => ∃ n, r = .tup [.d (nat n), i64 0] ∧ n.length = w ∧ wfl n ∧ val n = dval b.reverse) := by
  (refine Imm.of_awp toldFrom [48] Tryd.func24 rfl (by decide) (Nat.le_of_ble_eq_true rfl) ?_; intro _w0 _S0 _E0 _B0; ((conv=>whnf);repeat' (first|((first|(show (_=true→_)∧(_=false→_);first|refine gT ?_|refine gF ?_)|(show (_=false→_)∧(_=true→_);first|refine gU ?_|refine gV ?_));conv=>whnf)|((first|(first|refine gD ?_ ?_|refine gE ?_ ?_|refine gI ?_ ?_|refine gJ ?_ ?_|refine gK ?_ ?_|refine gL ?_ ?_|refine splitB ?_ ?_|refine splitB2 ?_ ?_)<;>intro _h|intro _h);all_goals first|contradiction|conv=>whnf)|(show _∧_;refine gA ?_;conv=>whnf)|fail)))
  refine acallI (k_backB b) rfl fun r hr => ?_
  subst hr
  ((conv=>whnf);repeat' (first|((first|(show (_=true→_)∧(_=false→_);first|refine gT ?_|refine gF ?_)|(show (_=false→_)∧(_=true→_);first|refine gU ?_|refine gV ?_));conv=>whnf)|((first|(first|refine gD ?_ ?_|refine gE ?_ ?_|refine gI ?_ ?_|refine gJ ?_ ?_|refine gK ?_ ?_|refine gL ?_ ?_|refine splitB ?_ ?_|refine splitB2 ?_ ?_)<;>intro _h|intro _h);all_goals first|contradiction|conv=>whnf)|(show _∧_;refine gA ?_;conv=>whnf)|fail))
  refine AWp.rangeFunc toldFrom (aiB b) (ι := List Int) [(2, .optr 0 0), (3, .optr 1 0), (4, .optr 2 0), (5, .optr 3 0), (6, .optr 5 0)]
    (fun n => [(0, .cell 22 [.d (byt b)]), (1, .cell 3 [i64 w]), (2, .cell 37 [.nls (nat [])]), (3, .cell 25 [i64 0]), (4, .row .u32 79 n), (5, .cell 37 [.own 4])]) 49 6 6
    (fun k n => n.length = w ∧ wfl n ∧ val n = dval (b.reverse.take k) ∧ keep4 k n)
    (fun e v => False) rfl rfl rfl (fun k hk => rfl) rfl rfl (Nat.zero_le _) (Nat.le_refl _) rfl ?_ ?_ ?_ ?_ ?_
  · refine ⟨List.replicate w 0, [0, 1, 2, 3, 4, 5], rfl, ⟨by simp, fun x hx => by rw [List.eq_of_mem_replicate hx]; omega, ?_, fun j hj => ?_, ?_⟩, by (refine ⟨rfl, rfl, ?_, ?_⟩ <;> repeat' (first | exact True.intro | rfl | decide | (refine And.intro ?_ ?_)))⟩
    · rw [val_zero_of _ fun j => ?_]; rfl
      rw [List.getD_eq_getElem?_getD, List.getElem?_replicate]; split <;> rfl
    · rw [List.getD_eq_getElem?_getD, List.getElem?_replicate]; split <;> rfl
    · rw [List.getD_eq_getElem?_getD, List.getElem?_replicate]; split <;> simp
  · intro k n hk ⟨hn, hwf, hv, hz, hlt⟩ _ _ _ _ _
    have e1 : IntKind.i64.wrap (IntKind.i64.wrap ((b.length : Int) - 1) - ((b.length : Int) - 1 - k)) = k := by
      rw [wrap_i64 (n := (b.length : Int) - 1) (by omega) (by omega), wrap_i64 (by omega) (by omega)]; omega
    have e2 : IntKind.i64.wrap ((k : Int).tdiv 4) = (k / 4 : Nat) := by
      rw [Int.tdiv_eq_ediv_of_nonneg (by omega), wrap_i64 (by omega) (by omega)]; omega
    have e3 : (k : Int).tmod 4 = (k % 4 : Nat) := by rw [Int.tmod_eq_emod_of_nonneg (by omega)]; omega
    have e12 : IntKind.i64.wrap ((IntKind.i64.wrap (IntKind.i64.wrap ((b.length : Int) - 1) - ((b.length : Int) - 1 - k))).tdiv 4) = (k / 4 : Nat) := by rw [e1, e2]
    have e13 : IntKind.i64.wrap (8 * (IntKind.i64.wrap (IntKind.i64.wrap ((b.length : Int) - 1) - ((b.length : Int) - 1 - k))).tmod 4) = 8 * (k % 4 : Nat) := by rw [e1, e3, wrap_i64 (by omega) (by omega)]
    have hg := hb.get (b.length - 1 - k)
    have hg2 := hwf.get (k / 4)
    ((conv=>whnf);repeat' (first|((first|(show (_=true→_)∧(_=false→_);first|refine gT ?_|refine gF ?_)|(show (_=false→_)∧(_=true→_);first|refine gU ?_|refine gV ?_));conv=>whnf)|((first|(first|refine gD ?_ ?_|refine gE ?_ ?_|refine gI ?_ ?_|refine gJ ?_ ?_|refine gK ?_ ?_|refine gL ?_ ?_|refine splitB ?_ ?_|refine splitB2 ?_ ?_)<;>intro _h|intro _h);all_goals first|contradiction|conv=>whnf)|(show _∧_;refine gA ?_;conv=>whnf)|fail))
    refine ⟨_, [0, 1, 2, 3, 4, 5], rfl, from_step b n w k hb hk (by omega) hn hwf hv ⟨hz, hlt⟩ rfl, rfl, ?_⟩
    (repeat' (first | exact True.intro | rfl | decide | (refine And.intro ?_ ?_)))
    show some (Ob.row .u32 _ _) = some (Ob.row .u32 _ _)
    have ec : IntKind.u32.wrap (b.getD (b.length - 1 - k) 0) = b.getD (b.length - 1 - k) 0 := wrap_u32 (by omega) (by omega)
    rw [e12, Int.toNat_natCast, ec, or_step _ _ (k % 4) (Nat.mod_lt _ (by omega)) hg2.1 hlt hg.1 hg.2 _ e13]
  · intro n ⟨hn, hwf, hv, hz⟩
    ((conv=>whnf);repeat' (first|((first|(show (_=true→_)∧(_=false→_);first|refine gT ?_|refine gF ?_)|(show (_=false→_)∧(_=true→_);first|refine gU ?_|refine gV ?_));conv=>whnf)|((first|(first|refine gD ?_ ?_|refine gE ?_ ?_|refine gI ?_ ?_|refine gJ ?_ ?_|refine gK ?_ ?_|refine gL ?_ ?_|refine splitB ?_ ?_|refine splitB2 ?_ ?_)<;>intro _h|intro _h);all_goals first|contradiction|conv=>whnf)|(show _∧_;refine gA ?_;conv=>whnf)|fail))
    refine Ends.imm rfl ⟨n, rfl, hn, hwf, ?_⟩
    rw [hv, List.take_of_length_le (by simp)]
  · intro n h
    exact h.elim
  · intro id n h
    exact h.elim

theorem val_split (n : List Int) (j : Nat) : val n = val (n.take j) + pw (n.take j).length * (n.getD j 0 + 4294967296 * val (n.drop (j + 1))) := by
  have h : val n = val (n.take j ++ n.drop j) := by rw [List.take_append_drop]
  rw [h, val_append, val_step (n.drop j)]
  congr 3
  · simp [List.getD_eq_getElem?_getD]
  · simp

theorem dig_nat (A p x R s : Nat) (hA : A < p) (hs : s < 4) : (A + p * (x + 4294967296 * R)) / (p * 256 ^ s) % 256 = x / 256 ^ s % 256 := by
  rw [← Nat.div_div_eq_div_mul, Nat.add_mul_div_left _ _ (by omega), Nat.div_eq_of_lt hA, Nat.zero_add]
  have : ∃ t, 4294967296 = 256 ^ s * (256 * t) := by
    have h : ∀ s : Fin 4, 4294967296 = 256 ^ s.val * (256 * 256 ^ (3 - s.val)) := by decide
    exact ⟨_, h ⟨s, hs⟩⟩
  obtain ⟨t, ht⟩ := this
  rw [ht, Nat.mul_assoc, Nat.add_mul_div_left _ _ (Nat.pow_pos (by omega)), Nat.mul_assoc, Nat.add_mul_mod_self_left]

theorem dig_val (n : List Int) (hn : wfl n) (at' : Nat) : (n.getD (at' / 4) 0).toNat / 256 ^ (at' % 4) % 256 = (val n).toNat / 256 ^ at' % 256 := by
  have hs : at' % 4 < 4 := Nat.mod_lt _ (by omega)
  rcases Nat.lt_or_ge (at' / 4) n.length with h | h
  · have e := val_split n (at' / 4)
    have hl : (n.take (at' / 4)).length = at' / 4 := by simp; omega
    have h1 := val_lt (hn.take (at' / 4))
    have h2 := val_nonneg (hn.take (at' / 4))
    have h3 := val_nonneg (hn.drop (at' / 4 + 1))
    have h4 := hn.get (at' / 4)
    have h5 := pw_pos (at' / 4)
    rw [hl] at e h1
    obtain ⟨A, hA⟩ : ∃ A : Nat, val (n.take (at' / 4)) = A := ⟨_, (Int.toNat_of_nonneg h2).symm⟩
    obtain ⟨R, hR⟩ : ∃ A : Nat, val (n.drop (at' / 4 + 1)) = A := ⟨_, (Int.toNat_of_nonneg h3).symm⟩
    obtain ⟨x, hx⟩ : ∃ A : Nat, n.getD (at' / 4) 0 = A := ⟨_, (Int.toNat_of_nonneg h4.1).symm⟩
    have hp : pw (at' / 4) = ((4294967296 ^ (at' / 4) : Nat) : Int) := by unfold pw; rw [Int.natCast_pow]; rfl
    rw [hA, hR, hx, hp] at e
    rw [hA, hp] at h1
    have e2 : (val n).toNat = A + 4294967296 ^ (at' / 4) * (x + 4294967296 * R) := by
      have : val n = ((A + 4294967296 ^ (at' / 4) * (x + 4294967296 * R) : Nat) : Int) := by rw [e]; simp only [Int.natCast_add, Int.natCast_mul]; rfl
      rw [this, Int.toNat_natCast]
    have e3 : 256 ^ at' = 4294967296 ^ (at' / 4) * 256 ^ (at' % 4) := by
      have : (4294967296 : Nat) = 256 ^ 4 := rfl
      rw [this, ← Nat.pow_mul, ← Nat.pow_add, Nat.div_add_mod]
    rw [hx, Int.toNat_natCast, e2, e3, dig_nat _ _ _ _ _ (by omega) hs]
  · have e0 : n.getD (at' / 4) 0 = 0 := by rw [List.getD_eq_getElem?_getD, List.getElem?_eq_none h]; rfl
    have h1 := val_lt hn
    have h2 := val_nonneg hn
    have h3 : (val n).toNat < 256 ^ at' := by
      have e1 : pw n.length = ((256 ^ (4 * n.length) : Nat) : Int) := by unfold pw; rw [Nat.pow_mul, Int.natCast_pow]; rfl
      have : 256 ^ (4 * n.length) ≤ 256 ^ at' := Nat.pow_le_pow_right (by omega) (by omega)
      omega
    rw [e0, Nat.div_eq_of_lt h3]
    simp

theorem shr32 (x : Int) (h : 0 ≤ x) (m : Int) (k : Nat) (hm : m = 8 * k) (hk : k ≤ 4) : x / 2 ^ min m.toNat (IntKind.bits .u32) = ((x.toNat / 256 ^ k : Nat) : Int) := by
  subst hm
  obtain ⟨n, rfl⟩ : ∃ n : Nat, x = n := ⟨x.toNat, by omega⟩
  have e : (8 * (k : Int)).toNat = 8 * k := by omega
  rw [e, Nat.min_eq_left (by simp [IntKind.bits]; omega), Int.pow_mul, Int.toNat_natCast]
  push_cast
  rfl

def toldBytes : AW.Told := ⟨fun _ => false, fun r i => if r == 1 && i == 2 then [11] else [], fun _ => .done⟩

theorem be_set (size v k : Nat) (h : k < size) {d : Int} (hd : d = ((v / 256 ^ (size - 1 - k) % 256 : Nat) : Int)) :
    ((be size v).take k ++ List.replicate (size - k) 0).set k d = (be size v).take (k + 1) ++ List.replicate (size - (k + 1)) 0 := by
  rw [be_take h, ← hd, show size - k = (size - (k + 1)) + 1 by omega, List.replicate_succ, List.set_append_right _ _ (by simp [be_length]; omega), List.append_assoc]
  simp [be_length, show min k size = k by omega]
theorem be_skip (size v k : Nat) (h : k < size) (hd : v / 256 ^ (size - 1 - k) % 256 = 0) :
    (be size v).take k ++ List.replicate (size - k) 0 = (be size v).take (k + 1) ++ List.replicate (size - (k + 1)) 0 := by
  rw [be_take h, hd, show size - k = (size - (k + 1)) + 1 by omega, List.replicate_succ, List.append_assoc]
  rfl

theorem k_bytes (n : List Int) (size : Nat) (hn : wfl n) (hbn : bad n = false) (hs : 1 ≤ size ∧ size ≤ 1024) (hv : val n < dpw size) :
    Imm Tryd.prog 27 [.d (nat n), i64 size] (fun r => r = .tup [.d (byt (be size (val n).toNat)), i64 0]) := by
  have w1 : IntKind.i64.wrap (8 * (size : Int)) = 8 * size := wrap_i64 (by omega) (by omega)
  have h2 := val_nonneg hn
  have hbits : blen (val n).toNat ≤ 8 * size := by
    rw [blen_le, Nat.pow_mul]
    have : dpw size = ((256 ^ size : Nat) : Int) := by unfold dpw; push_cast; rfl
    have e : (2 ^ 8 : Nat) = 256 := rfl
    rw [e]
    omega
  (refine Imm.of_awp toldBytes [4] Tryd.func27 rfl (by decide) (Nat.le_of_ble_eq_true rfl) ?_; intro _w0 _S0 _E0 _B0; ((conv=>whnf);repeat' (first|((first|(show (_=true→_)∧(_=false→_);first|refine gT ?_|refine gF ?_)|(show (_=false→_)∧(_=true→_);first|refine gU ?_|refine gV ?_));conv=>whnf)|((first|(first|refine gD ?_ ?_|refine gE ?_ ?_|refine gI ?_ ?_|refine gJ ?_ ?_|refine gK ?_ ?_|refine gL ?_ ?_|refine splitB ?_ ?_|refine splitB2 ?_ ?_)<;>intro _h|intro _h);all_goals first|contradiction|conv=>whnf)|(show _∧_;refine gA ?_;conv=>whnf)|fail)))
  refine acallI (f35 [n]) rfl fun r hr => ?_
  rw [show [n].any bad = false by simp [hbn]] at hr
  subst hr
  ((conv=>whnf);repeat' (first|((first|(show (_=true→_)∧(_=false→_);first|refine gT ?_|refine gF ?_)|(show (_=false→_)∧(_=true→_);first|refine gU ?_|refine gV ?_));conv=>whnf)|((first|(first|refine gD ?_ ?_|refine gE ?_ ?_|refine gI ?_ ?_|refine gJ ?_ ?_|refine gK ?_ ?_|refine gL ?_ ?_|refine splitB ?_ ?_|refine splitB2 ?_ ?_)<;>intro _h|intro _h);all_goals first|contradiction|conv=>whnf)|(show _∧_;refine gA ?_;conv=>whnf)|fail))
  refine acallI (f24 n hn) rfl fun r hr => ?_
  rw [if_neg (by simp [hbn])] at hr
  subst hr
  ((conv=>whnf);repeat' (first|((first|(show (_=true→_)∧(_=false→_);first|refine gT ?_|refine gF ?_)|(show (_=false→_)∧(_=true→_);first|refine gU ?_|refine gV ?_));conv=>whnf)|((first|(first|refine gD ?_ ?_|refine gE ?_ ?_|refine gI ?_ ?_|refine gJ ?_ ?_|refine gK ?_ ?_|refine gL ?_ ?_|refine splitB ?_ ?_|refine splitB2 ?_ ?_)<;>intro _h|intro _h);all_goals first|contradiction|conv=>whnf)|(show _∧_;refine gA ?_;conv=>whnf)|fail))
  have hbl : n.length ≤ 256 := by
    unfold bad at hbn
    simp at hbn
    omega
  have hlen : ∀ k, (List.take k (be size (val n).toNat) ++ List.replicate (size - k) 0).length = min k size + (size - k) := fun k => by simp [be_length]
  refine aloop (T := toldBytes) (ι := Nat) (fun k => [(0, .d (nat n)), (1, i64 size), (6, .own 0), (31, i64 size), (32, i64 k)]) (fun k => [(0, .row .u8 5 ((be size (val n).toNat).take k ++ List.replicate (size - k) 0))]) 59 1
    (fun k => size - k) (fun k => k ≤ size)
    ⟨0, [1], rfl, by omega, by (refine ⟨rfl, rfl, ?_, ?_⟩ <;> repeat' (first | exact True.intro | rfl | decide | (refine And.intro ?_ ?_))); simp; rfl⟩ ?_
  intro k hk
  have hlk := hlen k
  rcases Nat.lt_or_ge k size with hks | hks
  · have e1 : IntKind.i64.wrap (IntKind.i64.wrap ((size : Int) - 1) - k) = (size - 1 - k : Nat) := by
      rw [wrap_i64 (n := (size : Int) - 1) (by omega) (by omega), wrap_i64 (by omega) (by omega)]; omega
    have e2 : IntKind.i64.wrap ((IntKind.i64.wrap (IntKind.i64.wrap ((size : Int) - 1) - k)).tdiv 4) = ((size - 1 - k) / 4 : Nat) := by
      rw [e1, Int.tdiv_eq_ediv_of_nonneg (by omega), wrap_i64 (by omega) (by omega)]; omega
    have e3 : IntKind.i64.wrap (8 * (IntKind.i64.wrap (IntKind.i64.wrap ((size : Int) - 1) - k)).tmod 4) = 8 * ((size - 1 - k) % 4 : Nat) := by
      rw [e1, Int.tmod_eq_emod_of_nonneg (by omega), wrap_i64 (by omega) (by omega)]; omega
    have hd := dig_val n hn (size - 1 - k)
    have hg := hn.get ((size - 1 - k) / 4)
    ((conv=>whnf);repeat' (first|((first|(show (_=true→_)∧(_=false→_);first|refine gT ?_|refine gF ?_)|(show (_=false→_)∧(_=true→_);first|refine gU ?_|refine gV ?_));conv=>whnf)|((first|(first|refine gD ?_ ?_|refine gE ?_ ?_|refine gI ?_ ?_|refine gJ ?_ ?_|refine gK ?_ ?_|refine gL ?_ ?_|refine splitB ?_ ?_|refine splitB2 ?_ ?_)<;>intro _h|intro _h);all_goals first|contradiction|conv=>whnf)|(show _∧_;refine gA ?_;conv=>whnf)|fail))
    · refine ⟨k + 1, [0], by omega, by omega, rfl, ?_⟩
      (refine ⟨rfl, rfl, ?_, ?_⟩ <;> repeat' (first | exact True.intro | rfl | decide | (refine And.intro ?_ ?_)))
      · exact di (by rw [wrap_i64 (by omega) (by omega)]; omega)
      · show some (Ob.row .u8 _ _) = some (Ob.row .u8 _ _)
        rw [e2, Int.toNat_natCast, Int.toNat_natCast, shr32 _ hg.1 _ ((size - 1 - k) % 4) e3 (by omega)]
        congr 2
        refine be_set size _ k hks ?_
        rw [← hd]
        generalize (n.getD ((size - 1 - k) / 4) 0).toNat / 256 ^ ((size - 1 - k) % 4) = q
        simp [IntKind.wrap, IntKind.bits, IntKind.signed]
    · refine ⟨k + 1, [0], by omega, by omega, rfl, ?_⟩
      have e0 : n.getD ((size - 1 - k) / 4) 0 = 0 := by rw [List.getD_eq_getElem?_getD, List.getElem?_eq_none (by omega)]; rfl
      rw [e0] at hd
      (refine ⟨rfl, rfl, ?_, ?_⟩ <;> repeat' (first | exact True.intro | rfl | decide | (refine And.intro ?_ ?_)))
      · exact di (by rw [wrap_i64 (by omega) (by omega)]; omega)
      · show some (Ob.row .u8 _ _) = some (Ob.row .u8 _ _)
        congr 2
        exact be_skip size _ k hks (by rw [← hd]; simp)
  · have hk' : k = size := by omega
    ((conv=>whnf);repeat' (first|((first|(show (_=true→_)∧(_=false→_);first|refine gT ?_|refine gF ?_)|(show (_=false→_)∧(_=true→_);first|refine gU ?_|refine gV ?_));conv=>whnf)|((first|(first|refine gD ?_ ?_|refine gE ?_ ?_|refine gI ?_ ?_|refine gJ ?_ ?_|refine gK ?_ ?_|refine gL ?_ ?_|refine splitB ?_ ?_|refine splitB2 ?_ ?_)<;>intro _h|intro _h);all_goals first|contradiction|conv=>whnf)|(show _∧_;refine gA ?_;conv=>whnf)|fail))
    refine Ends.imm rfl ?_
    rw [hk', List.take_of_length_le (by rw [be_length]; omega)]
    simp

/-- The number that bytes are, the highest first. -/
def bn (m : List Int) : Int := dval m.reverse

/-- What isn't right of a modulus. -/
def notMod (m : List Int) : Int := if sized m.length = false then 21 else if m.getD 0 0 < 128 ∨ m.getD (m.length - 1) 0 % 2 = 0 then 22 else 0

/-- A key of a right modulus. -/
structure Key (m n : List Int) (n0 : Int) (rr : List Int) : Prop where
  ring : Ring n n0 rr
  len : m.length = 4 * n.length
  val : val n = bn m
  wf : wfd m
  right : notMod m = 0

theorem sized_spec {n : Nat} : sized n = true ↔ 64 ≤ n ∧ n ≤ 512 ∧ n % 64 = 0 := by simp [sized, and_assoc]

theorem bn_odd (m : List Int) (h : 0 < m.length) : bn m % 2 = m.getD (m.length - 1) 0 % 2 := by
  unfold bn
  rw [dvstep]
  have : m.reverse.getD 0 0 = m.getD (m.length - 1) 0 := by
    rw [List.getD_eq_getElem?_getD, List.getD_eq_getElem?_getD, List.getElem?_reverse h]; rfl
  rw [this]
  omega
theorem val_odd (n : List Int) : val n % 2 = n.getD 0 0 % 2 := by
  rw [val_step]
  omega
theorem bn_high (m : List Int) (hm : wfd m) (h : 0 < m.length) : m.getD 0 0 ≤ bn m := by
  unfold bn
  obtain ⟨x, t, rfl⟩ : ∃ x t, m = x :: t := by cases m with
    | nil => simp at h
    | cons x t => exact ⟨x, t, rfl⟩
  rw [List.reverse_cons, dval_snoc]
  have h1 := dval_nonneg hm.cons.2.reverse
  have h2 := dpw_pos t.reverse.length
  have h3 := hm.cons.1
  have : x * 1 ≤ x * dpw t.reverse.length := Int.mul_le_mul_of_nonneg_left (by omega) h3.1
  simp only [List.getD_cons_zero]
  rw [Int.mul_comm] at this
  rw [Int.mul_comm x] at this
  omega

theorem k_make (m : List Int) (hm : wfd m) (hl : m.length ≤ LIM) : Imm Tryd.prog 17 [.d (byt m)] (fun r => if notMod m ≠ 0 then r = .tup [.d .nilp, i64 (notMod m)] else ∃ n n0 rr, r = .tup [.d (keyD m n n0 rr), i64 0] ∧ Key m n n0 rr) := by
  unfold LIM at hl
  (refine Imm.of_awp told0 [2] Tryd.func17 rfl (by decide) (Nat.le_of_ble_eq_true rfl) ?_; intro _w0 _S0 _E0 _B0; ((conv=>whnf);repeat' (first|((first|(show (_=true→_)∧(_=false→_);first|refine nTt ?_|refine nFf ?_)|(show (_=false→_)∧(_=true→_);first|refine nU ?_|refine nV ?_));conv=>whnf)|((first|(first|refine gD ?_ ?_|refine gE ?_ ?_|refine gI ?_ ?_|refine gJ ?_ ?_|refine gK ?_ ?_|refine gL ?_ ?_|refine splitB ?_ ?_|refine splitB2 ?_ ?_)<;>intro _h|intro _h);all_goals first|contradiction|conv=>whnf)|(show _∧_;refine gA ?_;conv=>whnf)|fail)))
  refine acallI (k_sized m.length (by unfold LIM; omega)) rfl fun r hr => ?_
  subst hr
  cases hsz : sized m.length with
  | false =>
    ((conv=>whnf);repeat' (first|((first|(show (_=true→_)∧(_=false→_);first|refine gT ?_|refine gF ?_)|(show (_=false→_)∧(_=true→_);first|refine gU ?_|refine gV ?_));conv=>whnf)|((first|(first|refine gD ?_ ?_|refine gE ?_ ?_|refine gI ?_ ?_|refine gJ ?_ ?_|refine gK ?_ ?_|refine gL ?_ ?_|refine splitB ?_ ?_|refine splitB2 ?_ ?_)<;>intro _h|intro _h);all_goals first|contradiction|conv=>whnf)|(show _∧_;refine gA ?_;conv=>whnf)|fail))
    refine Ends.imm rfl ?_
    have : notMod m = 21 := by simp [notMod, hsz]
    rw [this, if_pos (by omega)]
  | true =>
    have ⟨h1, h2, h3⟩ := sized_spec.1 hsz
    have e1 : IntKind.i64.wrap ((m.length : Int) - 1) = (m.length - 1 : Nat) := by rw [wrap_i64 (by omega) (by omega)]; omega
    have e2 : IntKind.i64.wrap ((m.length : Int).tdiv 4) = (m.length / 4 : Nat) := by rw [Int.tdiv_eq_ediv_of_nonneg (by omega), wrap_i64 (by omega) (by omega)]; omega
    have g1 := hm.get 0
    have g2 := hm.get (m.length - 1)
    have e3 : (m.getD (m.length - 1) 0).tmod 2 = m.getD (m.length - 1) 0 % 2 := Int.tmod_eq_emod_of_nonneg g2.1
    have e4 : m.length = 4 * (m.length / 4) := by omega
    ((conv=>whnf);repeat' (first|((first|(show (_=true→_)∧(_=false→_);first|refine gT ?_|refine gF ?_)|(show (_=false→_)∧(_=true→_);first|refine gU ?_|refine gV ?_));conv=>whnf)|((first|(first|refine gD ?_ ?_|refine gE ?_ ?_|refine gI ?_ ?_|refine gJ ?_ ?_|refine gK ?_ ?_|refine gL ?_ ?_|refine splitB ?_ ?_|refine splitB2 ?_ ?_)<;>intro _h|intro _h);all_goals first|contradiction|conv=>whnf)|(show _∧_;refine gA ?_;conv=>whnf)|fail))
    · rw [e1, Int.toNat_natCast, e3] at _h
      refine Ends.imm rfl ?_
      have : notMod m = 22 := by
        unfold notMod
        rw [hsz, if_neg (by simp), if_pos (.inr _h)]
      rw [this, if_pos (by omega)]
    · rename_i hn1
      rw [e1, Int.toNat_natCast, e3] at _h
      have hn0 : notMod m = 0 := by
        unfold notMod
        rw [hsz, if_neg (by simp), if_neg (fun h => h.elim hn1 _h)]
      refine acallI (k_from m (m.length / 4) hm (by omega) (by omega)) (by rw [← e2]; rfl) fun r hr => ?_
      obtain ⟨n, rfl, hnl, hnw, hnv⟩ := hr
      ((conv=>whnf);repeat' (first|((first|(show (_=true→_)∧(_=false→_);first|refine gT ?_|refine gF ?_)|(show (_=false→_)∧(_=true→_);first|refine gU ?_|refine gV ?_));conv=>whnf)|((first|(first|refine gD ?_ ?_|refine gE ?_ ?_|refine gI ?_ ?_|refine gJ ?_ ?_|refine gK ?_ ?_|refine gL ?_ ?_|refine splitB ?_ ?_|refine splitB2 ?_ ?_)<;>intro _h|intro _h);all_goals first|contradiction|conv=>whnf)|(show _∧_;refine gA ?_;conv=>whnf)|fail))
      have hodd : ¬ n.getD 0 0 % 2 = 0 := by
        rw [← val_odd, hnv]
        show ¬ bn m % 2 = 0
        rw [bn_odd m (by omega)]
        exact _h
      have hbig : 1 < val n := by
        rw [hnv]
        have := bn_high m hm (by omega)
        show 1 < bn m
        have : ¬ m.getD 0 0 < 128 := hn1
        omega
      refine acallI (f11 n hnw) rfl fun r hr => ?_
      rw [if_neg (by omega), if_neg (by omega)] at hr
      obtain ⟨n0, rr, rfl, hR⟩ := hr
      ((conv=>whnf);repeat' (first|((first|(show (_=true→_)∧(_=false→_);first|refine gT ?_|refine gF ?_)|(show (_=false→_)∧(_=true→_);first|refine gU ?_|refine gV ?_));conv=>whnf)|((first|(first|refine gD ?_ ?_|refine gE ?_ ?_|refine gI ?_ ?_|refine gJ ?_ ?_|refine gK ?_ ?_|refine gL ?_ ?_|refine splitB ?_ ?_|refine splitB2 ?_ ?_)<;>intro _h|intro _h);all_goals first|contradiction|conv=>whnf)|(show _∧_;refine gA ?_;conv=>whnf)|fail))
      refine acallI (k_clone m (fun h => by subst h; simp at h1) (by omega)) rfl fun r hr => ?_
      subst hr
      ((conv=>whnf);repeat' (first|((first|(show (_=true→_)∧(_=false→_);first|refine gT ?_|refine gF ?_)|(show (_=false→_)∧(_=true→_);first|refine gU ?_|refine gV ?_));conv=>whnf)|((first|(first|refine gD ?_ ?_|refine gE ?_ ?_|refine gI ?_ ?_|refine gJ ?_ ?_|refine gK ?_ ?_|refine gL ?_ ?_|refine splitB ?_ ?_|refine splitB2 ?_ ?_)<;>intro _h|intro _h);all_goals first|contradiction|conv=>whnf)|(show _∧_;refine gA ?_;conv=>whnf)|fail))
      refine Ends.imm rfl ?_
      rw [if_neg (by omega)]
      exact ⟨n, n0, rr, rfl, hR, by omega, hnv, hm, hn0⟩
    · refine Ends.imm rfl ?_
      have : notMod m = 22 := by
        unfold notMod
        rw [hsz, if_neg (by simp), if_pos (.inl _h)]
      rw [this, if_pos (by omega)]

theorem Key.pos {m n : List Int} {n0 : Int} {rr : List Int} (h : Key m n n0 rr) : 1 < bn m ∧ 16 ≤ n.length ∧ n.length ≤ 128 ∧ sized m.length = true := by
  have h1 := h.ring.h1
  have h2 := h.right
  have h3 := h.len
  unfold notMod at h2
  have hs : sized m.length = true := by
    cases hs : sized m.length with
    | true => rfl
    | false => rw [hs] at h2; simp at h2
  have := sized_spec.1 hs
  rw [h.val] at h1
  exact ⟨h1, by omega, by omega, hs⟩

/-- What a power comes to. -/
def powV (m block exp : List Int) : AVal :=
  if block.length ≠ m.length then .tup [.nls (byt []), i64 24]
  else if bn m ≤ bn block then .tup [.nls (byt []), i64 13]
  else if 1024 < exp.length then .tup [.nls (byt []), i64 11]
  else .tup [.d (byt (be m.length (bn block ^ ev exp % bn m).toNat)), i64 0]

theorem k_power (m n : List Int) (n0 : Int) (rr : List Int) (h : Key m n n0 rr) (block exp : List Int) (hb : wfd block) (he : wfd exp) :
    Imm Tryd.prog 48 [.d (keyD m n n0 rr), .d (byt block), .d (byt exp)] (fun r => r = powV m block exp) := by
  obtain ⟨h1, h2, h3, hs⟩ := h.pos
  have hl := h.len
  have e2 : IntKind.i64.wrap ((m.length : Int).tdiv 4) = (n.length : Nat) := by rw [Int.tdiv_eq_ediv_of_nonneg (by omega), wrap_i64 (by omega) (by omega)]; omega
  (refine Imm.of_awp told0 [] Tryd.func48 rfl (by decide) (Nat.le_of_ble_eq_true rfl) ?_; intro _w0 _S0 _E0 _B0; ((conv=>whnf);repeat' (first|((first|(show (_=true→_)∧(_=false→_);first|refine nTt ?_|refine nFf ?_)|(show (_=false→_)∧(_=true→_);first|refine nU ?_|refine nV ?_));conv=>whnf)|((first|(first|refine gD ?_ ?_|refine gE ?_ ?_|refine gI ?_ ?_|refine gJ ?_ ?_|refine gK ?_ ?_|refine gL ?_ ?_|refine splitB ?_ ?_|refine splitB2 ?_ ?_)<;>intro _h|intro _h);all_goals first|contradiction|conv=>whnf)|(show _∧_;refine gA ?_;conv=>whnf)|fail)))
  refine acallI (k_size m n n0 rr) rfl fun r hr => ?_
  subst hr
  by_cases hbl : block.length = m.length
  · have hbl' : (block.length : Int) = m.length := by omega
    ((conv=>whnf);repeat' (first|((first|(show (_=true→_)∧(_=false→_);first|refine gT ?_|refine gF ?_)|(show (_=false→_)∧(_=true→_);first|refine gU ?_|refine gV ?_));conv=>whnf)|((first|(first|refine gD ?_ ?_|refine gE ?_ ?_|refine gI ?_ ?_|refine gJ ?_ ?_|refine gK ?_ ?_|refine gL ?_ ?_|refine splitB ?_ ?_|refine splitB2 ?_ ?_)<;>intro _h|intro _h);all_goals first|contradiction|conv=>whnf)|(show _∧_;refine gA ?_;conv=>whnf)|fail))
    refine acallI (k_size m n n0 rr) rfl fun r hr => ?_
    subst hr
    ((conv=>whnf);repeat' (first|((first|(show (_=true→_)∧(_=false→_);first|refine gT ?_|refine gF ?_)|(show (_=false→_)∧(_=true→_);first|refine gU ?_|refine gV ?_));conv=>whnf)|((first|(first|refine gD ?_ ?_|refine gE ?_ ?_|refine gI ?_ ?_|refine gJ ?_ ?_|refine gK ?_ ?_|refine gL ?_ ?_|refine splitB ?_ ?_|refine splitB2 ?_ ?_)<;>intro _h|intro _h);all_goals first|contradiction|conv=>whnf)|(show _∧_;refine gA ?_;conv=>whnf)|fail))
    refine acallI (k_from block n.length hb (by omega) (by omega)) (by rw [← e2]; rfl) fun r hr => ?_
    obtain ⟨x, rfl, hxl, hxw, hxv⟩ := hr
    ((conv=>whnf);repeat' (first|((first|(show (_=true→_)∧(_=false→_);first|refine gT ?_|refine gF ?_)|(show (_=false→_)∧(_=true→_);first|refine gU ?_|refine gV ?_));conv=>whnf)|((first|(first|refine gD ?_ ?_|refine gE ?_ ?_|refine gI ?_ ?_|refine gJ ?_ ?_|refine gK ?_ ?_|refine gL ?_ ?_|refine splitB ?_ ?_|refine splitB2 ?_ ?_)<;>intro _h|intro _h);all_goals first|contradiction|conv=>whnf)|(show _∧_;refine gA ?_;conv=>whnf)|fail))
    refine acallI (f18 n n0 rr x exp h.ring hxw he) rfl fun r hr => ?_
    have hne : notEl n x = decide (bn m ≤ bn block) := by
      unfold notEl
      rw [h.val, hxv, hxl, decide_eq_false (fun h => h rfl)]
      exact Bool.false_or _
    cases hge : decide (bn m ≤ bn block) with
    | true =>
      have hge' := of_decide_eq_true hge
      rw [hne, hge, if_pos rfl] at hr
      subst hr
      ((conv=>whnf);repeat' (first|((first|(show (_=true→_)∧(_=false→_);first|refine gT ?_|refine gF ?_)|(show (_=false→_)∧(_=true→_);first|refine gU ?_|refine gV ?_));conv=>whnf)|((first|(first|refine gD ?_ ?_|refine gE ?_ ?_|refine gI ?_ ?_|refine gJ ?_ ?_|refine gK ?_ ?_|refine gL ?_ ?_|refine splitB ?_ ?_|refine splitB2 ?_ ?_)<;>intro _h|intro _h);all_goals first|contradiction|conv=>whnf)|(show _∧_;refine gA ?_;conv=>whnf)|fail))
      refine Ends.imm rfl ?_
      unfold powV
      rw [if_neg (by omega), if_pos hge']
    | false =>
      have hge' := of_decide_eq_false hge
      rw [hne, hge, if_neg (by simp)] at hr
      by_cases hel : 1024 < exp.length
      · rw [if_pos hel] at hr
        subst hr
        ((conv=>whnf);repeat' (first|((first|(show (_=true→_)∧(_=false→_);first|refine gT ?_|refine gF ?_)|(show (_=false→_)∧(_=true→_);first|refine gU ?_|refine gV ?_));conv=>whnf)|((first|(first|refine gD ?_ ?_|refine gE ?_ ?_|refine gI ?_ ?_|refine gJ ?_ ?_|refine gK ?_ ?_|refine gL ?_ ?_|refine splitB ?_ ?_|refine splitB2 ?_ ?_)<;>intro _h|intro _h);all_goals first|contradiction|conv=>whnf)|(show _∧_;refine gA ?_;conv=>whnf)|fail))
        refine Ends.imm rfl ?_
        unfold powV
        rw [if_neg (by omega), if_neg hge', if_pos hel]
      · rw [if_neg hel] at hr
        obtain ⟨z, rfl, hzl, hzw, hzv⟩ := hr
        ((conv=>whnf);repeat' (first|((first|(show (_=true→_)∧(_=false→_);first|refine gT ?_|refine gF ?_)|(show (_=false→_)∧(_=true→_);first|refine gU ?_|refine gV ?_));conv=>whnf)|((first|(first|refine gD ?_ ?_|refine gE ?_ ?_|refine gI ?_ ?_|refine gJ ?_ ?_|refine gK ?_ ?_|refine gL ?_ ?_|refine splitB ?_ ?_|refine splitB2 ?_ ?_)<;>intro _h|intro _h);all_goals first|contradiction|conv=>whnf)|(show _∧_;refine gA ?_;conv=>whnf)|fail))
        refine acallI (k_size m n n0 rr) rfl fun r hr => ?_
        subst hr
        ((conv=>whnf);repeat' (first|((first|(show (_=true→_)∧(_=false→_);first|refine gT ?_|refine gF ?_)|(show (_=false→_)∧(_=true→_);first|refine gU ?_|refine gV ?_));conv=>whnf)|((first|(first|refine gD ?_ ?_|refine gE ?_ ?_|refine gI ?_ ?_|refine gJ ?_ ?_|refine gK ?_ ?_|refine gL ?_ ?_|refine splitB ?_ ?_|refine splitB2 ?_ ?_)<;>intro _h|intro _h);all_goals first|contradiction|conv=>whnf)|(show _∧_;refine gA ?_;conv=>whnf)|fail))
        have ev1 : val z = bn block ^ ev exp % bn m := by rw [hzv, h.val, hxv]; rfl
        refine acallI (k_bytes z m.length hzw ?_ (by omega) ?_) rfl fun r hr => ?_
        · unfold bad
          rw [hzl, decide_eq_false (by omega), decide_eq_false (by omega)]
          rfl
        · rw [ev1]
          have a1 := Int.emod_lt_of_pos (bn block ^ ev exp) (show 0 < bn m by omega)
          have a2 := dval_lt h.wf.reverse
          rw [List.length_reverse] at a2
          have a3 : bn m < dpw m.length := a2
          omega
        · subst hr
          ((conv=>whnf);repeat' (first|((first|(show (_=true→_)∧(_=false→_);first|refine gT ?_|refine gF ?_)|(show (_=false→_)∧(_=true→_);first|refine gU ?_|refine gV ?_));conv=>whnf)|((first|(first|refine gD ?_ ?_|refine gE ?_ ?_|refine gI ?_ ?_|refine gJ ?_ ?_|refine gK ?_ ?_|refine gL ?_ ?_|refine splitB ?_ ?_|refine splitB2 ?_ ?_)<;>intro _h|intro _h);all_goals first|contradiction|conv=>whnf)|(show _∧_;refine gA ?_;conv=>whnf)|fail))
          refine Ends.imm rfl ?_
          unfold powV
          rw [if_neg (by omega), if_neg hge', if_neg hel, ev1]
  · have hbl' : ¬ (block.length : Int) = m.length := by omega
    ((conv=>whnf);repeat' (first|((first|(show (_=true→_)∧(_=false→_);first|refine gT ?_|refine gF ?_)|(show (_=false→_)∧(_=true→_);first|refine gU ?_|refine gV ?_));conv=>whnf)|((first|(first|refine gD ?_ ?_|refine gE ?_ ?_|refine gI ?_ ?_|refine gJ ?_ ?_|refine gK ?_ ?_|refine gL ?_ ?_|refine splitB ?_ ?_|refine splitB2 ?_ ?_)<;>intro _h|intro _h);all_goals first|contradiction|conv=>whnf)|(show _∧_;refine gA ?_;conv=>whnf)|fail))
    refine Ends.imm rfl ?_
    unfold powV
    rw [if_pos (by omega)]

theorem powV_form (m block exp : List Int) : (∃ e, powV m block exp = .tup [.nls (byt []), i64 e]) ∨ ∃ zs, powV m block exp = .tup [.d (byt zs), i64 0] := by
  unfold powV
  repeat' split
  · exact .inl ⟨_, rfl⟩
  · exact .inl ⟨_, rfl⟩
  · exact .inl ⟨_, rfl⟩
  · exact .inr ⟨_, rfl⟩

theorem aev_global {P : Program} {s : AState} {ty : TypeId} {g : Nat} {d : D} (h : Globs.gl g = some d) : aev P s ty (.global g) = .d (.ptr d) := by
  simp only [aev, h]

/-- The exponent of all keys. -/
def EXP : D := .agg [.int .u8 1, .int .u8 0, .int .u8 1]

theorem k_open (hG : Globs.gl 0 = some EXP) (m n : List Int) (n0 : Int) (rr : List Int) (h : Key m n n0 rr) (sig : List Int) (hs : wfd sig) :
    Imm Tryd.prog 18 [.d (keyD m n n0 rr), .d (byt sig)] (fun r => r = powV m sig [1, 0, 1]) := by
  (refine Imm.of_awp told0 [] Tryd.func18 rfl (by decide) (Nat.le_of_ble_eq_true rfl) ?_; intro _w0 _S0 _E0 _B0; ((conv=>whnf);repeat' (first|((first|(show (_=true→_)∧(_=false→_);first|refine nTt ?_|refine nFf ?_)|(show (_=false→_)∧(_=true→_);first|refine nU ?_|refine nV ?_));conv=>whnf)|((first|(first|refine gD ?_ ?_|refine gE ?_ ?_|refine gI ?_ ?_|refine gJ ?_ ?_|refine gK ?_ ?_|refine gL ?_ ?_|refine splitB ?_ ?_|refine splitB2 ?_ ?_)<;>intro _h|intro _h);all_goals first|contradiction|conv=>whnf)|(show _∧_;refine gA ?_;conv=>whnf)|fail)))
  rw [aev_global hG]
  ((conv=>whnf);repeat' (first|((first|(show (_=true→_)∧(_=false→_);first|refine nTt ?_|refine nFf ?_)|(show (_=false→_)∧(_=true→_);first|refine nU ?_|refine nV ?_));conv=>whnf)|((first|(first|refine gD ?_ ?_|refine gE ?_ ?_|refine gI ?_ ?_|refine gJ ?_ ?_|refine gK ?_ ?_|refine gL ?_ ?_|refine splitB ?_ ?_|refine splitB2 ?_ ?_)<;>intro _h|intro _h);all_goals first|contradiction|conv=>whnf)|(show _∧_;refine gA ?_;conv=>whnf)|fail))
  refine acallI (k_power m n n0 rr h sig [1, 0, 1] hs (fun x hx => by simp at hx; omega)) rfl fun r hr => ?_
  rcases powV_form m sig [1, 0, 1] with ⟨e, he⟩ | ⟨zs, he⟩ <;> rw [he] at hr <;> subst hr
  · ((conv=>whnf);repeat' (first|((first|(show (_=true→_)∧(_=false→_);first|refine nTt ?_|refine nFf ?_)|(show (_=false→_)∧(_=true→_);first|refine nU ?_|refine nV ?_));conv=>whnf)|((first|(first|refine gD ?_ ?_|refine gE ?_ ?_|refine gI ?_ ?_|refine gJ ?_ ?_|refine gK ?_ ?_|refine gL ?_ ?_|refine splitB ?_ ?_|refine splitB2 ?_ ?_)<;>intro _h|intro _h);all_goals first|contradiction|conv=>whnf)|(show _∧_;refine gA ?_;conv=>whnf)|fail))
    exact Ends.imm rfl he.symm
  · ((conv=>whnf);repeat' (first|((first|(show (_=true→_)∧(_=false→_);first|refine nTt ?_|refine nFf ?_)|(show (_=false→_)∧(_=true→_);first|refine nU ?_|refine nV ?_));conv=>whnf)|((first|(first|refine gD ?_ ?_|refine gE ?_ ?_|refine gI ?_ ?_|refine gJ ?_ ?_|refine gK ?_ ?_|refine gL ?_ ?_|refine splitB ?_ ?_|refine splitB2 ?_ ?_)<;>intro _h|intro _h);all_goals first|contradiction|conv=>whnf)|(show _∧_;refine gA ?_;conv=>whnf)|fail))
    exact Ends.imm rfl he.symm

theorem k_close (m secret block : List Int) (hm : wfd m) (hs : wfd secret) (hb : wfd block) (hl : m.length ≤ LIM) :
    Imm Tryd.prog 21 [.d (byt m), .d (byt secret), .d (byt block)] (fun r => r = if notMod m ≠ 0 then .tup [.nls (byt []), i64 (notMod m)] else powV m block secret) := by
  (refine Imm.of_awp told0 [] Tryd.func21 rfl (by decide) (Nat.le_of_ble_eq_true rfl) ?_; intro _w0 _S0 _E0 _B0; ((conv=>whnf);repeat' (first|((first|(show (_=true→_)∧(_=false→_);first|refine nTt ?_|refine nFf ?_)|(show (_=false→_)∧(_=true→_);first|refine nU ?_|refine nV ?_));conv=>whnf)|((first|(first|refine gD ?_ ?_|refine gE ?_ ?_|refine gI ?_ ?_|refine gJ ?_ ?_|refine gK ?_ ?_|refine gL ?_ ?_|refine splitB ?_ ?_|refine splitB2 ?_ ?_)<;>intro _h|intro _h);all_goals first|contradiction|conv=>whnf)|(show _∧_;refine gA ?_;conv=>whnf)|fail)))
  refine acallI (k_make m hm hl) rfl fun r hr => ?_
  by_cases hn : notMod m ≠ 0
  · rw [if_pos hn] at hr
    subst hr
    ((conv=>whnf);repeat' (first|((first|(show (_=true→_)∧(_=false→_);first|refine gT ?_|refine gF ?_)|(show (_=false→_)∧(_=true→_);first|refine gU ?_|refine gV ?_));conv=>whnf)|((first|(first|refine gD ?_ ?_|refine gE ?_ ?_|refine gI ?_ ?_|refine gJ ?_ ?_|refine gK ?_ ?_|refine gL ?_ ?_|refine splitB ?_ ?_|refine splitB2 ?_ ?_)<;>intro _h|intro _h);all_goals first|contradiction|conv=>whnf)|(show _∧_;refine gA ?_;conv=>whnf)|fail))
    exact Ends.imm rfl (by rw [if_pos hn])
  · rw [if_neg hn] at hr
    obtain ⟨n, n0, rr, rfl, hk⟩ := hr
    ((conv=>whnf);repeat' (first|((first|(show (_=true→_)∧(_=false→_);first|refine gT ?_|refine gF ?_)|(show (_=false→_)∧(_=true→_);first|refine gU ?_|refine gV ?_));conv=>whnf)|((first|(first|refine gD ?_ ?_|refine gE ?_ ?_|refine gI ?_ ?_|refine gJ ?_ ?_|refine gK ?_ ?_|refine gL ?_ ?_|refine splitB ?_ ?_|refine splitB2 ?_ ?_)<;>intro _h|intro _h);all_goals first|contradiction|conv=>whnf)|(show _∧_;refine gA ?_;conv=>whnf)|fail))
    refine acallI (k_power m n n0 rr hk block secret hb hs) rfl fun r hr => ?_
    rw [if_neg hn]
    rcases powV_form m block secret with ⟨e, he⟩ | ⟨zs, he⟩ <;> rw [he] at hr <;> subst hr
    · ((conv=>whnf);repeat' (first|((first|(show (_=true→_)∧(_=false→_);first|refine gT ?_|refine gF ?_)|(show (_=false→_)∧(_=true→_);first|refine gU ?_|refine gV ?_));conv=>whnf)|((first|(first|refine gD ?_ ?_|refine gE ?_ ?_|refine gI ?_ ?_|refine gJ ?_ ?_|refine gK ?_ ?_|refine gL ?_ ?_|refine splitB ?_ ?_|refine splitB2 ?_ ?_)<;>intro _h|intro _h);all_goals first|contradiction|conv=>whnf)|(show _∧_;refine gA ?_;conv=>whnf)|fail))
      exact Ends.imm rfl he.symm
    · ((conv=>whnf);repeat' (first|((first|(show (_=true→_)∧(_=false→_);first|refine gT ?_|refine gF ?_)|(show (_=false→_)∧(_=true→_);first|refine gU ?_|refine gV ?_));conv=>whnf)|((first|(first|refine gD ?_ ?_|refine gE ?_ ?_|refine gI ?_ ?_|refine gJ ?_ ?_|refine gK ?_ ?_|refine gL ?_ ?_|refine splitB ?_ ?_|refine splitB2 ?_ ?_)<;>intro _h|intro _h);all_goals first|contradiction|conv=>whnf)|(show _∧_;refine gA ?_;conv=>whnf)|fail))
      exact Ends.imm rfl he.symm

theorem trim_len {zs : List Int} (h : wfd zs) (ht : trimmed zs) {k : Nat} (hv : dval zs < dpw k) : zs.length ≤ k := by
  rcases Nat.lt_or_ge k zs.length with hk | hk
  · obtain ⟨n, hn⟩ : ∃ n, zs.length = n + 1 := ⟨zs.length - 1, by omega⟩
    have h2 : zs.getD n 0 ≠ 0 := by
      rcases ht with h | h
      · subst h; simp at hn
      · rw [hn] at h; exact h
    have h3 := h.get n
    have h4 := dval_take_succ zs n
    rw [List.take_of_length_le (by omega)] at h4
    have h5 := dval_nonneg (h.take n)
    have h6 := dpw_pos n
    have h7 : dpw n * 1 ≤ dpw n * zs.getD n 0 := Int.mul_le_mul_of_nonneg_left (by omega) (by omega)
    have h8 := dpw_le (show k ≤ n by omega)
    omega
  · exact hk

/-- A square, again and again. -/
def sq (x n : Int) : Nat → Int
  | 0 => x
  | k + 1 => sq x n k * sq x n k % n
theorem sq_pow (x n : Int) (hx : x % n = x) : ∀ k, sq x n k = x ^ (2 ^ k) % n
  | 0 => by rw [show (2 ^ 0 : Nat) = 1 from rfl, Int.pow_succ, Int.pow_zero, Int.one_mul, hx]; rfl
  | k + 1 => by
    simp only [sq, sq_pow x n hx k]
    rw [← Int.mul_emod, ← Int.pow_add, Nat.pow_succ, Nat.mul_two]

theorem sq_fin (x n : Int) (k : Nat) : x ^ k % n * x % n = x ^ (k + 1) % n := by
  rw [Int.mul_emod, Int.emod_emod, ← Int.mul_emod, ← Int.pow_succ]

def toldROpen : AW.Told := told0

theorem k_refOpen (m sig : List Int) (hm : wfd m) (hs : wfd sig) (h0 : 0 < bn m) (hl : m.length ≤ 1000) (hls : sig.length ≤ 1000) (hl1 : 1 ≤ m.length) :
    Imm Tryd.prog 19 [.d (byt m), .d (byt sig)] (fun r => if sig.length ≠ m.length then r = .tup [.nls (byt []), i64 24] else if bn m ≤ bn sig then r = .tup [.nls (byt []), i64 13]
      else r = .tup [.d (byt (be m.length (bn sig ^ 65537 % bn m).toNat)), i64 0]) := by
  (refine Imm.of_awp told0 [] Tryd.func19 rfl (by decide) (Nat.le_of_ble_eq_true rfl) ?_; intro _w0 _S0 _E0 _B0; ((conv=>whnf);repeat' (first|((first|(show (_=true→_)∧(_=false→_);first|refine nTt ?_|refine nFf ?_)|(show (_=false→_)∧(_=true→_);first|refine nU ?_|refine nV ?_));conv=>whnf)|((first|(first|refine gD ?_ ?_|refine gE ?_ ?_|refine gI ?_ ?_|refine gJ ?_ ?_|refine gK ?_ ?_|refine gL ?_ ?_|refine splitB ?_ ?_|refine splitB2 ?_ ?_)<;>intro _h|intro _h);all_goals first|contradiction|conv=>whnf)|(show _∧_;refine gA ?_;conv=>whnf)|fail)))
  · refine Ends.imm rfl ?_
    rw [if_pos (by omega)]
  have hle : sig.length = m.length := by omega
  refine acallI (k_low m hm (by omega)) rfl fun r hr => ?_
  obtain ⟨nn, rfl, hnl, hnw, hnt, hnv⟩ := hr
  ((conv=>whnf);repeat' (first|((first|(show (_=true→_)∧(_=false→_);first|refine gT ?_|refine gF ?_)|(show (_=false→_)∧(_=true→_);first|refine gU ?_|refine gV ?_));conv=>whnf)|((first|(first|refine gD ?_ ?_|refine gE ?_ ?_|refine gI ?_ ?_|refine gJ ?_ ?_|refine gK ?_ ?_|refine gL ?_ ?_|refine splitB ?_ ?_|refine splitB2 ?_ ?_)<;>intro _h|intro _h);all_goals first|contradiction|conv=>whnf)|(show _∧_;refine gA ?_;conv=>whnf)|fail))
  refine acallI (k_low sig hs (by omega)) rfl fun r hr => ?_
  obtain ⟨xx, rfl, hxl, hxw, hxt, hxv⟩ := hr
  ((conv=>whnf);repeat' (first|((first|(show (_=true→_)∧(_=false→_);first|refine gT ?_|refine gF ?_)|(show (_=false→_)∧(_=true→_);first|refine gU ?_|refine gV ?_));conv=>whnf)|((first|(first|refine gD ?_ ?_|refine gE ?_ ?_|refine gI ?_ ?_|refine gJ ?_ ?_|refine gK ?_ ?_|refine gL ?_ ?_|refine splitB ?_ ?_|refine splitB2 ?_ ?_)<;>intro _h|intro _h);all_goals first|contradiction|conv=>whnf)|(show _∧_;refine gA ?_;conv=>whnf)|fail))
  refine acallI (f26 xx nn hxw hnw hxt hnt (by omega)) rfl fun r hr => ?_
  subst hr
  have hsg := sgn_nonneg (dval xx) (dval nn)
  have hn0 : dval nn = bn m := hnv
  have hx0 : dval xx = bn sig := hxv
  by_cases hge : bn m ≤ bn sig
  · have hs0 : 0 ≤ sgn (dval xx) (dval nn) := hsg.2 (by omega)
    ((conv=>whnf);repeat' (first|((first|(show (_=true→_)∧(_=false→_);first|refine gT ?_|refine gF ?_)|(show (_=false→_)∧(_=true→_);first|refine gU ?_|refine gV ?_));conv=>whnf)|((first|(first|refine gD ?_ ?_|refine gE ?_ ?_|refine gI ?_ ?_|refine gJ ?_ ?_|refine gK ?_ ?_|refine gL ?_ ?_|refine splitB ?_ ?_|refine splitB2 ?_ ?_)<;>intro _h|intro _h);all_goals first|contradiction|conv=>whnf)|(show _∧_;refine gA ?_;conv=>whnf)|fail))
    exact Ends.imm rfl (by rw [if_neg (by omega), if_pos hge])
  have hs0 : ¬ 0 ≤ sgn (dval xx) (dval nn) := fun h => hge (by have := hsg.1 h; omega)
  ((conv=>whnf);repeat' (first|((first|(show (_=true→_)∧(_=false→_);first|refine gT ?_|refine gF ?_)|(show (_=false→_)∧(_=true→_);first|refine gU ?_|refine gV ?_));conv=>whnf)|((first|(first|refine gD ?_ ?_|refine gE ?_ ?_|refine gI ?_ ?_|refine gJ ?_ ?_|refine gK ?_ ?_|refine gL ?_ ?_|refine splitB ?_ ?_|refine splitB2 ?_ ?_)<;>intro _h|intro _h);all_goals first|contradiction|conv=>whnf)|(show _∧_;refine gA ?_;conv=>whnf)|fail))
  have hxn := dval_nonneg hxw
  have hx1 : dval xx % dval nn = dval xx := Int.emod_eq_of_lt hxn (by omega)
  refine aloop (T := told0) (ι := Nat × List Int) (fun p => [(0, .d (byt m)), (6, .d (digs nn)), (7, .d (digs xx)), (8, .d (digs p.2)), (9, i64 p.1)]) (fun _ => []) 42 0
    (fun p => 16 - p.1) (fun p => p.1 ≤ 16 ∧ wfd p.2 ∧ trimmed p.2 ∧ p.2.length ≤ 1010 ∧ dval p.2 = sq (dval xx) (dval nn) p.1)
    ⟨(0, xx), [], rfl, ⟨by omega, hxw, hxt, by dsimp only; omega, rfl⟩, by (refine ⟨rfl, rfl, ?_, ?_⟩ <;> repeat' (first | exact True.intro | rfl | decide | (refine And.intro ?_ ?_)))⟩ ?_
  intro ⟨k, ys⟩ ⟨hk, hyw, hyt, hyl, hyv⟩
  dsimp only at hk hyw hyt hyl hyv ⊢
  rcases Nat.lt_or_ge k 16 with hk16 | hk16
  · ((conv=>whnf);repeat' (first|((first|(show (_=true→_)∧(_=false→_);first|refine gT ?_|refine gF ?_)|(show (_=false→_)∧(_=true→_);first|refine gU ?_|refine gV ?_));conv=>whnf)|((first|(first|refine gD ?_ ?_|refine gE ?_ ?_|refine gI ?_ ?_|refine gJ ?_ ?_|refine gK ?_ ?_|refine gL ?_ ?_|refine splitB ?_ ?_|refine splitB2 ?_ ?_)<;>intro _h|intro _h);all_goals first|contradiction|conv=>whnf)|(show _∧_;refine gA ?_;conv=>whnf)|fail))
    refine acallI (f20 ys ys hyw hyw (by omega)) rfl fun r hr => ?_
    obtain ⟨zs, rfl, hzl, hzw, hzt, hzv⟩ := hr
    ((conv=>whnf);repeat' (first|((first|(show (_=true→_)∧(_=false→_);first|refine gT ?_|refine gF ?_)|(show (_=false→_)∧(_=true→_);first|refine gU ?_|refine gV ?_));conv=>whnf)|((first|(first|refine gD ?_ ?_|refine gE ?_ ?_|refine gI ?_ ?_|refine gJ ?_ ?_|refine gK ?_ ?_|refine gL ?_ ?_|refine splitB ?_ ?_|refine splitB2 ?_ ?_)<;>intro _h|intro _h);all_goals first|contradiction|conv=>whnf)|(show _∧_;refine gA ?_;conv=>whnf)|fail))
    refine acallI (f16 zs nn hzw hnw (by omega) (by omega)) rfl fun r hr => ?_
    obtain ⟨us, rfl, hul, huw, hut, huv⟩ := hr
    ((conv=>whnf);repeat' (first|((first|(show (_=true→_)∧(_=false→_);first|refine gT ?_|refine gF ?_)|(show (_=false→_)∧(_=true→_);first|refine gU ?_|refine gV ?_));conv=>whnf)|((first|(first|refine gD ?_ ?_|refine gE ?_ ?_|refine gI ?_ ?_|refine gJ ?_ ?_|refine gK ?_ ?_|refine gL ?_ ?_|refine splitB ?_ ?_|refine splitB2 ?_ ?_)<;>intro _h|intro _h);all_goals first|contradiction|conv=>whnf)|(show _∧_;refine gA ?_;conv=>whnf)|fail))
    refine ⟨(k + 1, us), [], by dsimp only; omega, ⟨by dsimp only; omega, huw, hut, by dsimp only; omega, by dsimp only; rw [huv, hzv, hyv]; rfl⟩, rfl, ?_⟩
    (refine ⟨rfl, rfl, ?_, ?_⟩ <;> repeat' (first | exact True.intro | rfl | decide | (refine And.intro ?_ ?_)))
    exact di (by rw [wrap_i64 (by omega) (by omega)]; rfl)
  · have hk' : k = 16 := by omega
    subst hk'
    ((conv=>whnf);repeat' (first|((first|(show (_=true→_)∧(_=false→_);first|refine gT ?_|refine gF ?_)|(show (_=false→_)∧(_=true→_);first|refine gU ?_|refine gV ?_));conv=>whnf)|((first|(first|refine gD ?_ ?_|refine gE ?_ ?_|refine gI ?_ ?_|refine gJ ?_ ?_|refine gK ?_ ?_|refine gL ?_ ?_|refine splitB ?_ ?_|refine splitB2 ?_ ?_)<;>intro _h|intro _h);all_goals first|contradiction|conv=>whnf)|(show _∧_;refine gA ?_;conv=>whnf)|fail))
    refine acallI (f20 ys xx hyw hxw (by omega)) rfl fun r hr => ?_
    obtain ⟨zs, rfl, hzl, hzw, hzt, hzv⟩ := hr
    ((conv=>whnf);repeat' (first|((first|(show (_=true→_)∧(_=false→_);first|refine gT ?_|refine gF ?_)|(show (_=false→_)∧(_=true→_);first|refine gU ?_|refine gV ?_));conv=>whnf)|((first|(first|refine gD ?_ ?_|refine gE ?_ ?_|refine gI ?_ ?_|refine gJ ?_ ?_|refine gK ?_ ?_|refine gL ?_ ?_|refine splitB ?_ ?_|refine splitB2 ?_ ?_)<;>intro _h|intro _h);all_goals first|contradiction|conv=>whnf)|(show _∧_;refine gA ?_;conv=>whnf)|fail))
    refine acallI (f16 zs nn hzw hnw (by omega) (by omega)) rfl fun r hr => ?_
    obtain ⟨us, rfl, hul, huw, hut, huv⟩ := hr
    ((conv=>whnf);repeat' (first|((first|(show (_=true→_)∧(_=false→_);first|refine gT ?_|refine gF ?_)|(show (_=false→_)∧(_=true→_);first|refine gU ?_|refine gV ?_));conv=>whnf)|((first|(first|refine gD ?_ ?_|refine gE ?_ ?_|refine gI ?_ ?_|refine gJ ?_ ?_|refine gK ?_ ?_|refine gL ?_ ?_|refine splitB ?_ ?_|refine splitB2 ?_ ?_)<;>intro _h|intro _h);all_goals first|contradiction|conv=>whnf)|(show _∧_;refine gA ?_;conv=>whnf)|fail))
    have hus : dval us = bn sig ^ 65537 % bn m := by
      rw [huv, hzv, hyv, sq_pow _ _ hx1, hn0, hx0]
      exact sq_fin (bn sig) (bn m) (2 ^ 16)
    have hb1 : dval us < dpw m.length := by
      have := Int.emod_lt_of_pos (bn sig ^ 65537) h0
      have a2 := dval_lt hm.reverse
      rw [List.length_reverse] at a2
      have a3 : bn m < dpw m.length := a2
      omega
    refine acallI (k_high us m.length huw (by omega) (trim_len huw hut hb1)) rfl fun r hr => ?_
    obtain ⟨vs, rfl, hvl, hvw, hvv⟩ := hr
    ((conv=>whnf);repeat' (first|((first|(show (_=true→_)∧(_=false→_);first|refine gT ?_|refine gF ?_)|(show (_=false→_)∧(_=true→_);first|refine gU ?_|refine gV ?_));conv=>whnf)|((first|(first|refine gD ?_ ?_|refine gE ?_ ?_|refine gI ?_ ?_|refine gJ ?_ ?_|refine gK ?_ ?_|refine gL ?_ ?_|refine splitB ?_ ?_|refine splitB2 ?_ ?_)<;>intro _h|intro _h);all_goals first|contradiction|conv=>whnf)|(show _∧_;refine gA ?_;conv=>whnf)|fail))
    refine Ends.imm rfl ?_
    have : vs = be m.length (bn sig ^ 65537 % bn m).toNat := by
      have h1 : dval vs.reverse = dval (be m.length (bn sig ^ 65537 % bn m).toNat).reverse := by
        have h2 : 0 ≤ bn sig ^ 65537 % bn m := Int.emod_nonneg _ (by omega)
        rw [hvv, dval_be, hus]
        have h3 : (bn sig ^ 65537 % bn m).toNat < 256 ^ m.length := by
          have : dpw m.length = ((256 ^ m.length : Nat) : Int) := by unfold dpw; rw [Int.natCast_pow]; rfl
          omega
        rw [Nat.mod_eq_of_lt h3]
        omega
      have := dval_inj hvw.reverse (be_wfd _ _).reverse (by simp [be_length, hvl]) h1
      simpa using this
    rw [if_neg (by omega), if_neg hge, this]

def toldGrow : AW.Told := ⟨fun f => f == 1005005 || f == 1005008, fun _ _ => [], fun _ => .done⟩

theorem k_grow (n : Nat) (h0 : 0 < n) (hn : n ≤ 1000000) : CSpec Tryd.prog 97 [.nls (byt []), i64 n] [] 0 (fun st nx r => st = [(0, .row .u8 5 [])] ∧ nx = 1 ∧ r = .own 0) := by
  have e1 : IntKind.i64.wrap ((n : Int) - IntKind.i64.wrap (0 - 0)) = n := by
    rw [wrap_i64 (n := 0 - 0) (by omega) (by omega), wrap_i64 (by omega) (by omega)]; omega
  refine CSpec.ends (CSpec.of_awp toldGrow [] Tryd.func97 rfl (by decide) (Nat.le_of_ble_eq_true rfl) fun _w0 _S0 _E0 _B0 => ?_)
  ((conv=>whnf);repeat' (first|((first|(show (_=true→_)∧(_=false→_);first|refine gT ?_|refine gF ?_)|(show (_=false→_)∧(_=true→_);first|refine gU ?_|refine gV ?_));conv=>whnf)|((first|(first|refine gD ?_ ?_|refine gE ?_ ?_|refine gI ?_ ?_|refine gJ ?_ ?_|refine gK ?_ ?_|refine gL ?_ ?_|refine splitB ?_ ?_|refine splitB2 ?_ ?_)<;>intro _h|intro _h);all_goals first|contradiction|conv=>whnf)|(show _∧_;refine gA ?_;conv=>whnf)|fail))
  refine ao_cap rfl rfl rfl rfl ?_
  ((conv=>whnf);repeat' (first|((first|(show (_=true→_)∧(_=false→_);first|refine gT ?_|refine gF ?_)|(show (_=false→_)∧(_=true→_);first|refine gU ?_|refine gV ?_));conv=>whnf)|((first|(first|refine gD ?_ ?_|refine gE ?_ ?_|refine gI ?_ ?_|refine gJ ?_ ?_|refine gK ?_ ?_|refine gL ?_ ?_|refine splitB ?_ ?_|refine splitB2 ?_ ?_)<;>intro _h|intro _h);all_goals first|contradiction|conv=>whnf)|(show _∧_;refine gA ?_;conv=>whnf)|fail))
  refine ao_cap rfl rfl rfl rfl ?_
  ((conv=>whnf);repeat' (first|((first|(show (_=true→_)∧(_=false→_);first|refine gT ?_|refine gF ?_)|(show (_=false→_)∧(_=true→_);first|refine gU ?_|refine gV ?_));conv=>whnf)|((first|(first|refine gD ?_ ?_|refine gE ?_ ?_|refine gI ?_ ?_|refine gJ ?_ ?_|refine gK ?_ ?_|refine gL ?_ ?_|refine splitB ?_ ?_|refine splitB2 ?_ ?_)<;>intro _h|intro _h);all_goals first|contradiction|conv=>whnf)|(show _∧_;refine gA ?_;conv=>whnf)|fail))
  rw [e1]
  refine ao_appz (k := .u8) (n := n) rfl rfl rfl rfl rfl rfl rfl rfl rfl rfl (by decide) h0 (by omega) ?_
  ((conv=>whnf);repeat' (first|((first|(show (_=true→_)∧(_=false→_);first|refine gT ?_|refine gF ?_)|(show (_=false→_)∧(_=true→_);first|refine gU ?_|refine gV ?_));conv=>whnf)|((first|(first|refine gD ?_ ?_|refine gE ?_ ?_|refine gI ?_ ?_|refine gJ ?_ ?_|refine gK ?_ ?_|refine gL ?_ ?_|refine splitB ?_ ?_|refine splitB2 ?_ ?_)<;>intro _h|intro _h);all_goals first|contradiction|conv=>whnf)|(show _∧_;refine gA ?_;conv=>whnf)|fail))
  refine ao_cut0 (k := .u8) (j := 0) rfl rfl rfl rfl rfl rfl rfl rfl (Nat.zero_le _) (by simp; omega) ?_
  ((conv=>whnf);repeat' (first|((first|(show (_=true→_)∧(_=false→_);first|refine gT ?_|refine gF ?_)|(show (_=false→_)∧(_=true→_);first|refine gU ?_|refine gV ?_));conv=>whnf)|((first|(first|refine gD ?_ ?_|refine gE ?_ ?_|refine gI ?_ ?_|refine gJ ?_ ?_|refine gK ?_ ?_|refine gL ?_ ?_|refine splitB ?_ ?_|refine splitB2 ?_ ?_)<;>intro _h|intro _h);all_goals first|contradiction|conv=>whnf)|(show _∧_;refine gA ?_;conv=>whnf)|fail))
  exact ⟨[0], [(0, .row .u8 5 [])], .own 0, ⟨rfl, ⟨⟨by decide, rfl⟩, trivial⟩, rfl⟩, rfl, rfl, rfl⟩

theorem flat_take (xss : List (List Int)) (k : Nat) (h : k < xss.length) : (xss.take (k + 1)).flatten = (xss.take k).flatten ++ xss.getD k [] := by
  rw [List.take_add_one, List.flatten_append, List.getElem?_eq_getElem h, List.getD_eq_getElem?_getD, List.getElem?_eq_getElem h]
  simp
theorem flat_le (xss : List (List Int)) (k : Nat) : (xss.take k).flatten.length ≤ xss.flatten.length := by
  have h : xss.flatten = (xss.take k).flatten ++ (xss.drop k).flatten := by rw [← List.flatten_append, List.take_append_drop]
  rw [h, List.length_append]
  omega

/-- Lists of bytes, one behind the other. -/
theorem k_concat (xss : List (List Int)) (h0 : 0 < xss.flatten.length) (hl : xss.flatten.length ≤ 1000000) (hx : xss.length ≤ 1000000) :
    Imm Tryd.prog 67 [.d (.sl 1 (xss.map byt))] (fun r => r = .d (byt xss.flatten)) := by
  (refine Imm.of_awp told0 [2] Tryd.func67 rfl (by decide) (Nat.le_of_ble_eq_true rfl) ?_; intro _w0 _S0 _E0 _B0; ((conv=>whnf);repeat' (first|((first|(show (_=true→_)∧(_=false→_);first|refine nTt ?_|refine nFf ?_)|(show (_=false→_)∧(_=true→_);first|refine nU ?_|refine nV ?_));conv=>whnf)|((first|(first|refine gD ?_ ?_|refine gE ?_ ?_|refine gI ?_ ?_|refine gJ ?_ ?_|refine gK ?_ ?_|refine gL ?_ ?_|refine splitB ?_ ?_|refine splitB2 ?_ ?_)<;>intro _h|intro _h);all_goals first|contradiction|conv=>whnf)|(show _∧_;refine gA ?_;conv=>whnf)|fail)))
  refine aloop (T := told0) (fun k : Nat => [(0, .d (.sl 1 (xss.map byt))), (3, i64 (xss.take k).flatten.length), (9, .d (.sl 1 (xss.map byt))), (10, i64 xss.length), (11, i64 k)]) (fun _ => []) 36 0 (fun k => xss.length - k) (fun k => k ≤ xss.length)
    ⟨0, [], rfl, Nat.zero_le _, by (refine ⟨rfl, rfl, ?_, ?_⟩ <;> repeat' (first | exact True.intro | rfl | decide | (refine And.intro ?_ ?_))); simp [AW.upd, renV]⟩ ?_
  intro k hk
  have hf1 := flat_le xss (k + 1)
  rcases Nat.lt_or_ge k xss.length with hkl | hkl
  · have hfk := flat_take xss k hkl
    have hlen : (xss.take (k + 1)).flatten.length = (xss.take k).flatten.length + (xss.getD k []).length := by rw [hfk, List.length_append]
    have e1 : IntKind.i64.wrap (((xss.take k).flatten.length : Int) + (xss.getD k []).length) = ((xss.take (k + 1)).flatten.length : Nat) := by
      rw [wrap_i64 (by omega) (by omega)]; omega
    ((conv=>whnf);repeat' (first|((first|(show (_=true→_)∧(_=false→_);first|refine gT ?_|refine gF ?_)|(show (_=false→_)∧(_=true→_);first|refine gU ?_|refine gV ?_));conv=>whnf)|((first|(first|refine gD ?_ ?_|refine gE ?_ ?_|refine gI ?_ ?_|refine gJ ?_ ?_|refine gK ?_ ?_|refine gL ?_ ?_|refine splitB ?_ ?_|refine splitB2 ?_ ?_)<;>intro _h|intro _h);all_goals first|contradiction|conv=>whnf)|(show _∧_;refine gA ?_;conv=>whnf)|fail))
    rw [Int.toNat_natCast, getD_map byt xss k [] default (by omega)]
    ((conv=>whnf);repeat' (first|((first|(show (_=true→_)∧(_=false→_);first|refine gT ?_|refine gF ?_)|(show (_=false→_)∧(_=true→_);first|refine gU ?_|refine gV ?_));conv=>whnf)|((first|(first|refine gD ?_ ?_|refine gE ?_ ?_|refine gI ?_ ?_|refine gJ ?_ ?_|refine gK ?_ ?_|refine gL ?_ ?_|refine splitB ?_ ?_|refine splitB2 ?_ ?_)<;>intro _h|intro _h);all_goals first|contradiction|conv=>whnf)|(show _∧_;refine gA ?_;conv=>whnf)|fail))
    refine ⟨k + 1, [], by omega, by omega, rfl, ?_⟩
    (refine ⟨rfl, rfl, ?_, ?_⟩ <;> repeat' (first | exact True.intro | rfl | decide | (refine And.intro ?_ ?_)))
    · exact di e1
    · exact di (by rw [wrap_i64 (by omega) (by omega)]; rfl)
  · have hk' : k = xss.length := by omega
    subst hk'
    rw [List.take_length]
    ((conv=>whnf);repeat' (first|((first|(show (_=true→_)∧(_=false→_);first|refine gT ?_|refine gF ?_)|(show (_=false→_)∧(_=true→_);first|refine gU ?_|refine gV ?_));conv=>whnf)|((first|(first|refine gD ?_ ?_|refine gE ?_ ?_|refine gI ?_ ?_|refine gJ ?_ ?_|refine gK ?_ ?_|refine gL ?_ ?_|refine splitB ?_ ?_|refine splitB2 ?_ ?_)<;>intro _h|intro _h);all_goals first|contradiction|conv=>whnf)|(show _∧_;refine gA ?_;conv=>whnf)|fail))
    refine acall [] (k_grow xss.flatten.length h0 hl) rfl (by simp [stIn]) rfl (fun _ => rfl) ?_
    rintro st nx r ⟨rfl, rfl, rfl⟩
    ((conv=>whnf);repeat' (first|((first|(show (_=true→_)∧(_=false→_);first|refine gT ?_|refine gF ?_)|(show (_=false→_)∧(_=true→_);first|refine gU ?_|refine gV ?_));conv=>whnf)|((first|(first|refine gD ?_ ?_|refine gE ?_ ?_|refine gI ?_ ?_|refine gJ ?_ ?_|refine gK ?_ ?_|refine gL ?_ ?_|refine splitB ?_ ?_|refine splitB2 ?_ ?_)<;>intro _h|intro _h);all_goals first|contradiction|conv=>whnf)|(show _∧_;refine gA ?_;conv=>whnf)|fail))
    refine aloop (T := told0) (fun k : Nat => [(0, .d (.sl 1 (xss.map byt))), (6, .own 0), (25, .d (.sl 1 (xss.map byt))), (26, i64 xss.length), (27, i64 k)]) (fun k => [(0, .row .u8 5 (xss.take k).flatten)]) 36 1 (fun k => xss.length - k) (fun k => k ≤ xss.length)
      ⟨0, [0], rfl, Nat.zero_le _, by (refine ⟨rfl, rfl, ?_, ?_⟩ <;> repeat' (first | exact True.intro | rfl | decide | (refine And.intro ?_ ?_))); simp [AW.upd, renV]⟩ ?_
    intro k hk
    have hf1 := flat_le xss (k + 1)
    rcases Nat.lt_or_ge k xss.length with hkl | hkl
    · have hfk := flat_take xss k hkl
      have hlen : (xss.take (k + 1)).flatten.length = (xss.take k).flatten.length + (xss.getD k []).length := by rw [hfk, List.length_append]
      ((conv=>whnf);repeat' (first|((first|(show (_=true→_)∧(_=false→_);first|refine gT ?_|refine gF ?_)|(show (_=false→_)∧(_=true→_);first|refine gU ?_|refine gV ?_));conv=>whnf)|((first|(first|refine gD ?_ ?_|refine gE ?_ ?_|refine gI ?_ ?_|refine gJ ?_ ?_|refine gK ?_ ?_|refine gL ?_ ?_|refine splitB ?_ ?_|refine splitB2 ?_ ?_)<;>intro _h|intro _h);all_goals first|contradiction|conv=>whnf)|(show _∧_;refine gA ?_;conv=>whnf)|fail))
      rw [Int.toNat_natCast, getD_map byt xss k [] default (by omega)]
      ((conv=>whnf);repeat' (first|((first|(show (_=true→_)∧(_=false→_);first|refine gT ?_|refine gF ?_)|(show (_=false→_)∧(_=true→_);first|refine gU ?_|refine gV ?_));conv=>whnf)|((first|(first|refine gD ?_ ?_|refine gE ?_ ?_|refine gI ?_ ?_|refine gJ ?_ ?_|refine gK ?_ ?_|refine gL ?_ ?_|refine splitB ?_ ?_|refine splitB2 ?_ ?_)<;>intro _h|intro _h);all_goals first|contradiction|conv=>whnf)|(show _∧_;refine gA ?_;conv=>whnf)|fail))
      refine ⟨by show ((xss.take k).flatten.length + (xss.getD k []).length) * 1 ≤ 140737488355328; omega, ?_⟩
      ((conv=>whnf);repeat' (first|((first|(show (_=true→_)∧(_=false→_);first|refine gT ?_|refine gF ?_)|(show (_=false→_)∧(_=true→_);first|refine gU ?_|refine gV ?_));conv=>whnf)|((first|(first|refine gD ?_ ?_|refine gE ?_ ?_|refine gI ?_ ?_|refine gJ ?_ ?_|refine gK ?_ ?_|refine gL ?_ ?_|refine splitB ?_ ?_|refine splitB2 ?_ ?_)<;>intro _h|intro _h);all_goals first|contradiction|conv=>whnf)|(show _∧_;refine gA ?_;conv=>whnf)|fail))
      refine ⟨k + 1, [0], by omega, by omega, rfl, ?_⟩
      (refine ⟨rfl, rfl, ?_, ?_⟩ <;> repeat' (first | exact True.intro | rfl | decide | (refine And.intro ?_ ?_)))
      · exact di (by rw [wrap_i64 (by omega) (by omega)]; rfl)
      · show some (Ob.row .u8 _ _) = some (Ob.row .u8 _ _)
        rw [hfk]
    · have hk' : k = xss.length := by omega
      subst hk'
      rw [List.take_length]
      ((conv=>whnf);repeat' (first|((first|(show (_=true→_)∧(_=false→_);first|refine gT ?_|refine gF ?_)|(show (_=false→_)∧(_=true→_);first|refine gU ?_|refine gV ?_));conv=>whnf)|((first|(first|refine gD ?_ ?_|refine gE ?_ ?_|refine gI ?_ ?_|refine gJ ?_ ?_|refine gK ?_ ?_|refine gL ?_ ?_|refine splitB ?_ ?_|refine splitB2 ?_ ?_)<;>intro _h|intro _h);all_goals first|contradiction|conv=>whnf)|(show _∧_;refine gA ?_;conv=>whnf)|fail))
      exact Ends.imm rfl rfl

def keyBytes (m : List Int) (n0 : Int) (rr : List Int) : List Int := (be 4 (8 * m.length) ++ be 4 n0.toNat) ++ (m ++ be m.length (val rr).toNat)

def toldKB : AW.Told := ⟨fun _ => false, fun r i => if r == 4 && i == 7 then [41] else [], fun _ => .done⟩

theorem k_keyBytes (m n : List Int) (n0 : Int) (rr : List Int) (h : Key m n n0 rr) : Imm Tryd.prog 30 [.d (keyD m n n0 rr)] (fun r => r = .d (byt (keyBytes m n0 rr))) := by
  obtain ⟨h1, h2, h3, hs⟩ := h.pos
  have hl := h.len
  have w1 : IntKind.i64.wrap (8 * (m.length : Int)) = ((8 * m.length : Nat) : Int) := by rw [wrap_i64 (by omega) (by omega)]; omega
  have hn0 := h.ring.hn0
  obtain ⟨v, hv⟩ : ∃ v : Nat, n0 = v := ⟨n0.toNat, by omega⟩
  (refine Imm.of_awp toldKB [] Tryd.func30 rfl (by decide) (Nat.le_of_ble_eq_true rfl) ?_; intro _w0 _S0 _E0 _B0; ((conv=>whnf);repeat' (first|((first|(show (_=true→_)∧(_=false→_);first|refine nTt ?_|refine nFf ?_)|(show (_=false→_)∧(_=true→_);first|refine nU ?_|refine nV ?_));conv=>whnf)|((first|(first|refine gD ?_ ?_|refine gE ?_ ?_|refine gI ?_ ?_|refine gJ ?_ ?_|refine gK ?_ ?_|refine gL ?_ ?_|refine splitB ?_ ?_|refine splitB2 ?_ ?_)<;>intro _h|intro _h);all_goals first|contradiction|conv=>whnf)|(show _∧_;refine gA ?_;conv=>whnf)|fail)))
  refine acallI (k_size m n n0 rr) rfl fun r hr => ?_
  subst hr
  ((conv=>whnf);repeat' (first|((first|(show (_=true→_)∧(_=false→_);first|refine gT ?_|refine gF ?_)|(show (_=false→_)∧(_=true→_);first|refine gU ?_|refine gV ?_));conv=>whnf)|((first|(first|refine gD ?_ ?_|refine gE ?_ ?_|refine gI ?_ ?_|refine gJ ?_ ?_|refine gK ?_ ?_|refine gL ?_ ?_|refine splitB ?_ ?_|refine splitB2 ?_ ?_)<;>intro _h|intro _h);all_goals first|contradiction|conv=>whnf)|(show _∧_;refine gA ?_;conv=>whnf)|fail))
  rw [w1]
  refine acallI (k_putN 4 (8 * m.length) (by omega) (by omega) (by omega)) rfl fun r hr => ?_
  unfold putQ at hr
  subst hr
  ((conv=>whnf);repeat' (first|((first|(show (_=true→_)∧(_=false→_);first|refine gT ?_|refine gF ?_)|(show (_=false→_)∧(_=true→_);first|refine gU ?_|refine gV ?_));conv=>whnf)|((first|(first|refine gD ?_ ?_|refine gE ?_ ?_|refine gI ?_ ?_|refine gJ ?_ ?_|refine gK ?_ ?_|refine gL ?_ ?_|refine splitB ?_ ?_|refine splitB2 ?_ ?_)<;>intro _h|intro _h);all_goals first|contradiction|conv=>whnf)|(show _∧_;refine gA ?_;conv=>whnf)|fail))
  refine acallI (k_n0 n n0 rr hn0) rfl fun r hr => ?_
  subst hr
  ((conv=>whnf);repeat' (first|((first|(show (_=true→_)∧(_=false→_);first|refine gT ?_|refine gF ?_)|(show (_=false→_)∧(_=true→_);first|refine gU ?_|refine gV ?_));conv=>whnf)|((first|(first|refine gD ?_ ?_|refine gE ?_ ?_|refine gI ?_ ?_|refine gJ ?_ ?_|refine gK ?_ ?_|refine gL ?_ ?_|refine splitB ?_ ?_|refine splitB2 ?_ ?_)<;>intro _h|intro _h);all_goals first|contradiction|conv=>whnf)|(show _∧_;refine gA ?_;conv=>whnf)|fail))
  refine acallI (k_put 4 v (by omega) (by omega) (by omega) ([] ++ be 4 (8 * m.length)) (fun h => by have := congrArg List.length h; simp [be_length] at this) (by simp [be_length])) (by rw [hv]; rfl) fun r hr => ?_
  unfold putQ at hr
  subst hr
  ((conv=>whnf);repeat' (first|((first|(show (_=true→_)∧(_=false→_);first|refine gT ?_|refine gF ?_)|(show (_=false→_)∧(_=true→_);first|refine gU ?_|refine gV ?_));conv=>whnf)|((first|(first|refine gD ?_ ?_|refine gE ?_ ?_|refine gI ?_ ?_|refine gJ ?_ ?_|refine gK ?_ ?_|refine gL ?_ ?_|refine splitB ?_ ?_|refine splitB2 ?_ ?_)<;>intro _h|intro _h);all_goals first|contradiction|conv=>whnf)|(show _∧_;refine gA ?_;conv=>whnf)|fail))
  refine acallI (k_rr n n0 rr (fun h' => by have := h.ring.hrl; rw [h'] at this; simp at this; omega) (by have := h.ring.hrl; omega)) rfl fun r hr => ?_
  subst hr
  ((conv=>whnf);repeat' (first|((first|(show (_=true→_)∧(_=false→_);first|refine gT ?_|refine gF ?_)|(show (_=false→_)∧(_=true→_);first|refine gU ?_|refine gV ?_));conv=>whnf)|((first|(first|refine gD ?_ ?_|refine gE ?_ ?_|refine gI ?_ ?_|refine gJ ?_ ?_|refine gK ?_ ?_|refine gL ?_ ?_|refine splitB ?_ ?_|refine splitB2 ?_ ?_)<;>intro _h|intro _h);all_goals first|contradiction|conv=>whnf)|(show _∧_;refine gA ?_;conv=>whnf)|fail))
  refine acallI (k_size m n n0 rr) rfl fun r hr => ?_
  subst hr
  ((conv=>whnf);repeat' (first|((first|(show (_=true→_)∧(_=false→_);first|refine gT ?_|refine gF ?_)|(show (_=false→_)∧(_=true→_);first|refine gU ?_|refine gV ?_));conv=>whnf)|((first|(first|refine gD ?_ ?_|refine gE ?_ ?_|refine gI ?_ ?_|refine gJ ?_ ?_|refine gK ?_ ?_|refine gL ?_ ?_|refine splitB ?_ ?_|refine splitB2 ?_ ?_)<;>intro _h|intro _h);all_goals first|contradiction|conv=>whnf)|(show _∧_;refine gA ?_;conv=>whnf)|fail))
  have hrl := h.ring.hrl
  refine acallI (k_bytes rr m.length h.ring.hr ?_ (by omega) ?_) rfl fun r hr => ?_
  · unfold bad
    rw [hrl, decide_eq_false (by omega), decide_eq_false (by omega)]
    rfl
  · have a1 := h.ring.hrv
    have a2 := dval_lt h.wf.reverse
    rw [List.length_reverse] at a2
    have a3 : bn m < dpw m.length := a2
    have a4 := h.val
    omega
  subst hr
  ((conv=>whnf);repeat' (first|((first|(show (_=true→_)∧(_=false→_);first|refine gT ?_|refine gF ?_)|(show (_=false→_)∧(_=true→_);first|refine gU ?_|refine gV ?_));conv=>whnf)|((first|(first|refine gD ?_ ?_|refine gE ?_ ?_|refine gI ?_ ?_|refine gJ ?_ ?_|refine gK ?_ ?_|refine gL ?_ ?_|refine splitB ?_ ?_|refine splitB2 ?_ ?_)<;>intro _h|intro _h);all_goals first|contradiction|conv=>whnf)|(show _∧_;refine gA ?_;conv=>whnf)|fail))
  refine acallI (k_concat [[] ++ be 4 (8 * m.length) ++ be 4 v, m, be m.length (val rr).toNat] (by simp [be_length]; omega) (by simp [be_length]; omega) (by simp)) rfl fun r hr => ?_
  subst hr
  ((conv=>whnf);repeat' (first|((first|(show (_=true→_)∧(_=false→_);first|refine gT ?_|refine gF ?_)|(show (_=false→_)∧(_=true→_);first|refine gU ?_|refine gV ?_));conv=>whnf)|((first|(first|refine gD ?_ ?_|refine gE ?_ ?_|refine gI ?_ ?_|refine gJ ?_ ?_|refine gK ?_ ?_|refine gL ?_ ?_|refine splitB ?_ ?_|refine splitB2 ?_ ?_)<;>intro _h|intro _h);all_goals first|contradiction|conv=>whnf)|(show _∧_;refine gA ?_;conv=>whnf)|fail))
  refine Ends.imm rfl ?_
  simp [keyBytes, hv]

def hx (c : Int) : Int := if 97 ≤ c ∧ c ≤ 102 then c - 97 + 10 else IntKind.u8.wrap (c - 48)
theorem hx_le (c : Int) : 0 ≤ hx c ∧ hx c ≤ 255 := by
  unfold hx
  split
  · omega
  · simp [IntKind.wrap, IntKind.bits, IntKind.signed]; omega
def hxAt (xs : List Int) (k : Nat) : Int := IntKind.u8.wrap (hx (xs.getD (2 * k) 0) * 16 + hx (xs.getD (2 * k + 1) 0))
/-- Bytes of pairs of digits. -/
def hexB (xs : List Int) : List Int := (List.range (xs.length / 2)).map (hxAt xs)
def pv (xs : List Int) (k : Nat) : Nat → Int
  | 0 => 0
  | j + 1 => pv xs k j * 16 + hx (xs.getD (2 * k + j) 0)

theorem hexB_take (xs : List Int) (k : Nat) (h : k < xs.length / 2) : (hexB xs).take (k + 1) = (hexB xs).take k ++ [hxAt xs k] := by
  rw [take_snoc (by simp [hexB]; omega)]
  congr 2
  rw [List.getD_eq_getElem?_getD, hexB, List.getElem?_map, List.getElem?_range h]; rfl

theorem k_hex (xs : List Int) (hx0 : wfd xs) (hl : xs.length ≤ 100000) (h2 : 2 ≤ xs.length) : Imm Tryd.prog 54 [.d (.str xs)] (fun r => r = .d (byt (hexB xs))) := by
  (refine Imm.of_awp told0 [2] Tryd.func54 rfl (by decide) (Nat.le_of_ble_eq_true rfl) ?_; intro _w0 _S0 _E0 _B0; ((conv=>whnf);repeat' (first|((first|(show (_=true→_)∧(_=false→_);first|refine nTt ?_|refine nFf ?_)|(show (_=false→_)∧(_=true→_);first|refine nU ?_|refine nV ?_));conv=>whnf)|((first|(first|refine gD ?_ ?_|refine gE ?_ ?_|refine gI ?_ ?_|refine gJ ?_ ?_|refine gK ?_ ?_|refine gL ?_ ?_|refine splitB ?_ ?_|refine splitB2 ?_ ?_)<;>intro _h|intro _h);all_goals first|contradiction|conv=>whnf)|(show _∧_;refine gA ?_;conv=>whnf)|fail)))
  refine AWp.adopt 3 (.row .u8 5 []) rfl rfl ?_
  refine aloop (T := told0) (ι := Nat) (fun k => [(0, .d (.str xs)), (3, .own 0), (4, i64 (2 * k : Nat))]) (fun k => [(0, .row .u8 5 ((hexB xs).take k))]) 52 1
    (fun k => xs.length / 2 - k) (fun k => k ≤ xs.length / 2)
    ⟨0, [0], rfl, by omega, by (refine ⟨rfl, rfl, ?_, ?_⟩ <;> repeat' (first | exact True.intro | rfl | decide | (refine And.intro ?_ ?_)))⟩ ?_
  intro k hk
  have hlen : ((hexB xs).take k).length = k := by simp [hexB]; omega
  rcases Nat.lt_or_ge k (xs.length / 2) with hkl | hkl
  · have e1 : IntKind.i64.wrap (((2 * k : Nat) : Int) + 1) = (2 * k + 1 : Nat) := by rw [wrap_i64 (by omega) (by omega)]; omega
    have e2 : IntKind.i64.wrap (((2 * k : Nat) : Int) + 2) = (2 * k + 2 : Nat) := by rw [wrap_i64 (by omega) (by omega)]; omega
    ((conv=>whnf);repeat' (first|((first|(show (_=true→_)∧(_=false→_);first|refine gT ?_|refine gF ?_)|(show (_=false→_)∧(_=true→_);first|refine gU ?_|refine gV ?_));conv=>whnf)|((first|(first|refine gD ?_ ?_|refine gE ?_ ?_|refine gI ?_ ?_|refine gJ ?_ ?_|refine gK ?_ ?_|refine gL ?_ ?_|refine splitB ?_ ?_|refine splitB2 ?_ ?_)<;>intro _h|intro _h);all_goals first|contradiction|conv=>whnf)|(show _∧_;refine gA ?_;conv=>whnf)|fail))
    obtain ⟨ys, hys⟩ : ∃ ys, ys = (xs.take (2 * k + 2)).drop (2 * k) := ⟨_, rfl⟩
    have hyl : ys.length = 2 := by rw [hys]; simp; omega
    have hyg : ∀ j, j < 2 → ys.getD j 0 = xs.getD (2 * k + j) 0 := fun j hj => by
      rw [hys, List.getD_eq_getElem?_getD, List.getElem?_drop, List.getElem?_take, if_pos (by omega), ← List.getD_eq_getElem?_getD]
    refine aloop (T := told0) (ι := Nat × Int) (fun p => [(0, .d (.str xs)), (3, .own 0), (4, i64 (2 * k : Nat)), (5, i64 p.2), (20, .d (byt ys)), (21, i64 ys.length), (22, i64 p.1)]) (fun p => [(0, .row .u8 5 ((hexB xs).take k))]) 52 1
      (fun p => 2 - p.1) (fun p => p.1 ≤ 2 ∧ p.2 = pv xs k p.1)
      ⟨(0, 0), [0], rfl, ⟨by omega, rfl⟩, by
        (refine ⟨rfl, rfl, ?_, ?_⟩ <;> repeat' (first | exact True.intro | rfl | decide | (refine And.intro ?_ ?_)))
        · show AVal.d (.ints .u8 _) = AVal.d (.ints .u8 ys)
          rw [e2, hys]; rfl
        · show AVal.d (.int .i64 _) = AVal.d (.int .i64 ys.length)
          rw [e2, hys]; rfl⟩ ?_
    intro ⟨j, n⟩ ⟨hj, hn⟩
    dsimp only at hj hn ⊢
    have hpb : ∀ j, j ≤ 2 → 0 ≤ pv xs k j ∧ pv xs k j ≤ 10000 := fun j hj => by
      have a0 := hx_le (xs.getD (2 * k + 0) 0)
      have a1 := hx_le (xs.getD (2 * k + 1) 0)
      have : j = 0 ∨ j = 1 ∨ j = 2 := by omega
      rcases this with rfl | rfl | rfl <;> simp only [pv] <;> omega
    have hp := hpb j hj
    rcases Nat.lt_or_ge j 2 with hj2 | hj2
    · have hg : ys.getD (j : Int).toNat 0 = xs.getD (2 * k + j) 0 := by rw [Int.toNat_natCast]; exact hyg j hj2
      have hc := hx0.get (2 * k + j)
      have hp1 := hpb (j + 1) (by omega)
      have hxl := hx_le (xs.getD (2 * k + j) 0)
      have e3 : IntKind.i64.wrap (n * 16) = n * 16 := wrap_i64 (by omega) (by omega)
      have key : ∀ v, v = pv xs k (j + 1) → AVal.d (.int .i64 v) = i64 (pv xs k (j + 1)) := fun v h => di h
      have hw8 : IntKind.u8.wrap (ys.getD (j : Int).toNat 0 - 48) = IntKind.u8.wrap (xs.getD (2 * k + j) 0 - 48) := by rw [hg]
      have hw8b : 0 ≤ IntKind.u8.wrap (xs.getD (2 * k + j) 0 - 48) ∧ IntKind.u8.wrap (xs.getD (2 * k + j) 0 - 48) ≤ 255 := by
        simp [IntKind.wrap, IntKind.bits, IntKind.signed]; omega
      have hlow : ¬ (97 ≤ xs.getD (2 * k + j) 0 ∧ xs.getD (2 * k + j) 0 ≤ 102) → IntKind.i64.wrap (IntKind.i64.wrap (n * 16) + IntKind.i64.wrap (IntKind.u8.wrap (ys.getD (j : Int).toNat 0 - 48))) = pv xs k (j + 1) := fun h => by
        rw [hw8, e3, wrap_i64 (n := IntKind.u8.wrap (xs.getD (2 * k + j) 0 - 48)) (by omega) (by omega), wrap_i64 (by omega) (by omega), hn]
        simp only [pv, hx]
        rw [if_neg h]
      ((conv=>whnf);repeat' (first|((first|(show (_=true→_)∧(_=false→_);first|refine gT ?_|refine gF ?_)|(show (_=false→_)∧(_=true→_);first|refine gU ?_|refine gV ?_));conv=>whnf)|((first|(first|refine gD ?_ ?_|refine gE ?_ ?_|refine gI ?_ ?_|refine gJ ?_ ?_|refine gK ?_ ?_|refine gL ?_ ?_|refine splitB ?_ ?_|refine splitB2 ?_ ?_)<;>intro _h|intro _h);all_goals first|contradiction|conv=>whnf)|(show _∧_;refine gA ?_;conv=>whnf)|fail))
      · have hge : 97 ≤ xs.getD (2 * k + j) 0 ∧ xs.getD (2 * k + j) 0 ≤ 102 := by omega
        have hw9 : IntKind.u8.wrap (ys.getD (j : Int).toNat 0 - 97) = xs.getD (2 * k + j) 0 - 97 := by
          rw [hg]
          exact wrap_in.2 ⟨by simp only [loK]; omega, by simp only [hiK]; omega⟩
        refine ⟨(j + 1, pv xs k (j + 1)), [0], by dsimp only; omega, ⟨by dsimp only; omega, rfl⟩, rfl, ?_⟩
        (refine ⟨rfl, rfl, ?_, ?_⟩ <;> repeat' (first | exact True.intro | rfl | decide | (refine And.intro ?_ ?_)))
        · refine key _ ?_
          rw [hw9, e3, wrap_i64 (n := xs.getD (2 * k + j) 0 - 97) (by omega) (by omega), wrap_i64 (n := xs.getD (2 * k + j) 0 - 97 + 10) (by omega) (by omega), wrap_i64 (by omega) (by omega), hn]
          simp only [pv, hx]
          rw [if_pos hge]
        · exact di (by rw [wrap_i64 (by omega) (by omega)]; rfl)
      · refine ⟨(j + 1, pv xs k (j + 1)), [0], by dsimp only; omega, ⟨by dsimp only; omega, rfl⟩, rfl, ?_⟩
        (refine ⟨rfl, rfl, ?_, ?_⟩ <;> repeat' (first | exact True.intro | rfl | decide | (refine And.intro ?_ ?_)))
        · exact key _ (hlow (by omega))
        · exact di (by rw [wrap_i64 (by omega) (by omega)]; rfl)
      · refine ⟨(j + 1, pv xs k (j + 1)), [0], by dsimp only; omega, ⟨by dsimp only; omega, rfl⟩, rfl, ?_⟩
        (refine ⟨rfl, rfl, ?_, ?_⟩ <;> repeat' (first | exact True.intro | rfl | decide | (refine And.intro ?_ ?_)))
        · exact key _ (hlow (by omega))
        · exact di (by rw [wrap_i64 (by omega) (by omega)]; rfl)
    · have hj' : j = 2 := by omega
      ((conv=>whnf);repeat' (first|((first|(show (_=true→_)∧(_=false→_);first|refine gT ?_|refine gF ?_)|(show (_=false→_)∧(_=true→_);first|refine gU ?_|refine gV ?_));conv=>whnf)|((first|(first|refine gD ?_ ?_|refine gE ?_ ?_|refine gI ?_ ?_|refine gJ ?_ ?_|refine gK ?_ ?_|refine gL ?_ ?_|refine splitB ?_ ?_|refine splitB2 ?_ ?_)<;>intro _h|intro _h);all_goals first|contradiction|conv=>whnf)|(show _∧_;refine gA ?_;conv=>whnf)|fail))
      have ebyte : IntKind.u8.wrap n = hxAt xs k := by
        rw [hn, hj']
        simp only [pv, hxAt]
        congr 1
        simp
      refine ⟨by rw [hlen]; show (k + 1) * 1 ≤ 140737488355328; omega, ?_⟩
      ((conv=>whnf);repeat' (first|((first|(show (_=true→_)∧(_=false→_);first|refine gT ?_|refine gF ?_)|(show (_=false→_)∧(_=true→_);first|refine gU ?_|refine gV ?_));conv=>whnf)|((first|(first|refine gD ?_ ?_|refine gE ?_ ?_|refine gI ?_ ?_|refine gJ ?_ ?_|refine gK ?_ ?_|refine gL ?_ ?_|refine splitB ?_ ?_|refine splitB2 ?_ ?_)<;>intro _h|intro _h);all_goals first|contradiction|conv=>whnf)|(show _∧_;refine gA ?_;conv=>whnf)|fail))
      refine ⟨k + 1, [0], by omega, by omega, rfl, ?_⟩
      (refine ⟨rfl, rfl, ?_, ?_⟩ <;> repeat' (first | exact True.intro | rfl | decide | (refine And.intro ?_ ?_)))
      · exact di (by rw [e2]; omega)
      · show some (Ob.row .u8 _ _) = some (Ob.row .u8 _ _)
        rw [ebyte, hexB_take xs k hkl]
  · have e1 : IntKind.i64.wrap (((2 * k : Nat) : Int) + 1) = (2 * k + 1 : Nat) := by rw [wrap_i64 (by omega) (by omega)]; omega
    ((conv=>whnf);repeat' (first|((first|(show (_=true→_)∧(_=false→_);first|refine gT ?_|refine gF ?_)|(show (_=false→_)∧(_=true→_);first|refine gU ?_|refine gV ?_));conv=>whnf)|((first|(first|refine gD ?_ ?_|refine gE ?_ ?_|refine gI ?_ ?_|refine gJ ?_ ?_|refine gK ?_ ?_|refine gL ?_ ?_|refine splitB ?_ ?_|refine splitB2 ?_ ?_)<;>intro _h|intro _h);all_goals first|contradiction|conv=>whnf)|(show _∧_;refine gA ?_;conv=>whnf)|fail))
    refine Ends.imm rfl ?_
    rw [List.take_of_length_le (by simp [hexB]; omega)]

/-- The moduli, and the exponents that go with them. -/
def keyM : Nat → Nat
  | 1 => 8798897235477369662427135118463266393166531668360946010168437584925822992125429558809574850103081583861454032877256194821401750061414846908587360976915741
  | 2 => 127999963861467928976235131166093275292161515016063763923373206774501895897251866639788429389649847322170796078865058902473104027594537885017105652176856237612874369081376323347280241957528896247405164286184783857999238518557773932972970357366484208424006982919891871196302697261030613745495102320304850740117
  | 3 => 21194976876106637767765971718165402166353776426219101977383846722248938411909916334974259674239889560497095207569630968526574494887006368495708710046325672162422584895085717556702231790328714468474804417764748464856769271775639164236900590607434035455341442204371723308978322428797989385976785730466691083582103046616771517615007258510561437830504786488550206182749961020805330594563883953407125895219372141907850320983399201270241215599536426349582548563878865734947792524324328099558734342438666921317912254057202636830323200504800306119446616233962423300924062342948048824120326245834241393092211722134327371078417
  | _ => 12607766334694039014391351008413601944683118988991459305310262151377373165058157047532882643118617957749893479614883761015472045962519006435872599572042897
def keyS : Nat → Nat
  | 1 => 665485662632596122407734592649080606288481405116928134273805682272320568781250178228116130340889242470884941083446684742951338887724730162469359910046321
  | 2 => 19049183120916691344048094653503055449840781692631774073667801039727815198303195741236296259828567743649732178095791301027730004157530242537805674060428016987991313086216564246459434546712853419322174614433193377015960796308433284073844185721518512896022191151064406223025669709891446507495599229498951901233
  | 3 => 1993305155498165339909143944411743843207981766071096251546536144049641147776168718900984932208943944735399031262575651532928603677862333524929438856989613201292271571797012682312803540590674453002799289392145309720382339847554083781285942142742567977310480782254987512624744652484801067800905120004447113747295376264649173116209078018858030489149333629011745679857466373000261196213871082456799966462884700798968705427811623624086488859501306520816411835448873617160761070230710353657650105797764969861846996854073856400239666400673624047118508045279127092387387624038080325041065703851217529775387191758196514993591
  | _ => 4461879983577615604624651717558644379571965763937522489551147675480585081767111051003969606891830699444075379236997817217414472602895223140136589450812183
def keyL : Nat → Nat
  | 2 => 128
  | 3 => 256
  | _ => 64
def modB (k : Nat) : List Int := be (keyL k) (keyM k)
def secB (k : Nat) : List Int := be (keyL k) (keyS k)
def idx (k : Int) : Nat := if k = 1 then 1 else if k = 2 then 2 else if k = 3 then 3 else 0

theorem wfd_bytesOf (s : ByteArray) : wfd (bytesOf s) := fun x hx => by
  simp only [bytesOf, List.mem_map] at hx
  obtain ⟨b, _, rfl⟩ := hx
  have := b.toNat_lt
  omega

theorem k_modulus (k : Int) : Imm Tryd.prog 20 [i64 k] (fun r => r = .d (byt (modB (idx k)))) := by
  (refine Imm.of_awp told0 [] Tryd.func20 rfl (by decide) (Nat.le_of_ble_eq_true rfl) ?_; intro _w0 _S0 _E0 _B0; ((conv=>whnf);repeat' (first|((first|(show (_=true→_)∧(_=false→_);first|refine nTt ?_|refine nFf ?_)|(show (_=false→_)∧(_=true→_);first|refine nU ?_|refine nV ?_));conv=>whnf)|((first|(first|refine gD ?_ ?_|refine gE ?_ ?_|refine gI ?_ ?_|refine gJ ?_ ?_|refine gK ?_ ?_|refine gL ?_ ?_|refine splitB ?_ ?_|refine splitB2 ?_ ?_)<;>intro _h|intro _h);all_goals first|contradiction|conv=>whnf)|(show _∧_;refine gA ?_;conv=>whnf)|fail)))
  · refine acallI (k_hex (bytesOf _) (wfd_bytesOf _) (by decide +kernel) (by decide +kernel)) rfl fun r hr => ?_
    subst hr
    ((conv=>whnf);repeat' (first|((first|(show (_=true→_)∧(_=false→_);first|refine nTt ?_|refine nFf ?_)|(show (_=false→_)∧(_=true→_);first|refine nU ?_|refine nV ?_));conv=>whnf)|((first|(first|refine gD ?_ ?_|refine gE ?_ ?_|refine gI ?_ ?_|refine gJ ?_ ?_|refine gK ?_ ?_|refine gL ?_ ?_|refine splitB ?_ ?_|refine splitB2 ?_ ?_)<;>intro _h|intro _h);all_goals first|contradiction|conv=>whnf)|(show _∧_;refine gA ?_;conv=>whnf)|fail))
    refine Ends.imm rfl ?_
    have : idx k = 1 := by unfold idx; simp [*]
    rw [this]
    refine congrArg (fun l => AVal.d (byt l)) ?_
    decide +kernel
  · refine acallI (k_hex (bytesOf _) (wfd_bytesOf _) (by decide +kernel) (by decide +kernel)) rfl fun r hr => ?_
    subst hr
    ((conv=>whnf);repeat' (first|((first|(show (_=true→_)∧(_=false→_);first|refine nTt ?_|refine nFf ?_)|(show (_=false→_)∧(_=true→_);first|refine nU ?_|refine nV ?_));conv=>whnf)|((first|(first|refine gD ?_ ?_|refine gE ?_ ?_|refine gI ?_ ?_|refine gJ ?_ ?_|refine gK ?_ ?_|refine gL ?_ ?_|refine splitB ?_ ?_|refine splitB2 ?_ ?_)<;>intro _h|intro _h);all_goals first|contradiction|conv=>whnf)|(show _∧_;refine gA ?_;conv=>whnf)|fail))
    refine Ends.imm rfl ?_
    have : idx k = 2 := by unfold idx; simp [*]
    rw [this]
    refine congrArg (fun l => AVal.d (byt l)) ?_
    decide +kernel
  · refine acallI (k_hex (bytesOf _) (wfd_bytesOf _) (by decide +kernel) (by decide +kernel)) rfl fun r hr => ?_
    subst hr
    ((conv=>whnf);repeat' (first|((first|(show (_=true→_)∧(_=false→_);first|refine nTt ?_|refine nFf ?_)|(show (_=false→_)∧(_=true→_);first|refine nU ?_|refine nV ?_));conv=>whnf)|((first|(first|refine gD ?_ ?_|refine gE ?_ ?_|refine gI ?_ ?_|refine gJ ?_ ?_|refine gK ?_ ?_|refine gL ?_ ?_|refine splitB ?_ ?_|refine splitB2 ?_ ?_)<;>intro _h|intro _h);all_goals first|contradiction|conv=>whnf)|(show _∧_;refine gA ?_;conv=>whnf)|fail))
    refine Ends.imm rfl ?_
    have : idx k = 3 := by unfold idx; simp [*]
    rw [this]
    refine congrArg (fun l => AVal.d (byt l)) ?_
    decide +kernel
  · refine acallI (k_hex (bytesOf _) (wfd_bytesOf _) (by decide +kernel) (by decide +kernel)) rfl fun r hr => ?_
    subst hr
    ((conv=>whnf);repeat' (first|((first|(show (_=true→_)∧(_=false→_);first|refine nTt ?_|refine nFf ?_)|(show (_=false→_)∧(_=true→_);first|refine nU ?_|refine nV ?_));conv=>whnf)|((first|(first|refine gD ?_ ?_|refine gE ?_ ?_|refine gI ?_ ?_|refine gJ ?_ ?_|refine gK ?_ ?_|refine gL ?_ ?_|refine splitB ?_ ?_|refine splitB2 ?_ ?_)<;>intro _h|intro _h);all_goals first|contradiction|conv=>whnf)|(show _∧_;refine gA ?_;conv=>whnf)|fail))
    refine Ends.imm rfl ?_
    have : idx k = 0 := by unfold idx; simp [*]
    rw [this]
    refine congrArg (fun l => AVal.d (byt l)) ?_
    decide +kernel
theorem k_secret (k : Int) : Imm Tryd.prog 22 [i64 k] (fun r => r = .d (byt (secB (idx k)))) := by
  (refine Imm.of_awp told0 [] Tryd.func22 rfl (by decide) (Nat.le_of_ble_eq_true rfl) ?_; intro _w0 _S0 _E0 _B0; ((conv=>whnf);repeat' (first|((first|(show (_=true→_)∧(_=false→_);first|refine nTt ?_|refine nFf ?_)|(show (_=false→_)∧(_=true→_);first|refine nU ?_|refine nV ?_));conv=>whnf)|((first|(first|refine gD ?_ ?_|refine gE ?_ ?_|refine gI ?_ ?_|refine gJ ?_ ?_|refine gK ?_ ?_|refine gL ?_ ?_|refine splitB ?_ ?_|refine splitB2 ?_ ?_)<;>intro _h|intro _h);all_goals first|contradiction|conv=>whnf)|(show _∧_;refine gA ?_;conv=>whnf)|fail)))
  · refine acallI (k_hex (bytesOf _) (wfd_bytesOf _) (by decide +kernel) (by decide +kernel)) rfl fun r hr => ?_
    subst hr
    ((conv=>whnf);repeat' (first|((first|(show (_=true→_)∧(_=false→_);first|refine nTt ?_|refine nFf ?_)|(show (_=false→_)∧(_=true→_);first|refine nU ?_|refine nV ?_));conv=>whnf)|((first|(first|refine gD ?_ ?_|refine gE ?_ ?_|refine gI ?_ ?_|refine gJ ?_ ?_|refine gK ?_ ?_|refine gL ?_ ?_|refine splitB ?_ ?_|refine splitB2 ?_ ?_)<;>intro _h|intro _h);all_goals first|contradiction|conv=>whnf)|(show _∧_;refine gA ?_;conv=>whnf)|fail))
    refine Ends.imm rfl ?_
    have : idx k = 1 := by unfold idx; simp [*]
    rw [this]
    refine congrArg (fun l => AVal.d (byt l)) ?_
    decide +kernel
  · refine acallI (k_hex (bytesOf _) (wfd_bytesOf _) (by decide +kernel) (by decide +kernel)) rfl fun r hr => ?_
    subst hr
    ((conv=>whnf);repeat' (first|((first|(show (_=true→_)∧(_=false→_);first|refine nTt ?_|refine nFf ?_)|(show (_=false→_)∧(_=true→_);first|refine nU ?_|refine nV ?_));conv=>whnf)|((first|(first|refine gD ?_ ?_|refine gE ?_ ?_|refine gI ?_ ?_|refine gJ ?_ ?_|refine gK ?_ ?_|refine gL ?_ ?_|refine splitB ?_ ?_|refine splitB2 ?_ ?_)<;>intro _h|intro _h);all_goals first|contradiction|conv=>whnf)|(show _∧_;refine gA ?_;conv=>whnf)|fail))
    refine Ends.imm rfl ?_
    have : idx k = 2 := by unfold idx; simp [*]
    rw [this]
    refine congrArg (fun l => AVal.d (byt l)) ?_
    decide +kernel
  · refine acallI (k_hex (bytesOf _) (wfd_bytesOf _) (by decide +kernel) (by decide +kernel)) rfl fun r hr => ?_
    subst hr
    ((conv=>whnf);repeat' (first|((first|(show (_=true→_)∧(_=false→_);first|refine nTt ?_|refine nFf ?_)|(show (_=false→_)∧(_=true→_);first|refine nU ?_|refine nV ?_));conv=>whnf)|((first|(first|refine gD ?_ ?_|refine gE ?_ ?_|refine gI ?_ ?_|refine gJ ?_ ?_|refine gK ?_ ?_|refine gL ?_ ?_|refine splitB ?_ ?_|refine splitB2 ?_ ?_)<;>intro _h|intro _h);all_goals first|contradiction|conv=>whnf)|(show _∧_;refine gA ?_;conv=>whnf)|fail))
    refine Ends.imm rfl ?_
    have : idx k = 3 := by unfold idx; simp [*]
    rw [this]
    refine congrArg (fun l => AVal.d (byt l)) ?_
    decide +kernel
  · refine acallI (k_hex (bytesOf _) (wfd_bytesOf _) (by decide +kernel) (by decide +kernel)) rfl fun r hr => ?_
    subst hr
    ((conv=>whnf);repeat' (first|((first|(show (_=true→_)∧(_=false→_);first|refine nTt ?_|refine nFf ?_)|(show (_=false→_)∧(_=true→_);first|refine nU ?_|refine nV ?_));conv=>whnf)|((first|(first|refine gD ?_ ?_|refine gE ?_ ?_|refine gI ?_ ?_|refine gJ ?_ ?_|refine gK ?_ ?_|refine gL ?_ ?_|refine splitB ?_ ?_|refine splitB2 ?_ ?_)<;>intro _h|intro _h);all_goals first|contradiction|conv=>whnf)|(show _∧_;refine gA ?_;conv=>whnf)|fail))
    refine Ends.imm rfl ?_
    have : idx k = 0 := by unfold idx; simp [*]
    rw [this]
    refine congrArg (fun l => AVal.d (byt l)) ?_
    decide +kernel
end Go.Proofs.YtniaeiikdgbnfaaDoor.R
namespace Go.Proofs.YtniaeiikdgbnfaaDoor.R
open Go Go.RowKit Go.Proofs Go.Proofs.YtniaeiikdgbnfaaDoor.AW
set_option maxRecDepth 100000
set_option linter.unusedSimpArgs false
set_option linter.unusedVariables false
set_option maxHeartbeats 4000000

/-- A power's rest, by squares. -/
def pm : Nat → Nat → Nat → Nat → Nat
  | 0, _, _, m => 1 % m
  | f + 1, b, e, m => if e = 0 then 1 % m else if e % 2 = 1 then b * pm f (b * b % m) (e / 2) m % m else pm f (b * b % m) (e / 2) m

theorem pm_eq : ∀ (f b e m : Nat), e < 2 ^ f → pm f b e m = b ^ e % m
  | 0, b, e, m, h => by
    have : e = 0 := by simp at h; exact h
    subst this
    simp [pm]
  | f + 1, b, e, m, h => by
    have h2 : e / 2 < 2 ^ f := by rw [Nat.pow_succ] at h; omega
    unfold pm
    split
    · rename_i h0; subst h0; simp
    · rw [pm_eq f _ _ m h2, ← Nat.pow_mod, ← Nat.pow_two, ← Nat.pow_mul]
      split
      · rename_i h1
        have h4 : 2 * (e / 2) + 1 = e := by omega
        have h3 : b * b ^ (2 * (e / 2)) = b ^ e := by rw [← Nat.pow_succ', Nat.succ_eq_add_one, h4]
        rw [← h3, Nat.mul_mod, Nat.mod_mod, ← Nat.mul_mod]
      · have : 2 * (e / 2) = e := by omega
        rw [this]

set_option linter.unusedSectionVars false
variable [Globs]
theorem powV_ok {m block exp : List Int} {M B E R : Nat} (hm : bn m = M) (hb : bn block = B) (hl : block.length = m.length) (hlt : B < M) (hel : exp.length ≤ 1024) (he : ev exp = E) (hE : E < 2 ^ 4200) (hR : pm 4200 B E M = R) :
    powV m block exp = .tup [.d (byt (be m.length R)), i64 0] := by
  unfold powV
  rw [if_neg (by omega), hm, hb, if_neg (by omega), if_neg (by omega), he, ← Int.natCast_pow, ← Int.natCast_emod, Int.toNat_natCast, ← pm_eq 4200 B E M hE, hR]

theorem bn_be {n v : Nat} (h : v < 256 ^ n) : bn (be n v) = v := by
  unfold bn
  rw [dval_be, Nat.mod_eq_of_lt h]

theorem modB_len (k : Nat) : (modB k).length = keyL k := be_length _ _
theorem secB_len (k : Nat) : (secB k).length = keyL k := be_length _ _

/-- The block of the anchor, closed. -/
def ancX : Nat := 6066988274665191910888268032501191046303578170855220796717604126367961076137979329567869479535545857336114934390111988286836951580209618009209795422463266

theorem anc_bn : bn (modB 0) = keyM 0 := bn_be (by decide +kernel)
theorem anc_close : powV (modB 0) (be 64 2) (secB 0) = .tup [.d (byt (be 64 ancX)), i64 0] :=
  powV_ok anc_bn (bn_be (by decide +kernel)) (by rw [modB_len, be_length]; rfl) (by decide +kernel) (by rw [secB_len]; decide) (E := keyS 0) (by decide +kernel) (by decide +kernel) (by decide +kernel)
theorem anc_open : powV (modB 0) (be 64 ancX) [1, 0, 1] = .tup [.d (byt (be 64 2)), i64 0] :=
  powV_ok anc_bn (bn_be (by decide +kernel)) (by rw [modB_len, be_length]; rfl) (by decide +kernel) (by decide) (E := 65537) (by decide +kernel) (by decide +kernel) (by decide +kernel)
end Go.Proofs.YtniaeiikdgbnfaaDoor.R
namespace Go.Proofs.YtniaeiikdgbnfaaDoor.R
open Go Go.RowKit Go.Proofs Go.Proofs.YtniaeiikdgbnfaaDoor.AW
set_option linter.unusedSectionVars false
variable [Globs]
set_option maxRecDepth 100000
set_option linter.unusedSimpArgs false
set_option linter.unusedVariables false
set_option maxHeartbeats 4000000

theorem be_wfd' (n v : Nat) : wfd (be n v) := be_wfd n v
theorem modB_wfd (k : Nat) : wfd (modB k) := be_wfd _ _
theorem secB_wfd (k : Nat) : wfd (secB k) := be_wfd _ _
theorem modB_right0 : notMod (modB 0) = 0 := by decide +kernel

theorem keyBytes_len (m : List Int) (n0 : Int) (rr : List Int) : (keyBytes m n0 rr).length = 8 + 2 * m.length := by
  simp [keyBytes, be_length]; omega

def toldAnc : AW.Told := ⟨fun _ => false, fun r i => if r == 7 && i == 3 then [38] else [], fun _ => .done⟩

theorem k_anchor (hG : Globs.gl 0 = some EXP) : Imm Tryd.prog 16 [] (fun r => r = bool true) := by
  have hml : (modB 0).length = 64 := modB_len 0
  (refine Imm.of_awp toldAnc [] Tryd.func16 rfl (by decide) (Nat.le_of_ble_eq_true rfl) ?_; intro _w0 _S0 _E0 _B0; ((conv=>whnf);repeat' (first|((first|(show (_=true→_)∧(_=false→_);first|refine nTt ?_|refine nFf ?_)|(show (_=false→_)∧(_=true→_);first|refine nU ?_|refine nV ?_));conv=>whnf)|((first|(first|refine gD ?_ ?_|refine gE ?_ ?_|refine gI ?_ ?_|refine gJ ?_ ?_|refine gK ?_ ?_|refine gL ?_ ?_|refine splitB ?_ ?_|refine splitB2 ?_ ?_)<;>intro _h|intro _h);all_goals first|contradiction|conv=>whnf)|(show _∧_;refine gA ?_;conv=>whnf)|fail)))
  refine acallI (k_modulus 0) rfl fun r hr => ?_
  subst hr
  ((conv=>whnf);repeat' (first|((first|(show (_=true→_)∧(_=false→_);first|refine gT ?_|refine gF ?_)|(show (_=false→_)∧(_=true→_);first|refine gU ?_|refine gV ?_));conv=>whnf)|((first|(first|refine gD ?_ ?_|refine gE ?_ ?_|refine gI ?_ ?_|refine gJ ?_ ?_|refine gK ?_ ?_|refine gL ?_ ?_|refine splitB ?_ ?_|refine splitB2 ?_ ?_)<;>intro _h|intro _h);all_goals first|contradiction|conv=>whnf)|(show _∧_;refine gA ?_;conv=>whnf)|fail))
  refine acallI (k_make (modB 0) (modB_wfd 0) (by rw [hml]; unfold LIM; omega)) rfl fun r hr => ?_
  rw [if_neg (by rw [modB_right0]; simp)] at hr
  obtain ⟨n, n0, rr, rfl, hk⟩ := hr
  ((conv=>whnf);repeat' (first|((first|(show (_=true→_)∧(_=false→_);first|refine gT ?_|refine gF ?_)|(show (_=false→_)∧(_=true→_);first|refine gU ?_|refine gV ?_));conv=>whnf)|((first|(first|refine gD ?_ ?_|refine gE ?_ ?_|refine gI ?_ ?_|refine gJ ?_ ?_|refine gK ?_ ?_|refine gL ?_ ?_|refine splitB ?_ ?_|refine splitB2 ?_ ?_)<;>intro _h|intro _h);all_goals first|contradiction|conv=>whnf)|(show _∧_;refine gA ?_;conv=>whnf)|fail))
  refine acallI (k_keyBytes (modB 0) n n0 rr hk) rfl fun r hr => ?_
  subst hr
  have hkl := keyBytes_len (modB 0) n0 rr
  rw [hml] at hkl
  ((conv=>whnf);repeat' (first|((first|(show (_=true→_)∧(_=false→_);first|refine gT ?_|refine gF ?_)|(show (_=false→_)∧(_=true→_);first|refine gU ?_|refine gV ?_));conv=>whnf)|((first|(first|refine gD ?_ ?_|refine gE ?_ ?_|refine gI ?_ ?_|refine gJ ?_ ?_|refine gK ?_ ?_|refine gL ?_ ?_|refine splitB ?_ ?_|refine splitB2 ?_ ?_)<;>intro _h|intro _h);all_goals first|contradiction|conv=>whnf)|(show _∧_;refine gA ?_;conv=>whnf)|fail))
  refine acallI (k_size (modB 0) n n0 rr) rfl fun r hr => ?_
  subst hr
  ((conv=>whnf);repeat' (first|((first|(show (_=true→_)∧(_=false→_);first|refine gT ?_|refine gF ?_)|(show (_=false→_)∧(_=true→_);first|refine gU ?_|refine gV ?_));conv=>whnf)|((first|(first|refine gD ?_ ?_|refine gE ?_ ?_|refine gI ?_ ?_|refine gJ ?_ ?_|refine gK ?_ ?_|refine gL ?_ ?_|refine splitB ?_ ?_|refine splitB2 ?_ ?_)<;>intro _h|intro _h);all_goals first|contradiction|conv=>whnf)|(show _∧_;refine gA ?_;conv=>whnf)|fail))
  refine acallI (k_secret 0) rfl fun r hr => ?_
  subst hr
  ((conv=>whnf);repeat' (first|((first|(show (_=true→_)∧(_=false→_);first|refine gT ?_|refine gF ?_)|(show (_=false→_)∧(_=true→_);first|refine gU ?_|refine gV ?_));conv=>whnf)|((first|(first|refine gD ?_ ?_|refine gE ?_ ?_|refine gI ?_ ?_|refine gJ ?_ ?_|refine gK ?_ ?_|refine gL ?_ ?_|refine splitB ?_ ?_|refine splitB2 ?_ ?_)<;>intro _h|intro _h);all_goals first|contradiction|conv=>whnf)|(show _∧_;refine gA ?_;conv=>whnf)|fail))
  have hblk : (List.replicate (Int.toNat 64) (0 : Int)).set (Int.toNat 63) 2 = be 64 2 := by decide +kernel
  rw [hblk]
  refine acallI (k_close (modB 0) (secB 0) (be 64 2) (modB_wfd 0) (secB_wfd 0) (be_wfd _ _) (by rw [hml]; unfold LIM; omega)) rfl fun r hr => ?_
  rw [if_neg (by rw [modB_right0]; simp), anc_close] at hr
  subst hr
  ((conv=>whnf);repeat' (first|((first|(show (_=true→_)∧(_=false→_);first|refine gT ?_|refine gF ?_)|(show (_=false→_)∧(_=true→_);first|refine gU ?_|refine gV ?_));conv=>whnf)|((first|(first|refine gD ?_ ?_|refine gE ?_ ?_|refine gI ?_ ?_|refine gJ ?_ ?_|refine gK ?_ ?_|refine gL ?_ ?_|refine splitB ?_ ?_|refine splitB2 ?_ ?_)<;>intro _h|intro _h);all_goals first|contradiction|conv=>whnf)|(show _∧_;refine gA ?_;conv=>whnf)|fail))
  refine acallI (k_open hG (modB 0) n n0 rr hk (be 64 ancX) (be_wfd _ _)) rfl fun r hr => ?_
  rw [anc_open] at hr
  subst hr
  ((conv=>whnf);repeat' (first|((first|(show (_=true→_)∧(_=false→_);first|refine gT ?_|refine gF ?_)|(show (_=false→_)∧(_=true→_);first|refine gU ?_|refine gV ?_));conv=>whnf)|((first|(first|refine gD ?_ ?_|refine gE ?_ ?_|refine gI ?_ ?_|refine gJ ?_ ?_|refine gK ?_ ?_|refine gL ?_ ?_|refine splitB ?_ ?_|refine splitB2 ?_ ?_)<;>intro _h|intro _h);all_goals first|contradiction|conv=>whnf)|(show _∧_;refine gA ?_;conv=>whnf)|fail))
  exact Ends.imm rfl (by simp)

theorem wfd_known {xs : List Int} (h : (D.ints .u8 xs).known) : wfd xs := fun x hx => by
  have := h.2 x hx
  rw [wrap_in] at this
  simp [loK, hiK] at this
  omega

theorem ev_exp : ev [1, 0, 1] = 65537 := by decide

theorem l_keyOpens (hG : Globs.gl 0 = some EXP) (m sig : List Int) (hm : wfd m) (hs : wfd sig) (hml : m.length ≤ LIM) (hsl : sig.length ≤ LIM) :
    Imm Tryd.prog 3 [.d (byt m), .d (byt sig)] (fun r => r = bool true) := by
  (refine Imm.of_awp told0 [] Tryd.func3 rfl (by decide) (Nat.le_of_ble_eq_true rfl) ?_; intro _w0 _S0 _E0 _B0; ((conv=>whnf);repeat' (first|((first|(show (_=true→_)∧(_=false→_);first|refine nTt ?_|refine nFf ?_)|(show (_=false→_)∧(_=true→_);first|refine nU ?_|refine nV ?_));conv=>whnf)|((first|(first|refine gD ?_ ?_|refine gE ?_ ?_|refine gI ?_ ?_|refine gJ ?_ ?_|refine gK ?_ ?_|refine gL ?_ ?_|refine splitB ?_ ?_|refine splitB2 ?_ ?_)<;>intro _h|intro _h);all_goals first|contradiction|conv=>whnf)|(show _∧_;refine gA ?_;conv=>whnf)|fail)))
  refine acallI (k_anchor hG) rfl fun r hr => ?_
  subst hr
  ((conv=>whnf);repeat' (first|((first|(show (_=true→_)∧(_=false→_);first|refine gT ?_|refine gF ?_)|(show (_=false→_)∧(_=true→_);first|refine gU ?_|refine gV ?_));conv=>whnf)|((first|(first|refine gD ?_ ?_|refine gE ?_ ?_|refine gI ?_ ?_|refine gJ ?_ ?_|refine gK ?_ ?_|refine gL ?_ ?_|refine splitB ?_ ?_|refine splitB2 ?_ ?_)<;>intro _h|intro _h);all_goals first|contradiction|conv=>whnf)|(show _∧_;refine gA ?_;conv=>whnf)|fail))
  · exact Ends.imm rfl rfl
  · refine acallI (k_make m hm hml) rfl fun r hr => ?_
    by_cases hn : notMod m = 0
    · rw [if_neg (by simp [hn])] at hr
      obtain ⟨n, n0, rr, rfl, hk⟩ := hr
      obtain ⟨h1, h2, h3, hsz⟩ := hk.pos
      have hl4 := hk.len
      ((conv=>whnf);repeat' (first|((first|(show (_=true→_)∧(_=false→_);first|refine gT ?_|refine gF ?_)|(show (_=false→_)∧(_=true→_);first|refine gU ?_|refine gV ?_));conv=>whnf)|((first|(first|refine gD ?_ ?_|refine gE ?_ ?_|refine gI ?_ ?_|refine gJ ?_ ?_|refine gK ?_ ?_|refine gL ?_ ?_|refine splitB ?_ ?_|refine splitB2 ?_ ?_)<;>intro _h|intro _h);all_goals first|contradiction|conv=>whnf)|(show _∧_;refine gA ?_;conv=>whnf)|fail))
      refine acallI (k_open hG m n n0 rr hk sig hs) rfl fun r hr => ?_
      unfold powV at hr
      rw [ev_exp] at hr
      by_cases hle : sig.length ≠ m.length
      · rw [if_pos hle] at hr
        subst hr
        ((conv=>whnf);repeat' (first|((first|(show (_=true→_)∧(_=false→_);first|refine gT ?_|refine gF ?_)|(show (_=false→_)∧(_=true→_);first|refine gU ?_|refine gV ?_));conv=>whnf)|((first|(first|refine gD ?_ ?_|refine gE ?_ ?_|refine gI ?_ ?_|refine gJ ?_ ?_|refine gK ?_ ?_|refine gL ?_ ?_|refine splitB ?_ ?_|refine splitB2 ?_ ?_)<;>intro _h|intro _h);all_goals first|contradiction|conv=>whnf)|(show _∧_;refine gA ?_;conv=>whnf)|fail))
        refine acallI (k_refOpen m sig hm hs (by omega) (by omega) (by omega) (by omega)) rfl fun r hr => ?_
        rw [if_pos hle] at hr
        subst hr
        ((conv=>whnf);repeat' (first|((first|(show (_=true→_)∧(_=false→_);first|refine gT ?_|refine gF ?_)|(show (_=false→_)∧(_=true→_);first|refine gU ?_|refine gV ?_));conv=>whnf)|((first|(first|refine gD ?_ ?_|refine gE ?_ ?_|refine gI ?_ ?_|refine gJ ?_ ?_|refine gK ?_ ?_|refine gL ?_ ?_|refine splitB ?_ ?_|refine splitB2 ?_ ?_)<;>intro _h|intro _h);all_goals first|contradiction|conv=>whnf)|(show _∧_;refine gA ?_;conv=>whnf)|fail))
        exact Ends.imm rfl (by simp)
      · rw [if_neg hle] at hr
        by_cases hge : bn m ≤ bn sig
        · rw [if_pos hge] at hr
          subst hr
          ((conv=>whnf);repeat' (first|((first|(show (_=true→_)∧(_=false→_);first|refine gT ?_|refine gF ?_)|(show (_=false→_)∧(_=true→_);first|refine gU ?_|refine gV ?_));conv=>whnf)|((first|(first|refine gD ?_ ?_|refine gE ?_ ?_|refine gI ?_ ?_|refine gJ ?_ ?_|refine gK ?_ ?_|refine gL ?_ ?_|refine splitB ?_ ?_|refine splitB2 ?_ ?_)<;>intro _h|intro _h);all_goals first|contradiction|conv=>whnf)|(show _∧_;refine gA ?_;conv=>whnf)|fail))
          refine acallI (k_refOpen m sig hm hs (by omega) (by omega) (by omega) (by omega)) rfl fun r hr => ?_
          rw [if_neg hle, if_pos hge] at hr
          subst hr
          ((conv=>whnf);repeat' (first|((first|(show (_=true→_)∧(_=false→_);first|refine gT ?_|refine gF ?_)|(show (_=false→_)∧(_=true→_);first|refine gU ?_|refine gV ?_));conv=>whnf)|((first|(first|refine gD ?_ ?_|refine gE ?_ ?_|refine gI ?_ ?_|refine gJ ?_ ?_|refine gK ?_ ?_|refine gL ?_ ?_|refine splitB ?_ ?_|refine splitB2 ?_ ?_)<;>intro _h|intro _h);all_goals first|contradiction|conv=>whnf)|(show _∧_;refine gA ?_;conv=>whnf)|fail))
          exact Ends.imm rfl (by simp)
        · rw [if_neg hge, if_neg (by decide)] at hr
          subst hr
          ((conv=>whnf);repeat' (first|((first|(show (_=true→_)∧(_=false→_);first|refine gT ?_|refine gF ?_)|(show (_=false→_)∧(_=true→_);first|refine gU ?_|refine gV ?_));conv=>whnf)|((first|(first|refine gD ?_ ?_|refine gE ?_ ?_|refine gI ?_ ?_|refine gJ ?_ ?_|refine gK ?_ ?_|refine gL ?_ ?_|refine splitB ?_ ?_|refine splitB2 ?_ ?_)<;>intro _h|intro _h);all_goals first|contradiction|conv=>whnf)|(show _∧_;refine gA ?_;conv=>whnf)|fail))
          refine acallI (k_refOpen m sig hm hs (by omega) (by omega) (by omega) (by omega)) rfl fun r hr => ?_
          rw [if_neg hle, if_neg hge] at hr
          subst hr
          ((conv=>whnf);repeat' (first|((first|(show (_=true→_)∧(_=false→_);first|refine gT ?_|refine gF ?_)|(show (_=false→_)∧(_=true→_);first|refine gU ?_|refine gV ?_));conv=>whnf)|((first|(first|refine gD ?_ ?_|refine gE ?_ ?_|refine gI ?_ ?_|refine gJ ?_ ?_|refine gK ?_ ?_|refine gL ?_ ?_|refine splitB ?_ ?_|refine splitB2 ?_ ?_)<;>intro _h|intro _h);all_goals first|contradiction|conv=>whnf)|(show _∧_;refine gA ?_;conv=>whnf)|fail))
          exact Ends.imm rfl (by simp)
    · rw [if_pos (by simp [hn])] at hr
      subst hr
      ((conv=>whnf);repeat' (first|((first|(show (_=true→_)∧(_=false→_);first|refine gT ?_|refine gF ?_)|(show (_=false→_)∧(_=true→_);first|refine gU ?_|refine gV ?_));conv=>whnf)|((first|(first|refine gD ?_ ?_|refine gE ?_ ?_|refine gI ?_ ?_|refine gJ ?_ ?_|refine gK ?_ ?_|refine gL ?_ ?_|refine splitB ?_ ?_|refine splitB2 ?_ ?_)<;>intro _h|intro _h);all_goals first|contradiction|conv=>whnf)|(show _∧_;refine gA ?_;conv=>whnf)|fail))
      exact Ends.imm rfl (by simp)
  · exact Ends.imm rfl rfl

theorem be_mod_lt {m n : List Int} {n0 : Int} {rr : List Int} (h : Key m n n0 rr) : bn m < ((256 ^ m.length : Nat) : Int) := by
  have a2 := dval_lt h.wf.reverse
  rw [List.length_reverse] at a2
  have e : dpw m.length = ((256 ^ m.length : Nat) : Int) := by unfold dpw; push_cast; rfl
  rw [← e]
  exact a2

theorem bn_nonneg {m : List Int} (h : wfd m) : 0 ≤ bn m := dval_nonneg h.reverse

theorem bn_beI {n : Nat} {v : Int} (h0 : 0 ≤ v) (h : v < ((256 ^ n : Nat) : Int)) : bn (be n v.toNat) = v := by
  rw [bn_be (by omega)]
  omega

theorem int_pow_mod (x m : Int) : ∀ e : Nat, (x % m) ^ e % m = x ^ e % m
  | 0 => by simp
  | e + 1 => by rw [Int.pow_succ, Int.pow_succ, Int.mul_emod, int_pow_mod x m e, Int.emod_emod_of_dvd _ (Int.dvd_refl _), ← Int.mul_emod]

/-- The closure's product. -/
theorem k_times (m p q : List Int) (hm : wfd m) (hp : wfd p) (hq : wfd q) (hr : notMod m = 0) (hpl : p.length = m.length) (hql : q.length = m.length) (hpm : bn p < bn m) (hqm : bn q < bn m) :
    Imm Tryd.prog 23 [.d (byt p), .d (byt q), .d (.ptr (byt m)), .d (.ptr (.int .i64 (m.length / 4 : Nat)))] (fun r => r = .d (byt (be m.length (bn p * bn q % bn m).toNat))) := by
  have hs : sized m.length = true := by
    unfold notMod at hr
    cases hs : sized m.length with
    | true => rfl
    | false => rw [hs] at hr; simp at hr
  have ⟨h1, h2, h3⟩ := sized_spec.1 hs
  (refine Imm.of_awp told0 [] Tryd.func23 rfl (by decide) (Nat.le_of_ble_eq_true rfl) ?_; intro _w0 _S0 _E0 _B0; ((conv=>whnf);repeat' (first|((first|(show (_=true→_)∧(_=false→_);first|refine nTt ?_|refine nFf ?_)|(show (_=false→_)∧(_=true→_);first|refine nU ?_|refine nV ?_));conv=>whnf)|((first|(first|refine gD ?_ ?_|refine gE ?_ ?_|refine gI ?_ ?_|refine gJ ?_ ?_|refine gK ?_ ?_|refine gL ?_ ?_|refine splitB ?_ ?_|refine splitB2 ?_ ?_)<;>intro _h|intro _h);all_goals first|contradiction|conv=>whnf)|(show _∧_;refine gA ?_;conv=>whnf)|fail)))
  refine acallI (k_from m (m.length / 4) hm (by omega) (by omega)) rfl fun r hr => ?_
  obtain ⟨n, rfl, hnl, hnw, hnv⟩ := hr
  ((conv=>whnf);repeat' (first|((first|(show (_=true→_)∧(_=false→_);first|refine gT ?_|refine gF ?_)|(show (_=false→_)∧(_=true→_);first|refine gU ?_|refine gV ?_));conv=>whnf)|((first|(first|refine gD ?_ ?_|refine gE ?_ ?_|refine gI ?_ ?_|refine gJ ?_ ?_|refine gK ?_ ?_|refine gL ?_ ?_|refine splitB ?_ ?_|refine splitB2 ?_ ?_)<;>intro _h|intro _h);all_goals first|contradiction|conv=>whnf)|(show _∧_;refine gA ?_;conv=>whnf)|fail))
  have hodd : ¬ n.getD 0 0 % 2 = 0 := by
    rw [← val_odd, hnv]
    show ¬ bn m % 2 = 0
    rw [bn_odd m (by omega)]
    unfold notMod at hr
    rw [hs, if_neg (by simp)] at hr
    intro h
    rw [if_pos (.inr h)] at hr
    simp at hr
  have hbig : 1 < val n := by
    rw [hnv]
    show 1 < bn m
    have := bn_high m hm (by omega)
    have h128 : ¬ m.getD 0 0 < 128 := fun h => by
      unfold notMod at hr
      rw [hs, if_neg (by simp), if_pos (.inl h)] at hr
      simp at hr
    omega
  refine acallI (f11 n hnw) rfl fun r hr => ?_
  rw [if_neg (by omega), if_neg (by omega)] at hr
  obtain ⟨n0, rr, rfl, hR⟩ := hr
  ((conv=>whnf);repeat' (first|((first|(show (_=true→_)∧(_=false→_);first|refine gT ?_|refine gF ?_)|(show (_=false→_)∧(_=true→_);first|refine gU ?_|refine gV ?_));conv=>whnf)|((first|(first|refine gD ?_ ?_|refine gE ?_ ?_|refine gI ?_ ?_|refine gJ ?_ ?_|refine gK ?_ ?_|refine gL ?_ ?_|refine splitB ?_ ?_|refine splitB2 ?_ ?_)<;>intro _h|intro _h);all_goals first|contradiction|conv=>whnf)|(show _∧_;refine gA ?_;conv=>whnf)|fail))
  refine acallI (k_from p (m.length / 4) hp (by omega) (by omega)) rfl fun r hr => ?_
  obtain ⟨s, rfl, hsl, hsw, hsv⟩ := hr
  ((conv=>whnf);repeat' (first|((first|(show (_=true→_)∧(_=false→_);first|refine gT ?_|refine gF ?_)|(show (_=false→_)∧(_=true→_);first|refine gU ?_|refine gV ?_));conv=>whnf)|((first|(first|refine gD ?_ ?_|refine gE ?_ ?_|refine gI ?_ ?_|refine gJ ?_ ?_|refine gK ?_ ?_|refine gL ?_ ?_|refine splitB ?_ ?_|refine splitB2 ?_ ?_)<;>intro _h|intro _h);all_goals first|contradiction|conv=>whnf)|(show _∧_;refine gA ?_;conv=>whnf)|fail))
  refine acallI (k_from q (m.length / 4) hq (by omega) (by omega)) rfl fun r hr => ?_
  obtain ⟨t, rfl, htl, htw, htv⟩ := hr
  ((conv=>whnf);repeat' (first|((first|(show (_=true→_)∧(_=false→_);first|refine gT ?_|refine gF ?_)|(show (_=false→_)∧(_=true→_);first|refine gU ?_|refine gV ?_));conv=>whnf)|((first|(first|refine gD ?_ ?_|refine gE ?_ ?_|refine gI ?_ ?_|refine gJ ?_ ?_|refine gK ?_ ?_|refine gL ?_ ?_|refine splitB ?_ ?_|refine splitB2 ?_ ?_)<;>intro _h|intro _h);all_goals first|contradiction|conv=>whnf)|(show _∧_;refine gA ?_;conv=>whnf)|fail))
  have hmv : val n = bn m := hnv
  have hps : val s = bn p := hsv
  have hqt : val t = bn q := htv
  refine acallI (f22 n n0 rr s t hR hsw htw) rfl fun r hr => ?_
  have e1 : notEl n s = false := by
    unfold notEl
    rw [decide_eq_false (by omega), decide_eq_false (by omega)]; rfl
  have e2 : notEl n t = false := by
    unfold notEl
    rw [decide_eq_false (by omega), decide_eq_false (by omega)]; rfl
  rw [e1, e2, if_neg (by simp)] at hr
  obtain ⟨z, rfl, hzl, hzw, hzv⟩ := hr
  ((conv=>whnf);repeat' (first|((first|(show (_=true→_)∧(_=false→_);first|refine gT ?_|refine gF ?_)|(show (_=false→_)∧(_=true→_);first|refine gU ?_|refine gV ?_));conv=>whnf)|((first|(first|refine gD ?_ ?_|refine gE ?_ ?_|refine gI ?_ ?_|refine gJ ?_ ?_|refine gK ?_ ?_|refine gL ?_ ?_|refine splitB ?_ ?_|refine splitB2 ?_ ?_)<;>intro _h|intro _h);all_goals first|contradiction|conv=>whnf)|(show _∧_;refine gA ?_;conv=>whnf)|fail))
  rw [hmv, hps, hqt] at hzv
  refine acallI (k_bytes z m.length hzw ?_ (by omega) ?_) rfl fun r hr => ?_
  · unfold bad
    rw [hzl, decide_eq_false (by omega), decide_eq_false (by omega)]
    rfl
  · rw [hzv]
    have a1 := Int.emod_lt_of_pos (bn p * bn q) (show 0 < bn m by omega)
    have a2 := dval_lt hm.reverse
    rw [List.length_reverse] at a2
    have a3 : bn m < dpw m.length := a2
    omega
  · subst hr
    ((conv=>whnf);repeat' (first|((first|(show (_=true→_)∧(_=false→_);first|refine gT ?_|refine gF ?_)|(show (_=false→_)∧(_=true→_);first|refine gU ?_|refine gV ?_));conv=>whnf)|((first|(first|refine gD ?_ ?_|refine gE ?_ ?_|refine gI ?_ ?_|refine gJ ?_ ?_|refine gK ?_ ?_|refine gL ?_ ?_|refine splitB ?_ ?_|refine splitB2 ?_ ?_)<;>intro _h|intro _h);all_goals first|contradiction|conv=>whnf)|(show _∧_;refine gA ?_;conv=>whnf)|fail))
    exact Ends.imm rfl (by rw [hzv])

theorem powV_cases (m block exp : List Int) : (∃ e : Int, e ≠ 0 ∧ powV m block exp = .tup [.nls (byt []), i64 e]) ∨ block.length = m.length ∧ bn block < bn m ∧ exp.length ≤ 1024 ∧ powV m block exp = .tup [.d (byt (be m.length (bn block ^ ev exp % bn m).toNat)), i64 0] := by
  unfold powV
  by_cases h1 : block.length ≠ m.length
  · rw [if_pos h1]; exact .inl ⟨24, by decide, rfl⟩
  · rw [if_neg h1]
    by_cases h2 : bn m ≤ bn block
    · rw [if_pos h2]; exact .inl ⟨13, by decide, rfl⟩
    · rw [if_neg h2]
      by_cases h3 : 1024 < exp.length
      · rw [if_pos h3]; exact .inl ⟨11, by decide, rfl⟩
      · rw [if_neg h3]; exact .inr ⟨by omega, by omega, by omega, rfl⟩

theorem be_len {n v : Nat} : (be n v).length = n := be_length n v

def toldKP : AW.Told := ⟨fun _ => false, fun r i => if r == 14 && i == 0 then [7, 14] else [], fun r => if r == 16 then .take 0 (.take 1 (.take 2 (.take 3 (.take 5 (.take 6 (.take 7 (.two 4 (.one 8 (.take 9 (.take 10 (.take 11 (.take 12 .done))))) 8 (.take 4 (.take 9 (.take 10 (.take 11 (.take 12 .done)))))))))))) else .done⟩

theorem idx_small {which : Int} (h : 0 ≤ which ∧ which ≤ 2) : (idx which = 0 ∧ which = 0) ∨ (idx which = 1 ∧ which = 1) ∨ (idx which = 2 ∧ which = 2) := by
  have : which = 0 ∨ which = 1 ∨ which = 2 := by omega
  rcases this with rfl | rfl | rfl
  · exact .inl ⟨rfl, rfl⟩
  · exact .inr (.inl ⟨rfl, rfl⟩)
  · exact .inr (.inr ⟨rfl, rfl⟩)
theorem modB_right (k : Nat) (hk : k ≤ 3) : notMod (modB k) = 0 := by
  have : k = 0 ∨ k = 1 ∨ k = 2 ∨ k = 3 := by omega
  rcases this with rfl | rfl | rfl | rfl <;> decide +kernel
theorem idx_le (k : Int) : idx k ≤ 3 := by
  unfold idx
  repeat' split
  all_goals omega
theorem keyL_le (k : Nat) : 64 ≤ keyL k ∧ keyL k ≤ 256 := by
  unfold keyL
  split <;> omega

theorem l_keyProducts (hG : Globs.gl 0 = some EXP) (which : Int) (a b : List Int) (ha : wfd a) (hb : wfd b) :
    Imm Tryd.prog 5 [i64 which, .d (byt a), .d (byt b)] (fun r => r = bool true) := by
  (refine Imm.of_awp toldKP [] Tryd.func5 rfl (by decide) (Nat.le_of_ble_eq_true rfl) ?_; intro _w0 _S0 _E0 _B0; ((conv=>whnf);repeat' (first|((first|(show (_=true→_)∧(_=false→_);first|refine nTt ?_|refine nFf ?_)|(show (_=false→_)∧(_=true→_);first|refine nU ?_|refine nV ?_));conv=>whnf)|((first|(first|refine gD ?_ ?_|refine gE ?_ ?_|refine gI ?_ ?_|refine gJ ?_ ?_|refine gK ?_ ?_|refine gL ?_ ?_|refine splitB ?_ ?_|refine splitB2 ?_ ?_)<;>intro _h|intro _h);all_goals first|contradiction|conv=>whnf)|(show _∧_;refine gA ?_;conv=>whnf)|fail)))
  refine acallI (k_anchor hG) rfl fun r hr => ?_
  subst hr
  ((conv=>whnf);repeat' (first|((first|(show (_=true→_)∧(_=false→_);first|refine gT ?_|refine gF ?_)|(show (_=false→_)∧(_=true→_);first|refine gU ?_|refine gV ?_));conv=>whnf)|((first|(first|refine gD ?_ ?_|refine gE ?_ ?_|refine gI ?_ ?_|refine gJ ?_ ?_|refine gK ?_ ?_|refine gL ?_ ?_|refine splitB ?_ ?_|refine splitB2 ?_ ?_)<;>intro _h|intro _h);all_goals first|contradiction|conv=>whnf)|(show _∧_;refine gA ?_;conv=>whnf)|fail))
  all_goals first | exact Ends.imm rfl rfl | skip
  have hm := modB_wfd (idx which)
  have hlm : (modB (idx which)).length = keyL (idx which) := modB_len _
  have hkl := keyL_le (idx which)
  have hri := modB_right (idx which) (idx_le which)
  refine acallI (k_modulus which) rfl fun r hr => ?_
  subst hr
  generalize modB (idx which) = m at *
  ((conv=>whnf);repeat' (first|((first|(show (_=true→_)∧(_=false→_);first|refine gT ?_|refine gF ?_)|(show (_=false→_)∧(_=true→_);first|refine gU ?_|refine gV ?_));conv=>whnf)|((first|(first|refine gD ?_ ?_|refine gE ?_ ?_|refine gI ?_ ?_|refine gJ ?_ ?_|refine gK ?_ ?_|refine gL ?_ ?_|refine splitB ?_ ?_|refine splitB2 ?_ ?_)<;>intro _h|intro _h);all_goals first|contradiction|conv=>whnf)|(show _∧_;refine gA ?_;conv=>whnf)|fail))
  refine acallI (k_make m hm (by unfold LIM; omega)) rfl fun r hr => ?_
  rw [if_neg (by simp [hri])] at hr
  obtain ⟨n, n0, rr, rfl, hk⟩ := hr
  ((conv=>whnf);repeat' (first|((first|(show (_=true→_)∧(_=false→_);first|refine gT ?_|refine gF ?_)|(show (_=false→_)∧(_=true→_);first|refine gU ?_|refine gV ?_));conv=>whnf)|((first|(first|refine gD ?_ ?_|refine gE ?_ ?_|refine gI ?_ ?_|refine gJ ?_ ?_|refine gK ?_ ?_|refine gL ?_ ?_|refine splitB ?_ ?_|refine splitB2 ?_ ?_)<;>intro _h|intro _h);all_goals first|contradiction|conv=>whnf)|(show _∧_;refine gA ?_;conv=>whnf)|fail))
  refine acallI (k_open hG m n n0 rr hk a ha) rfl fun r hr => ?_
  obtain ⟨hp1, hp2, hp3, hsz⟩ := hk.pos
  have hlt := be_mod_lt hk
  have ml : ∀ v : Int, 0 ≤ v % bn m ∧ v % bn m < bn m := fun v => ⟨Int.emod_nonneg _ (by omega), Int.emod_lt_of_pos _ (by omega)⟩
  rcases powV_cases m a [1, 0, 1] with ⟨e, he, h⟩ | ⟨hal, ham, _, h⟩
  · rw [h] at hr
    subst hr
    ((conv=>whnf);repeat' (first|((first|(show (_=true→_)∧(_=false→_);first|refine gT ?_|refine gF ?_)|(show (_=false→_)∧(_=true→_);first|refine gU ?_|refine gV ?_));conv=>whnf)|((first|(first|refine gD ?_ ?_|refine gE ?_ ?_|refine gI ?_ ?_|refine gJ ?_ ?_|refine gK ?_ ?_|refine gL ?_ ?_|refine splitB ?_ ?_|refine splitB2 ?_ ?_)<;>intro _h|intro _h);all_goals first|contradiction|conv=>whnf)|(show _∧_;refine gA ?_;conv=>whnf)|fail))
    refine acallI (k_open hG m n n0 rr hk b hb) rfl fun r hr => ?_
    rcases powV_form m b [1, 0, 1] with ⟨e', h'⟩ | ⟨zs, h'⟩ <;> rw [h'] at hr <;> subst hr
    · ((conv=>whnf);repeat' (first|((first|(show (_=true→_)∧(_=false→_);first|refine gT ?_|refine gF ?_)|(show (_=false→_)∧(_=true→_);first|refine gU ?_|refine gV ?_));conv=>whnf)|((first|(first|refine gD ?_ ?_|refine gE ?_ ?_|refine gI ?_ ?_|refine gJ ?_ ?_|refine gK ?_ ?_|refine gL ?_ ?_|refine splitB ?_ ?_|refine splitB2 ?_ ?_)<;>intro _h|intro _h);all_goals first|contradiction|conv=>whnf)|(show _∧_;refine gA ?_;conv=>whnf)|fail))
      exact Ends.imm rfl rfl
    · ((conv=>whnf);repeat' (first|((first|(show (_=true→_)∧(_=false→_);first|refine gT ?_|refine gF ?_)|(show (_=false→_)∧(_=true→_);first|refine gU ?_|refine gV ?_));conv=>whnf)|((first|(first|refine gD ?_ ?_|refine gE ?_ ?_|refine gI ?_ ?_|refine gJ ?_ ?_|refine gK ?_ ?_|refine gL ?_ ?_|refine splitB ?_ ?_|refine splitB2 ?_ ?_)<;>intro _h|intro _h);all_goals first|contradiction|conv=>whnf)|(show _∧_;refine gA ?_;conv=>whnf)|fail))
      exact Ends.imm rfl rfl
  · rw [h] at hr
    subst hr
    ((conv=>whnf);repeat' (first|((first|(show (_=true→_)∧(_=false→_);first|refine gT ?_|refine gF ?_)|(show (_=false→_)∧(_=true→_);first|refine gU ?_|refine gV ?_));conv=>whnf)|((first|(first|refine gD ?_ ?_|refine gE ?_ ?_|refine gI ?_ ?_|refine gJ ?_ ?_|refine gK ?_ ?_|refine gL ?_ ?_|refine splitB ?_ ?_|refine splitB2 ?_ ?_)<;>intro _h|intro _h);all_goals first|contradiction|conv=>whnf)|(show _∧_;refine gA ?_;conv=>whnf)|fail))
    refine acallI (k_open hG m n n0 rr hk b hb) rfl fun r hr => ?_
    rcases powV_cases m b [1, 0, 1] with ⟨e', he', h'⟩ | ⟨hbl, hbm, _, h'⟩
    · rw [h'] at hr
      subst hr
      ((conv=>whnf);repeat' (first|((first|(show (_=true→_)∧(_=false→_);first|refine gT ?_|refine gF ?_)|(show (_=false→_)∧(_=true→_);first|refine gU ?_|refine gV ?_));conv=>whnf)|((first|(first|refine gD ?_ ?_|refine gE ?_ ?_|refine gI ?_ ?_|refine gJ ?_ ?_|refine gK ?_ ?_|refine gL ?_ ?_|refine splitB ?_ ?_|refine splitB2 ?_ ?_)<;>intro _h|intro _h);all_goals first|contradiction|conv=>whnf)|(show _∧_;refine gA ?_;conv=>whnf)|fail))
      exact Ends.imm rfl rfl
    · rw [h'] at hr
      subst hr
      have e4 : IntKind.i64.wrap ((m.length : Int).tdiv 4) = (m.length / 4 : Nat) := by rw [Int.tdiv_eq_ediv_of_nonneg (by omega), wrap_i64 (by omega) (by omega)]; omega
      ((conv=>whnf);repeat' (first|((first|(show (_=true→_)∧(_=false→_);first|refine gT ?_|refine gF ?_)|(show (_=false→_)∧(_=true→_);first|refine gU ?_|refine gV ?_));conv=>whnf)|((first|(first|refine gD ?_ ?_|refine gE ?_ ?_|refine gI ?_ ?_|refine gJ ?_ ?_|refine gK ?_ ?_|refine gL ?_ ?_|refine splitB ?_ ?_|refine splitB2 ?_ ?_)<;>intro _h|intro _h);all_goals first|contradiction|conv=>whnf)|(show _∧_;refine gA ?_;conv=>whnf)|fail))
      rw [e4]
      refine acallI (k_times m a b hm ha hb hri hal hbl ham hbm) rfl fun r hr => ?_
      subst hr
      ((conv=>whnf);repeat' (first|((first|(show (_=true→_)∧(_=false→_);first|refine gT ?_|refine gF ?_)|(show (_=false→_)∧(_=true→_);first|refine gU ?_|refine gV ?_));conv=>whnf)|((first|(first|refine gD ?_ ?_|refine gE ?_ ?_|refine gI ?_ ?_|refine gJ ?_ ?_|refine gK ?_ ?_|refine gL ?_ ?_|refine splitB ?_ ?_|refine splitB2 ?_ ?_)<;>intro _h|intro _h);all_goals first|contradiction|conv=>whnf)|(show _∧_;refine gA ?_;conv=>whnf)|fail))
      refine acallI (k_open hG m n n0 rr hk (be m.length (bn a * bn b % bn m).toNat) (be_wfd _ _)) rfl fun r hr => ?_
      have e5 : bn (be m.length (bn a * bn b % bn m).toNat) = bn a * bn b % bn m := bn_beI (ml _).1 (by have := (ml (bn a * bn b)).2; omega)
      rcases powV_cases m (be m.length (bn a * bn b % bn m).toNat) [1, 0, 1] with ⟨e, he, h3⟩ | ⟨_, _, _, h3⟩
      · exfalso
        unfold powV at h3
        rw [if_neg (by rw [be_length]; simp), e5, if_neg (by have := (ml (bn a * bn b)).2; omega), if_neg (by decide)] at h3
        injection h3 with h3
        injection h3 with h3 h4
        exact absurd h3 (by simp)
      · rw [h3, e5] at hr
        subst hr
        ((conv=>whnf);repeat' (first|((first|(show (_=true→_)∧(_=false→_);first|refine gT ?_|refine gF ?_)|(show (_=false→_)∧(_=true→_);first|refine gU ?_|refine gV ?_));conv=>whnf)|((first|(first|refine gD ?_ ?_|refine gE ?_ ?_|refine gI ?_ ?_|refine gJ ?_ ?_|refine gK ?_ ?_|refine gL ?_ ?_|refine splitB ?_ ?_|refine splitB2 ?_ ?_)<;>intro _h|intro _h);all_goals first|contradiction|conv=>whnf)|(show _∧_;refine gA ?_;conv=>whnf)|fail))
        have e6 : ∀ c : List Int, bn (be m.length (bn c ^ ev [1, 0, 1] % bn m).toNat) = bn c ^ ev [1, 0, 1] % bn m := fun c => bn_beI (ml _).1 (by have := (ml (bn c ^ ev [1, 0, 1])).2; omega)
        refine And.intro ?_ ?_
        all_goals ((conv=>whnf);repeat' (first|((first|(show (_=true→_)∧(_=false→_);first|refine gT ?_|refine gF ?_)|(show (_=false→_)∧(_=true→_);first|refine gU ?_|refine gV ?_));conv=>whnf)|((first|(first|refine gD ?_ ?_|refine gE ?_ ?_|refine gI ?_ ?_|refine gJ ?_ ?_|refine gK ?_ ?_|refine gL ?_ ?_|refine splitB ?_ ?_|refine splitB2 ?_ ?_)<;>intro _h|intro _h);all_goals first|contradiction|conv=>whnf)|(show _∧_;refine gA ?_;conv=>whnf)|fail))
        all_goals
          refine acallI (k_times m _ _ hm (be_wfd m.length (bn a ^ ev [1, 0, 1] % bn m).toNat) (be_wfd m.length (bn b ^ ev [1, 0, 1] % bn m).toNat) hri (be_length _ _) (be_length _ _) (by rw [e6]; exact (ml _).2) (by rw [e6]; exact (ml _).2)) rfl fun r hr => ?_
          rw [e6, e6] at hr
          subst hr
          ((conv=>whnf);repeat' (first|((first|(show (_=true→_)∧(_=false→_);first|refine gT ?_|refine gF ?_)|(show (_=false→_)∧(_=true→_);first|refine gU ?_|refine gV ?_));conv=>whnf)|((first|(first|refine gD ?_ ?_|refine gE ?_ ?_|refine gI ?_ ?_|refine gJ ?_ ?_|refine gK ?_ ?_|refine gL ?_ ?_|refine splitB ?_ ?_|refine splitB2 ?_ ?_)<;>intro _h|intro _h);all_goals first|contradiction|conv=>whnf)|(show _∧_;refine gA ?_;conv=>whnf)|fail))
          refine Ends.imm rfl ?_
          have e7 : (bn a * bn b % bn m) ^ ev [1, 0, 1] % bn m = (bn a ^ ev [1, 0, 1] % bn m) * (bn b ^ ev [1, 0, 1] % bn m) % bn m := by
            rw [← Int.mul_emod, ← Int.mul_pow, int_pow_mod]
          simp [e7]

theorem db {p q : Prop} [Decidable p] [Decidable q] (h : p ↔ q) : AVal.d (.bool (decide p)) = bool (decide q) := by
  rw [decide_eq_decide.2 h]

/-- Does a stretch lie within so many bytes? -/
def inside (o l t : Int) : Bool := decide (0 ≤ o ∧ 0 ≤ l ∧ 0 ≤ t ∧ o ≤ t ∧ l ≤ t - o)

theorem k_within (o l t : Int) (ht : t ≤ LIM) : Imm Tryd.prog 96 [i64 o, i64 l, i64 t] (fun r => r = bool (inside o l t)) := by
  unfold LIM at ht
  (refine Imm.of_awp told0 [] Tryd.func96 rfl (by decide) (Nat.le_of_ble_eq_true rfl) ?_; intro _w0 _S0 _E0 _B0; ((conv=>whnf);repeat' (first|((first|(show (_=true→_)∧(_=false→_);first|refine nTt ?_|refine nFf ?_)|(show (_=false→_)∧(_=true→_);first|refine nU ?_|refine nV ?_));conv=>whnf)|((first|(first|refine gD ?_ ?_|refine gE ?_ ?_|refine gI ?_ ?_|refine gJ ?_ ?_|refine gK ?_ ?_|refine gL ?_ ?_|refine splitB ?_ ?_|refine splitB2 ?_ ?_)<;>intro _h|intro _h);all_goals first|contradiction|conv=>whnf)|(show _∧_;refine gA ?_;conv=>whnf)|fail)))
  all_goals refine Ends.imm rfl ?_
  all_goals unfold inside
  all_goals first
    | (rw [decide_eq_false (by omega)]; done)
    | (rw [decide_eq_true (by omega)]; done)
    | exact db (by rw [wrap_i64 (by omega) (by omega)]; omega)

theorem k_equal (a b : List Int) : Imm Tryd.prog 63 [.d (byt a), .d (byt b)] (fun r => r = bool (decide (a = b))) := by
  (refine Imm.of_awp told0 [] Tryd.func63 rfl (by decide) (Nat.le_of_ble_eq_true rfl) ?_; intro _w0 _S0 _E0 _B0; ((conv=>whnf);repeat' (first|((first|(show (_=true→_)∧(_=false→_);first|refine nTt ?_|refine nFf ?_)|(show (_=false→_)∧(_=true→_);first|refine nU ?_|refine nV ?_));conv=>whnf)|((first|(first|refine gD ?_ ?_|refine gE ?_ ?_|refine gI ?_ ?_|refine gJ ?_ ?_|refine gK ?_ ?_|refine gL ?_ ?_|refine splitB ?_ ?_|refine splitB2 ?_ ?_)<;>intro _h|intro _h);all_goals first|contradiction|conv=>whnf)|(show _∧_;refine gA ?_;conv=>whnf)|fail)))
  refine Ends.imm rfl ?_
  exact db Iff.rfl

theorem bn_snoc (xs : List Int) (x : Int) : bn (xs ++ [x]) = bn xs * 256 + x := by
  unfold bn
  rw [List.reverse_append, List.reverse_singleton, List.singleton_append]
  simp only [dval]
  omega
theorem bn_nil : bn [] = 0 := rfl
theorem bn_lt {xs : List Int} (h : wfd xs) : bn xs < ((256 ^ xs.length : Nat) : Int) := by
  have a2 := dval_lt h.reverse
  rw [List.length_reverse] at a2
  have e : dpw xs.length = ((256 ^ xs.length : Nat) : Int) := by unfold dpw; push_cast; rfl
  rw [← e]
  exact a2

theorem wrap_u64 {n : Int} (h0 : 0 ≤ n) (h1 : n < 18446744073709551616) : IntKind.u64.wrap n = n := wrap_in.2 ⟨by simp only [loK]; omega, by simp only [hiK]; omega⟩

theorem or_u64 (x c : Int) (hx : 0 ≤ x) (hx2 : x < 72057594037927936) (hc : 0 ≤ c) (hc2 : c < 256) :
    bitsK .or .u64 (IntKind.u64.wrap (x * 2 ^ (min (8 : Int).toNat (IntKind.bits .u64)))) (IntKind.u64.wrap c) = x * 256 + c := by
  obtain ⟨a, rfl⟩ : ∃ a : Nat, x = a := ⟨x.toNat, by omega⟩
  obtain ⟨d, rfl⟩ : ∃ a : Nat, c = a := ⟨c.toNat, by omega⟩
  have e0 : (a : Int) * 2 ^ (min (8 : Int).toNat (IntKind.bits .u64)) = ((a * 256 : Nat) : Int) := by
    rw [show min (8 : Int).toNat (IntKind.bits .u64) = 8 from rfl]; push_cast; rfl
  rw [e0, wrap_u64 (by omega) (by omega), wrap_u64 (by omega) (by omega)]
  have e4 : a * 256 ||| d = a * 256 + d := by
    have := Nat.shiftLeft_add_eq_or_of_lt (show d < 2 ^ 8 by omega) a
    rw [Nat.shiftLeft_eq] at this
    exact this.symm
  have e6 : (BitVec.ofInt 64 ((a * 256 : Nat) : Int) ||| BitVec.ofInt 64 (d : Int)).toNat = a * 256 ||| d := by
    simp only [BitVec.ofInt_natCast, BitVec.toNat_or, BitVec.toNat_ofNat]
    rw [Nat.mod_eq_of_lt (by omega), Nat.mod_eq_of_lt (by omega)]
  show IntKind.u64.wrap ((BitVec.ofInt 64 ((a * 256 : Nat) : Int) ||| BitVec.ofInt 64 (d : Int)).toNat : Int) = _
  rw [e6, e4, wrap_u64 (by omega) (by omega)]
  push_cast
  rfl

/-- So many bytes from a place on. -/
def cutB (b : List Int) (off len : Nat) : List Int := (b.take (off + len)).drop off
theorem cutB_len {b : List Int} {off len : Nat} (h : off + len ≤ b.length) : (cutB b off len).length = len := by simp [cutB]; omega
theorem wfd.cut {b : List Int} (h : wfd b) (off len : Nat) : wfd (cutB b off len) := (h.take _).drop _

/-- What Get answers. -/
def getV (b : List Int) (off size : Nat) : Int × Int :=
  if inside off size b.length = false then (0, 10)
  else if 9223372036854775808 ≤ bn (cutB b off size) then (0, 11) else (bn (cutB b off size), 0)

theorem k_get (b : List Int) (off size : Nat) (hb : wfd b) (hl : b.length ≤ LIM) (ho : off ≤ LIM) (hs : 1 ≤ size ∧ size ≤ 8) :
    Imm Tryd.prog 62 [.d (byt b), i64 off, i64 size] (fun r => r = .tup [i64 (getV b off size).1, i64 (getV b off size).2]) := by
  unfold LIM at hl ho
  (refine Imm.of_awp told0 [] Tryd.func62 rfl (by decide) (Nat.le_of_ble_eq_true rfl) ?_; intro _w0 _S0 _E0 _B0; ((conv=>whnf);repeat' (first|((first|(show (_=true→_)∧(_=false→_);first|refine gT ?_|refine gF ?_)|(show (_=false→_)∧(_=true→_);first|refine gU ?_|refine gV ?_));conv=>whnf)|((first|(first|refine gD ?_ ?_|refine gE ?_ ?_|refine gI ?_ ?_|refine gJ ?_ ?_|refine gK ?_ ?_|refine gL ?_ ?_|refine splitB ?_ ?_|refine splitB2 ?_ ?_)<;>intro _h|intro _h);all_goals first|contradiction|conv=>whnf)|(show _∧_;refine gA ?_;conv=>whnf)|fail)))
  refine acallI (k_within off size b.length (by unfold LIM; omega)) rfl fun r hr => ?_
  subst hr
  cases hin : inside off size b.length with
  | false =>
    ((conv=>whnf);repeat' (first|((first|(show (_=true→_)∧(_=false→_);first|refine gT ?_|refine gF ?_)|(show (_=false→_)∧(_=true→_);first|refine gU ?_|refine gV ?_));conv=>whnf)|((first|(first|refine gD ?_ ?_|refine gE ?_ ?_|refine gI ?_ ?_|refine gJ ?_ ?_|refine gK ?_ ?_|refine gL ?_ ?_|refine splitB ?_ ?_|refine splitB2 ?_ ?_)<;>intro _h|intro _h);all_goals first|contradiction|conv=>whnf)|(show _∧_;refine gA ?_;conv=>whnf)|fail))
    exact Ends.imm rfl (by unfold getV; rw [if_pos hin])
  | true =>
    have hin2 : off + size ≤ b.length := by
      have := of_decide_eq_true hin
      omega
    have e1 : IntKind.i64.wrap ((off : Int) + size) = ((off + size : Nat) : Int) := by rw [wrap_i64 (by omega) (by omega)]; omega
    ((conv=>whnf);repeat' (first|((first|(show (_=true→_)∧(_=false→_);first|refine gT ?_|refine gF ?_)|(show (_=false→_)∧(_=true→_);first|refine gU ?_|refine gV ?_));conv=>whnf)|((first|(first|refine gD ?_ ?_|refine gE ?_ ?_|refine gI ?_ ?_|refine gJ ?_ ?_|refine gK ?_ ?_|refine gL ?_ ?_|refine splitB ?_ ?_|refine splitB2 ?_ ?_)<;>intro _h|intro _h);all_goals first|contradiction|conv=>whnf)|(show _∧_;refine gA ?_;conv=>whnf)|fail))
    obtain ⟨ys, hys⟩ : ∃ ys, ys = cutB b off size := ⟨_, rfl⟩
    have hyl : ys.length = size := by rw [hys]; exact cutB_len hin2
    have hyw : wfd ys := by rw [hys]; exact hb.cut _ _
    refine aloop (T := told0) (ι := Nat) (fun k => [(8, .d (.int .u64 (bn (ys.take k)))), (30, .d (byt ys)), (31, i64 ys.length), (32, i64 k)]) (fun _ => []) 47 0
      (fun k => size - k) (fun k => k ≤ size)
      ⟨0, [], rfl, by omega, by
        (refine ⟨rfl, rfl, ?_, ?_⟩ <;> repeat' (first | exact True.intro | rfl | decide | (refine And.intro ?_ ?_)))
        · show AVal.d (.ints .u8 _) = AVal.d (.ints .u8 ys)
          rw [e1, hys]; rfl
        · show AVal.d (.int .i64 _) = AVal.d (.int .i64 ys.length)
          rw [e1, hys]; rfl⟩ ?_
    intro k hk
    have hlt : bn (ys.take k) < ((256 ^ k : Nat) : Int) := by
      have := bn_lt (hyw.take k)
      rwa [List.length_take, Nat.min_eq_left (by omega)] at this
    have hnn := bn_nonneg (hyw.take k)
    rcases Nat.lt_or_ge k size with hks | hks
    · have hp : 256 ^ k ≤ 256 ^ 7 := Nat.pow_le_pow_right (by omega) (by omega)
      have hg := hyw.get k
      have est : bn (ys.take (k + 1)) = bn (ys.take k) * 256 + ys.getD k 0 := by rw [take_snoc (by omega), bn_snoc]
      ((conv=>whnf);repeat' (first|((first|(show (_=true→_)∧(_=false→_);first|refine gT ?_|refine gF ?_)|(show (_=false→_)∧(_=true→_);first|refine gU ?_|refine gV ?_));conv=>whnf)|((first|(first|refine gD ?_ ?_|refine gE ?_ ?_|refine gI ?_ ?_|refine gJ ?_ ?_|refine gK ?_ ?_|refine gL ?_ ?_|refine splitB ?_ ?_|refine splitB2 ?_ ?_)<;>intro _h|intro _h);all_goals first|contradiction|conv=>whnf)|(show _∧_;refine gA ?_;conv=>whnf)|fail))
      refine ⟨k + 1, [], by omega, by omega, rfl, ?_⟩
      (refine ⟨rfl, rfl, ?_, ?_⟩ <;> repeat' (first | exact True.intro | rfl | decide | (refine And.intro ?_ ?_)))
      · show AVal.d (.int .u64 _) = AVal.d (.int .u64 _)
        rw [est, or_u64 _ _ hnn (by omega) (by rw [Int.toNat_natCast]; exact hg.1) (by rw [Int.toNat_natCast]; omega), Int.toNat_natCast]
      · exact di (by rw [wrap_i64 (by omega) (by omega)]; rfl)
    · have hk' : k = size := by omega
      have hall : ys.take k = ys := List.take_of_length_le (by omega)
      rw [hall] at hlt hnn ⊢
      have hp : 256 ^ k ≤ 256 ^ 8 := Nat.pow_le_pow_right (by omega) (by omega)
      have e63 : min (Int.toNat 63) IntKind.u64.bits = 63 := rfl
      ((conv=>whnf);repeat' (first|((first|(show (_=true→_)∧(_=false→_);first|refine gT ?_|refine gF ?_)|(show (_=false→_)∧(_=true→_);first|refine gU ?_|refine gV ?_));conv=>whnf)|((first|(first|refine gD ?_ ?_|refine gE ?_ ?_|refine gI ?_ ?_|refine gJ ?_ ?_|refine gK ?_ ?_|refine gL ?_ ?_|refine splitB ?_ ?_|refine splitB2 ?_ ?_)<;>intro _h|intro _h);all_goals first|contradiction|conv=>whnf)|(show _∧_;refine gA ?_;conv=>whnf)|fail))
      · refine Ends.imm rfl ?_
        rw [e63] at _h
        unfold getV
        rw [← hys, if_neg (by rw [hin]; simp), if_pos (by omega)]
      · refine Ends.imm rfl ?_
        rw [e63] at _h
        unfold getV
        rw [← hys, if_neg (by rw [hin]; simp), if_neg (by omega), wrap_i64 (by omega) (by omega)]

theorem u8w (n : Nat) : IntKind.u8.wrap (n : Int) = ((n % 256 : Nat) : Int) := by
  simp [IntKind.wrap, IntKind.bits, IntKind.signed]

theorem be4 (n : Nat) : be 4 n = [((n / 16777216 % 256 : Nat) : Int), ((n / 65536 % 256 : Nat) : Int), ((n / 256 % 256 : Nat) : Int), ((n % 256 : Nat) : Int)] := by
  simp [be, List.range_succ]

theorem k_four (n : Nat) : Imm Tryd.prog 68 [i64 n] (fun r => r = .d (byt (be 4 n))) := by
  (refine Imm.of_awp told0 [2] Tryd.func68 rfl (by decide) (Nat.le_of_ble_eq_true rfl) ?_; intro _w0 _S0 _E0 _B0; ((conv=>whnf);repeat' (first|((first|(show (_=true→_)∧(_=false→_);first|refine nTt ?_|refine nFf ?_)|(show (_=false→_)∧(_=true→_);first|refine nU ?_|refine nV ?_));conv=>whnf)|((first|(first|refine gD ?_ ?_|refine gE ?_ ?_|refine gI ?_ ?_|refine gJ ?_ ?_|refine gK ?_ ?_|refine gL ?_ ?_|refine splitB ?_ ?_|refine splitB2 ?_ ?_)<;>intro _h|intro _h);all_goals first|contradiction|conv=>whnf)|(show _∧_;refine gA ?_;conv=>whnf)|fail)))
  refine Ends.imm rfl ?_
  rw [be4]
  have e : ∀ k : Nat, k ≤ 64 → (n : Int) / 2 ^ min (Int.toNat (k : Int)) IntKind.i64.bits = ((n / 2 ^ k : Nat) : Int) := fun k hk => by
    rw [Int.toNat_natCast, Nat.min_eq_left (by simp [IntKind.bits]; omega)]
    push_cast
    rfl
  have e24 := e 24 (by omega)
  have e16 := e 16 (by omega)
  have e8 := e 8 (by omega)
  show AVal.d (.ints .u8 [IntKind.u8.wrap ((n : Int) / 2 ^ min (Int.toNat (24 : Int)) IntKind.i64.bits), IntKind.u8.wrap ((n : Int) / 2 ^ min (Int.toNat (16 : Int)) IntKind.i64.bits), IntKind.u8.wrap ((n : Int) / 2 ^ min (Int.toNat (8 : Int)) IntKind.i64.bits), IntKind.u8.wrap (n : Int)]) = _
  rw [show (24 : Int) = ((24 : Nat) : Int) from rfl, show (16 : Int) = ((16 : Nat) : Int) from rfl, show (8 : Int) = ((8 : Nat) : Int) from rfl, e24, e16, e8, u8w, u8w, u8w, u8w]

theorem notMod_21 {m : List Int} (h : ¬ (64 ≤ m.length ∧ m.length ≤ 512 ∧ m.length % 64 = 0)) : notMod m = 21 := by
  unfold notMod
  rw [if_pos]
  cases hs : sized m.length with
  | false => rfl
  | true => exact (h (sized_spec.1 hs)).elim
theorem notMod_22 {m : List Int} (h : 64 ≤ m.length ∧ m.length ≤ 512 ∧ m.length % 64 = 0) (h2 : m.getD 0 0 < 128 ∨ m.getD (m.length - 1) 0 % 2 = 0) : notMod m = 22 := by
  unfold notMod
  rw [sized_spec.2 h, if_neg (by simp), if_pos h2]
theorem notMod_0 {m : List Int} (h : 64 ≤ m.length ∧ m.length ≤ 512 ∧ m.length % 64 = 0) (h2 : ¬ (m.getD 0 0 < 128 ∨ m.getD (m.length - 1) 0 % 2 = 0)) : notMod m = 0 := by
  unfold notMod
  rw [sized_spec.2 h, if_neg (by simp), if_neg h2]
theorem of_notMod {m : List Int} (h : notMod m = 0) : (64 ≤ m.length ∧ m.length ≤ 512 ∧ m.length % 64 = 0) ∧ ¬ m.getD 0 0 < 128 ∧ ¬ m.getD (m.length - 1) 0 % 2 = 0 := by
  unfold notMod at h
  cases hs : sized m.length with
  | false => rw [hs] at h; simp at h
  | true =>
    refine ⟨sized_spec.1 hs, ?_⟩
    rw [hs, if_neg (by simp)] at h
    split at h
    · omega
    · rename_i h2
      exact ⟨fun h => h2 (.inl h), fun h => h2 (.inr h)⟩

theorem k_right (m : List Int) (hm : wfd m) (hl : m.length ≤ LIM) : Imm Tryd.prog 32 [.d (byt m)] (fun r => r = i64 (notMod m)) := by
  unfold LIM at hl
  have g1 := hm.get 0
  have g2 := hm.get (m.length - 1)
  have e3 : (m.getD (m.length - 1) 0).tmod 2 = m.getD (m.length - 1) 0 % 2 := Int.tmod_eq_emod_of_nonneg g2.1
  have e0 : (m.length : Int).tmod 64 = m.length % 64 := Int.tmod_eq_emod_of_nonneg (by omega)
  have e1 : 64 ≤ m.length → IntKind.i64.wrap ((m.length : Int) - 1) = (m.length - 1 : Nat) := fun h => by rw [wrap_i64 (by omega) (by omega)]; omega
  (refine Imm.of_awp told0 [] Tryd.func32 rfl (by decide) (Nat.le_of_ble_eq_true rfl) ?_; intro _w0 _S0 _E0 _B0; ((conv=>whnf);repeat' (first|((first|(show (_=true→_)∧(_=false→_);first|refine nTt ?_|refine nFf ?_)|(show (_=false→_)∧(_=true→_);first|refine nU ?_|refine nV ?_));conv=>whnf)|((first|(first|refine gD ?_ ?_|refine gE ?_ ?_|refine gI ?_ ?_|refine gJ ?_ ?_|refine gK ?_ ?_|refine gL ?_ ?_|refine splitB ?_ ?_|refine splitB2 ?_ ?_)<;>intro _h|intro _h);all_goals first|contradiction|conv=>whnf)|(show _∧_;refine gA ?_;conv=>whnf)|fail)))
  all_goals refine Ends.imm rfl ?_
  all_goals try rw [e1 (by omega), Int.toNat_natCast, e3] at _h
  all_goals first
    | (rw [notMod_21 (by omega)]; done)
    | (rw [notMod_22 (by omega) (.inl (by assumption))]; done)
    | (rw [notMod_22 (by omega) (.inr (by assumption))]; done)
    | (rw [notMod_0 (by omega) (fun h => h.elim (by assumption) (by assumption))]; done)

/-- -1 through an odd number, bit by bit. -/
def n0rec (low : Nat) : Nat → Nat
  | 0 => 0
  | k + 1 => if (n0rec low k * low + 1) / 2 ^ k % 2 = 1 then n0rec low k + 2 ^ k else n0rec low k

theorem n0rec_lt (low : Nat) : ∀ k, n0rec low k < 2 ^ k
  | 0 => by simp [n0rec]
  | k + 1 => by
    have := n0rec_lt low k
    simp only [n0rec]
    rw [Nat.pow_succ]
    split <;> omega

theorem n0rec_inv (low : Nat) (hl : low % 2 = 1) : ∀ k, (n0rec low k * low + 1) % 2 ^ k = 0
  | 0 => by simp [Nat.mod_one]
  | k + 1 => by
    have ih := n0rec_inv low hl k
    simp only [n0rec]
    obtain ⟨q, hq⟩ := Nat.dvd_of_mod_eq_zero ih
    have hp : 0 < 2 ^ k := Nat.two_pow_pos k
    have hd : (n0rec low k * low + 1) / 2 ^ k = q := by rw [hq, Nat.mul_div_cancel_left _ hp]
    rw [hd, Nat.pow_succ]
    split
    · rename_i h
      have e : (n0rec low k + 2 ^ k) * low + 1 = 2 ^ k * (q + low) := by
        rw [Nat.add_mul, Nat.mul_add, ← hq]; omega
      rw [e, Nat.mul_mod_mul_left]
      have : (q + low) % 2 = 0 := by omega
      rw [this, Nat.mul_zero]
    · rename_i h
      rw [hq, Nat.mul_mod_mul_left]
      have : q % 2 = 0 := by omega
      rw [this, Nat.mul_zero]

/-- The lowest limb of bytes. -/
def lowL (m : List Int) : Nat := (bn (m.drop (m.length - 4))).toNat

theorem k_refN0 (m : List Int) (hm : wfd m) (hl : 4 ≤ m.length ∧ m.length ≤ 100000) : Imm Tryd.prog 69 [.d (byt m)] (fun r => r = i64 (n0rec (lowL m) 32)) := by
  have e0 : IntKind.i64.wrap ((m.length : Int) - 4) = (m.length - 4 : Nat) := by rw [wrap_i64 (by omega) (by omega)]; omega
  have hdw : wfd (m.drop (m.length - 4)) := hm.drop _
  have hdl : (m.drop (m.length - 4)).length = 4 := by simp; omega
  have hlow := bn_lt hdw
  have hlow0 := bn_nonneg hdw
  rw [hdl] at hlow
  (refine Imm.of_awp told0 [] Tryd.func69 rfl (by decide) (Nat.le_of_ble_eq_true rfl) ?_; intro _w0 _S0 _E0 _B0; ((conv=>whnf);repeat' (first|((first|(show (_=true→_)∧(_=false→_);first|refine nTt ?_|refine nFf ?_)|(show (_=false→_)∧(_=true→_);first|refine nU ?_|refine nV ?_));conv=>whnf)|((first|(first|refine gD ?_ ?_|refine gE ?_ ?_|refine gI ?_ ?_|refine gJ ?_ ?_|refine gK ?_ ?_|refine gL ?_ ?_|refine splitB ?_ ?_|refine splitB2 ?_ ?_)<;>intro _h|intro _h);all_goals first|contradiction|conv=>whnf)|(show _∧_;refine gA ?_;conv=>whnf)|fail)))
  refine aloop (T := told0) (ι := Nat) (fun j => [(0, .d (byt m)), (3, i64 (bn ((m.drop (m.length - 4)).take j))), (4, i64 ((m.length - 4 + j : Nat) : Int))]) (fun _ => []) 41 0
    (fun j => 4 - j) (fun j => j ≤ 4)
    ⟨0, [], rfl, by omega, by (refine ⟨rfl, rfl, ?_, ?_⟩ <;> repeat' (first | exact True.intro | rfl | decide | (refine And.intro ?_ ?_))); exact di e0⟩ ?_
  intro j hj
  have hlt : bn ((m.drop (m.length - 4)).take j) < ((256 ^ j : Nat) : Int) := by
    have := bn_lt (hdw.take j)
    rwa [List.length_take, Nat.min_eq_left (by omega)] at this
  have hnn := bn_nonneg (hdw.take j)
  have hp : 256 ^ j ≤ 256 ^ 4 := Nat.pow_le_pow_right (by omega) (by omega)
  rcases Nat.lt_or_ge j 4 with h4 | h4
  · have est : bn ((m.drop (m.length - 4)).take (j + 1)) = bn ((m.drop (m.length - 4)).take j) * 256 + m.getD (m.length - 4 + j) 0 := by
      rw [take_snoc (by omega), bn_snoc]
      congr 1
      rw [List.getD_eq_getElem?_getD, List.getElem?_drop, ← List.getD_eq_getElem?_getD]
    have hg := hm.get (m.length - 4 + j)
    ((conv=>whnf);repeat' (first|((first|(show (_=true→_)∧(_=false→_);first|refine gT ?_|refine gF ?_)|(show (_=false→_)∧(_=true→_);first|refine gU ?_|refine gV ?_));conv=>whnf)|((first|(first|refine gD ?_ ?_|refine gE ?_ ?_|refine gI ?_ ?_|refine gJ ?_ ?_|refine gK ?_ ?_|refine gL ?_ ?_|refine splitB ?_ ?_|refine splitB2 ?_ ?_)<;>intro _h|intro _h);all_goals first|contradiction|conv=>whnf)|(show _∧_;refine gA ?_;conv=>whnf)|fail))
    refine ⟨j + 1, [], by omega, by omega, rfl, ?_⟩
    (refine ⟨rfl, rfl, ?_, ?_⟩ <;> repeat' (first | exact True.intro | rfl | decide | (refine And.intro ?_ ?_)))
    · refine di ?_
      rw [est, Int.toNat_natCast, wrap_i64 (n := _ * 256) (by omega) (by omega), wrap_i64 (n := m.getD (m.length - 4 + j) 0) (by omega) (by omega), wrap_i64 (by omega) (by omega)]
    · exact di (by rw [wrap_i64 (by omega) (by omega)]; omega)
  · have hj4 : j = 4 := by omega
    have hall : (m.drop (m.length - 4)).take j = m.drop (m.length - 4) := List.take_of_length_le (by omega)
    rw [hall] at hlt hnn ⊢
    have hlowL : bn (m.drop (m.length - 4)) = (lowL m : Nat) := by unfold lowL; omega
    rw [hlowL] at hlt hnn hlow ⊢
    clear hlowL hall hp
    have hlt4 : lowL m < 4294967296 := by have h : ((lowL m : Nat) : Int) < 4294967296 := hlow; omega
    clear hlow hlt
    generalize lowL m = low at *
    have hex : ¬ ((m.length - 4 + j : Nat) : Int) < m.length := by omega
    ((conv=>whnf);repeat' (first|((first|(show (_=true→_)∧(_=false→_);first|refine nTt ?_|refine nFf ?_)|(show (_=false→_)∧(_=true→_);first|refine nU ?_|refine nV ?_));conv=>whnf)|((first|(first|refine gD ?_ ?_|refine gE ?_ ?_|refine gI ?_ ?_|refine gJ ?_ ?_|refine gK ?_ ?_|refine gL ?_ ?_|refine splitB ?_ ?_|refine splitB2 ?_ ?_)<;>intro _h|intro _h);all_goals first|contradiction|conv=>whnf)|(show _∧_;refine gA ?_;conv=>whnf)|fail))
    refine aloop (T := told0) (ι := Nat) (fun k => [(3, i64 low), (5, i64 (n0rec low k : Nat)), (6, i64 k)]) (fun _ => []) 41 0
      (fun k => 32 - k) (fun k => k ≤ 32)
      ⟨0, [], rfl, by omega, by (refine ⟨rfl, rfl, ?_, ?_⟩ <;> repeat' (first | exact True.intro | rfl | decide | (refine And.intro ?_ ?_)))⟩ ?_
    intro k hk
    have hn := n0rec_lt low k
    rcases Nat.lt_or_ge k 32 with h32 | h32
    · have hp31 : 2 ^ k ≤ 2 ^ 31 := Nat.pow_le_pow_right (by omega) (by omega)
      have a1 : n0rec low k ≤ 2147483647 := by omega
      have a2 : low ≤ 4294967295 := by omega
      have hprod : n0rec low k * low ≤ 9223372030412324865 := Nat.mul_le_mul a1 a2
      have w1 : IntKind.i64.wrap ((n0rec low k : Int) * low) = ((n0rec low k * low : Nat) : Int) := by
        rw [← Int.natCast_mul]
        exact wrap_i64 (by omega) (by omega)
      have w2 : IntKind.i64.wrap (((n0rec low k * low : Nat) : Int) + 1) = ((n0rec low k * low + 1 : Nat) : Int) := by rw [wrap_i64 (by omega) (by omega)]; omega
      have w3 : ((n0rec low k * low + 1 : Nat) : Int) / 2 ^ min (Int.toNat (k : Int)) IntKind.i64.bits = (((n0rec low k * low + 1) / 2 ^ k : Nat) : Int) := by
        rw [Int.toNat_natCast, Nat.min_eq_left (by simp [IntKind.bits]; omega)]
        push_cast
        rfl
      have w4 : (((n0rec low k * low + 1) / 2 ^ k : Nat) : Int).tmod 2 = (((n0rec low k * low + 1) / 2 ^ k % 2 : Nat) : Int) := by
        generalize (n0rec low k * low + 1) / 2 ^ k = q
        rw [Int.tmod_eq_emod_of_nonneg (by omega)]; omega
      have w5 : IntKind.i64.wrap ((1 : Int) * 2 ^ min (Int.toNat (k : Int)) IntKind.i64.bits) = ((2 ^ k : Nat) : Int) := by
        rw [Int.toNat_natCast, Nat.min_eq_left (by simp [IntKind.bits]; omega), Int.one_mul]
        have : (2 : Int) ^ k = ((2 ^ k : Nat) : Int) := by push_cast; rfl
        rw [this, wrap_i64 (by omega) (by omega)]
      ((conv=>whnf);repeat' (first|((first|(show (_=true→_)∧(_=false→_);first|refine gT ?_|refine gF ?_)|(show (_=false→_)∧(_=true→_);first|refine gU ?_|refine gV ?_));conv=>whnf)|((first|(first|refine gD ?_ ?_|refine gE ?_ ?_|refine gI ?_ ?_|refine gJ ?_ ?_|refine gK ?_ ?_|refine gL ?_ ?_|refine splitB ?_ ?_|refine splitB2 ?_ ?_)<;>intro _h|intro _h);all_goals first|contradiction|conv=>whnf)|(show _∧_;refine gA ?_;conv=>whnf)|fail))
      · rw [w1, w2, w3, w4] at _h
        refine ⟨k + 1, [], by omega, by omega, rfl, ?_⟩
        (refine ⟨rfl, rfl, ?_, ?_⟩ <;> repeat' (first | exact True.intro | rfl | decide | (refine And.intro ?_ ?_)))
        · refine di ?_
          rw [w5, wrap_i64 (by omega) (by omega)]
          simp only [n0rec]
          rw [if_pos (by omega)]
          omega
        · exact di (by rw [wrap_i64 (by omega) (by omega)]; rfl)
      · rw [w1, w2, w3, w4] at _h
        refine ⟨k + 1, [], by omega, by omega, rfl, ?_⟩
        (refine ⟨rfl, rfl, ?_, ?_⟩ <;> repeat' (first | exact True.intro | rfl | decide | (refine And.intro ?_ ?_)))
        · refine di ?_
          simp only [n0rec]
          rw [if_neg (by omega)]
        · exact di (by rw [wrap_i64 (by omega) (by omega)]; rfl)
    · have : k = 32 := by omega
      subst this
      ((conv=>whnf);repeat' (first|((first|(show (_=true→_)∧(_=false→_);first|refine gT ?_|refine gF ?_)|(show (_=false→_)∧(_=true→_);first|refine gU ?_|refine gV ?_));conv=>whnf)|((first|(first|refine gD ?_ ?_|refine gE ?_ ?_|refine gI ?_ ?_|refine gJ ?_ ?_|refine gK ?_ ?_|refine gL ?_ ?_|refine splitB ?_ ?_|refine splitB2 ?_ ?_)<;>intro _h|intro _h);all_goals first|contradiction|conv=>whnf)|(show _∧_;refine gA ?_;conv=>whnf)|fail))
      exact Ends.imm rfl rfl

/-- A right modulus' key's bytes. -/
def keyC (m : List Int) : List Int := be 4 (8 * m.length) ++ be 4 (n0rec (lowL m) 32) ++ m ++ be m.length (2 ^ (16 * m.length) % (bn m).toNat)

theorem keyC_len (m : List Int) : (keyC m).length = 8 + 2 * m.length := by
  simp [keyC, be_length]; omega
theorem keyC_wfd {m : List Int} (hm : wfd m) : wfd (keyC m) := (((be_wfd _ _).append (be_wfd _ _)).append hm).append (be_wfd _ _)

theorem bn_append (xs ys : List Int) : bn (xs ++ ys) = bn xs * ((256 ^ ys.length : Nat) : Int) + bn ys := by
  unfold bn
  rw [List.reverse_append, dval_append, List.length_reverse]
  have e : dpw ys.length = ((256 ^ ys.length : Nat) : Int) := by unfold dpw; push_cast; rfl
  rw [e]
  grind

theorem lowL_eq {m : List Int} (hm : wfd m) (hl : 4 ≤ m.length) : ((lowL m : Nat) : Int) = bn m % 4294967296 := by
  have h1 := bn_append (m.take (m.length - 4)) (m.drop (m.length - 4))
  rw [List.take_append_drop] at h1
  have hdl : (m.drop (m.length - 4)).length = 4 := by simp; omega
  have h2 := bn_lt (hm.drop (m.length - 4))
  have h3 := bn_nonneg (hm.drop (m.length - 4))
  rw [hdl] at h1 h2
  unfold lowL
  have e : ((256 ^ 4 : Nat) : Int) = 4294967296 := rfl
  rw [e] at h1 h2
  omega

theorem inv_uniq {P low u v : Nat} (hc : Nat.Coprime P low) (hu : u < P) (hv : v < P) (h1 : (u * low + 1) % P = 0) (h2 : (low * v + 1) % P = 0) : v = u := by
  obtain ⟨c, hc1⟩ := Nat.dvd_of_mod_eq_zero h1
  obtain ⟨d, hd1⟩ := Nat.dvd_of_mod_eq_zero h2
  have a : (P : Int) ∣ (low : Int) * ((v : Int) - u) := by
    have e1 : ((u * low + 1 : Nat) : Int) = ((P * c : Nat) : Int) := by rw [hc1]
    have e2 : ((low * v + 1 : Nat) : Int) = ((P * d : Nat) : Int) := by rw [hd1]
    simp only [Int.natCast_add, Int.natCast_mul] at e1 e2
    exact ⟨d - c, by grind⟩
  have b : P ∣ low * ((v : Int) - u).natAbs := by
    have := Int.ofNat_dvd_left.1 a
    rwa [Int.natAbs_mul, Int.natAbs_natCast] at this
  have e := hc.dvd_of_dvd_mul_left b
  rcases Nat.eq_zero_or_pos ((v : Int) - u).natAbs with h | h
  · omega
  · have := Nat.le_of_dvd h e
    omega
theorem cop_two {low : Nat} (h : low % 2 = 1) (k : Nat) : Nat.Coprime (2 ^ k) low := by
  refine Nat.Coprime.pow_left k ?_
  show Nat.gcd 2 low = 1
  rw [Nat.gcd_rec, h]; rfl

theorem key_eq {m n : List Int} {n0 : Int} {rr : List Int} (h : Key m n n0 rr) : keyBytes m n0 rr = keyC m := by
  have hl := h.len
  obtain ⟨h1, h2, h3, hs⟩ := h.pos
  have hr := h.ring
  have hmr := of_notMod h.right
  have elow : n.getD 0 0 = (lowL m : Nat) := by
    rw [lowL_eq h.wf (by omega), ← h.val]
    have := val_step n
    have hg := hr.hn.get 0
    omega
  have hodd : lowL m % 2 = 1 := by
    have := bn_odd m (by omega)
    have h4 := lowL_eq h.wf (by omega)
    omega
  have i1 := n0rec_inv (lowL m) hodd 32
  have i2 := n0rec_lt (lowL m) 32
  have i3 := hr.hinv
  have i4 := hr.hn0
  obtain ⟨v, hv⟩ : ∃ v : Nat, n0 = v := ⟨n0.toNat, by omega⟩
  have ev : v = n0rec (lowL m) 32 := by
    rw [elow, hv] at i3
    rw [hv] at i4
    have e32 : (2 : Nat) ^ 32 = 4294967296 := by decide
    have c := cop_two hodd 32
    rw [e32] at c i1 i2
    refine inv_uniq c i2 (by omega) i1 ?_
    have i5 : ((lowL m * v + 1 : Nat) : Int) % ((4294967296 : Nat) : Int) = 0 := by
      rw [Int.natCast_add, Int.natCast_mul]
      exact i3
    exact Int.ofNat.inj ((Int.natCast_emod _ _).trans i5)
  have er : (val rr).toNat = 2 ^ (16 * m.length) % (bn m).toNat := by
    obtain ⟨Q, hQ⟩ := hr.hrr
    have b1 := val_nonneg hr.hr
    have b2 := hr.hrv
    rw [h.val] at hQ b2
    have b3 : pw n.length * pw n.length = ((2 ^ (16 * m.length) : Nat) : Int) := by
      rw [← pw_add, pw_two, hl]
      push_cast
      congr 1
      omega
    rw [b3] at hQ
    obtain ⟨M, hM⟩ : ∃ M : Nat, bn m = M := ⟨(bn m).toNat, by omega⟩
    obtain ⟨V, hV⟩ : ∃ V : Nat, val rr = V := ⟨(val rr).toNat, by omega⟩
    rw [hM, hV] at hQ b2
    rw [hM, hV]
    have b4 : (((2 ^ (16 * m.length) : Nat) : Int)) % (M : Int) = V := by
      rw [hQ, Int.add_mul_emod_self_right, Int.emod_eq_of_lt (by omega) b2]
    have b5 : ((2 ^ (16 * m.length) % M : Nat) : Int) = (V : Int) := by rw [Int.natCast_emod]; exact b4
    show V = 2 ^ (16 * m.length) % M
    omega
  unfold keyBytes keyC
  rw [er, hv, Int.toNat_natCast, ev]
  simp

theorem k_fourO (n : Nat) : CSpec Tryd.prog 68 [i64 n] [] 0 (fun st nx r => st = [(0, .row .u8 5 (be 4 n))] ∧ nx = 1 ∧ r = .own 0) := by
  refine CSpec.ends (CSpec.of_awp told0 [] Tryd.func68 rfl (by decide) (Nat.le_of_ble_eq_true rfl) fun _w0 _S0 _E0 _B0 => ?_)
  ((conv=>whnf);repeat' (first|((first|(show (_=true→_)∧(_=false→_);first|refine nTt ?_|refine nFf ?_)|(show (_=false→_)∧(_=true→_);first|refine nU ?_|refine nV ?_));conv=>whnf)|((first|(first|refine gD ?_ ?_|refine gE ?_ ?_|refine gI ?_ ?_|refine gJ ?_ ?_|refine gK ?_ ?_|refine gL ?_ ?_|refine splitB ?_ ?_|refine splitB2 ?_ ?_)<;>intro _h|intro _h);all_goals first|contradiction|conv=>whnf)|(show _∧_;refine gA ?_;conv=>whnf)|fail))
  rw [be4]
  have e : ∀ k : Nat, k ≤ 64 → (n : Int) / 2 ^ min (Int.toNat (k : Int)) IntKind.i64.bits = ((n / 2 ^ k : Nat) : Int) := fun k hk => by
    rw [Int.toNat_natCast, Nat.min_eq_left (by simp [IntKind.bits]; omega)]
    push_cast
    rfl
  have e24 := e 24 (by omega)
  have e16 := e 16 (by omega)
  have e8 := e 8 (by omega)
  refine ⟨[0], [(0, .row .u8 5 [((n / 16777216 % 256 : Nat) : Int), ((n / 65536 % 256 : Nat) : Int), ((n / 256 % 256 : Nat) : Int), ((n % 256 : Nat) : Int)])], .own 0, ⟨rfl, ⟨⟨by decide, ?_⟩, trivial⟩, rfl⟩, rfl, rfl, rfl⟩
  show some (Ob.row .u8 _ [IntKind.u8.wrap ((n : Int) / 2 ^ min (Int.toNat (24 : Int)) IntKind.i64.bits), IntKind.u8.wrap ((n : Int) / 2 ^ min (Int.toNat (16 : Int)) IntKind.i64.bits), IntKind.u8.wrap ((n : Int) / 2 ^ min (Int.toNat (8 : Int)) IntKind.i64.bits), IntKind.u8.wrap (n : Int)]) = _
  rw [show (24 : Int) = ((24 : Nat) : Int) from rfl, show (16 : Int) = ((16 : Nat) : Int) from rfl, show (8 : Int) = ((8 : Nat) : Int) from rfl, e24, e16, e8, u8w, u8w, u8w, u8w]
  rfl

theorem k_refBytes (m : List Int) (hm : wfd m) (hl : 4 ≤ m.length ∧ m.length ≤ 600) (h0 : 0 < bn m) : Imm Tryd.prog 33 [.d (byt m)] (fun r => r = .d (byt (keyC m))) := by
  have e8 : IntKind.i64.wrap (8 * (m.length : Int)) = ((8 * m.length : Nat) : Int) := by rw [wrap_i64 (by omega) (by omega)]; omega
  have e16 : IntKind.i64.wrap (16 * (m.length : Int)) = ((16 * m.length : Nat) : Int) := by rw [wrap_i64 (by omega) (by omega)]; omega
  (refine Imm.of_awp told0 [2] Tryd.func33 rfl (by decide) (Nat.le_of_ble_eq_true rfl) ?_; intro _w0 _S0 _E0 _B0; ((conv=>whnf);repeat' (first|((first|(show (_=true→_)∧(_=false→_);first|refine nTt ?_|refine nFf ?_)|(show (_=false→_)∧(_=true→_);first|refine nU ?_|refine nV ?_));conv=>whnf)|((first|(first|refine gD ?_ ?_|refine gE ?_ ?_|refine gI ?_ ?_|refine gJ ?_ ?_|refine gK ?_ ?_|refine gL ?_ ?_|refine splitB ?_ ?_|refine splitB2 ?_ ?_)<;>intro _h|intro _h);all_goals first|contradiction|conv=>whnf)|(show _∧_;refine gA ?_;conv=>whnf)|fail)))
  rw [e8]
  refine acall [] (k_fourO (8 * m.length)) rfl (by simp [stIn]) rfl (fun _ => rfl) ?_
  rintro st nx r ⟨rfl, rfl, rfl⟩
  ((conv=>whnf);repeat' (first|((first|(show (_=true→_)∧(_=false→_);first|refine gT ?_|refine gF ?_)|(show (_=false→_)∧(_=true→_);first|refine gU ?_|refine gV ?_));conv=>whnf)|((first|(first|refine gD ?_ ?_|refine gE ?_ ?_|refine gI ?_ ?_|refine gJ ?_ ?_|refine gK ?_ ?_|refine gL ?_ ?_|refine splitB ?_ ?_|refine splitB2 ?_ ?_)<;>intro _h|intro _h);all_goals first|contradiction|conv=>whnf)|(show _∧_;refine gA ?_;conv=>whnf)|fail))
  refine acallI (k_refN0 m hm (by omega)) rfl fun r hr => ?_
  subst hr
  ((conv=>whnf);repeat' (first|((first|(show (_=true→_)∧(_=false→_);first|refine gT ?_|refine gF ?_)|(show (_=false→_)∧(_=true→_);first|refine gU ?_|refine gV ?_));conv=>whnf)|((first|(first|refine gD ?_ ?_|refine gE ?_ ?_|refine gI ?_ ?_|refine gJ ?_ ?_|refine gK ?_ ?_|refine gL ?_ ?_|refine splitB ?_ ?_|refine splitB2 ?_ ?_)<;>intro _h|intro _h);all_goals first|contradiction|conv=>whnf)|(show _∧_;refine gA ?_;conv=>whnf)|fail))
  refine acall [] (k_fourO (n0rec (lowL m) 32)) rfl (by simp [stIn]) rfl (fun _ => rfl) ?_
  rintro st nx r ⟨rfl, rfl, rfl⟩
  ((conv=>whnf);repeat' (first|((first|(show (_=true→_)∧(_=false→_);first|refine gT ?_|refine gF ?_)|(show (_=false→_)∧(_=true→_);first|refine gU ?_|refine gV ?_));conv=>whnf)|((first|(first|refine gD ?_ ?_|refine gE ?_ ?_|refine gI ?_ ?_|refine gJ ?_ ?_|refine gK ?_ ?_|refine gL ?_ ?_|refine splitB ?_ ?_|refine splitB2 ?_ ?_)<;>intro _h|intro _h);all_goals first|contradiction|conv=>whnf)|(show _∧_;refine gA ?_;conv=>whnf)|fail))
  have hl8 : (be 4 (8 * m.length) ++ be 4 (n0rec (lowL m) 32)).length = 8 := by simp [be_length]
  refine ⟨by rw [hl8]; show (8 + m.length) * 1 ≤ 140737488355328; omega, ?_⟩
  ((conv=>whnf);repeat' (first|((first|(show (_=true→_)∧(_=false→_);first|refine gT ?_|refine gF ?_)|(show (_=false→_)∧(_=true→_);first|refine gU ?_|refine gV ?_));conv=>whnf)|((first|(first|refine gD ?_ ?_|refine gE ?_ ?_|refine gI ?_ ?_|refine gJ ?_ ?_|refine gK ?_ ?_|refine gL ?_ ?_|refine splitB ?_ ?_|refine splitB2 ?_ ?_)<;>intro _h|intro _h);all_goals first|contradiction|conv=>whnf)|(show _∧_;refine gA ?_;conv=>whnf)|fail))
  rw [e16]
  refine acallI (f17 (16 * m.length) (by omega)) rfl fun r hr => ?_
  obtain ⟨ps, rfl, hpl, hpw, hpv⟩ := hr
  ((conv=>whnf);repeat' (first|((first|(show (_=true→_)∧(_=false→_);first|refine gT ?_|refine gF ?_)|(show (_=false→_)∧(_=true→_);first|refine gU ?_|refine gV ?_));conv=>whnf)|((first|(first|refine gD ?_ ?_|refine gE ?_ ?_|refine gI ?_ ?_|refine gJ ?_ ?_|refine gK ?_ ?_|refine gL ?_ ?_|refine splitB ?_ ?_|refine splitB2 ?_ ?_)<;>intro _h|intro _h);all_goals first|contradiction|conv=>whnf)|(show _∧_;refine gA ?_;conv=>whnf)|fail))
  refine acallI (k_low m hm (by omega)) rfl fun r hr => ?_
  obtain ⟨ms, rfl, hml, hmw, hmt, hmv⟩ := hr
  ((conv=>whnf);repeat' (first|((first|(show (_=true→_)∧(_=false→_);first|refine gT ?_|refine gF ?_)|(show (_=false→_)∧(_=true→_);first|refine gU ?_|refine gV ?_));conv=>whnf)|((first|(first|refine gD ?_ ?_|refine gE ?_ ?_|refine gI ?_ ?_|refine gJ ?_ ?_|refine gK ?_ ?_|refine gL ?_ ?_|refine splitB ?_ ?_|refine splitB2 ?_ ?_)<;>intro _h|intro _h);all_goals first|contradiction|conv=>whnf)|(show _∧_;refine gA ?_;conv=>whnf)|fail))
  refine acallI (f16 ps ms hpw hmw (by rw [hmv]; exact h0) (by omega)) rfl fun r hr => ?_
  obtain ⟨us, rfl, hul, huw, hut, huv⟩ := hr
  ((conv=>whnf);repeat' (first|((first|(show (_=true→_)∧(_=false→_);first|refine gT ?_|refine gF ?_)|(show (_=false→_)∧(_=true→_);first|refine gU ?_|refine gV ?_));conv=>whnf)|((first|(first|refine gD ?_ ?_|refine gE ?_ ?_|refine gI ?_ ?_|refine gJ ?_ ?_|refine gK ?_ ?_|refine gL ?_ ?_|refine splitB ?_ ?_|refine splitB2 ?_ ?_)<;>intro _h|intro _h);all_goals first|contradiction|conv=>whnf)|(show _∧_;refine gA ?_;conv=>whnf)|fail))
  have hmv' : dval ms = bn m := hmv
  have hub : dval us < dpw m.length := by
    rw [huv]
    have a1 := Int.emod_lt_of_pos (dval ps) (show 0 < dval ms by omega)
    have a2 := dval_lt hm.reverse
    rw [List.length_reverse] at a2
    have a3 : bn m < dpw m.length := a2
    omega
  refine acallI (k_high us m.length huw (by omega) (trim_len huw hut hub)) rfl fun r hr => ?_
  obtain ⟨vs, rfl, hvl, hvw, hvv⟩ := hr
  ((conv=>whnf);repeat' (first|((first|(show (_=true→_)∧(_=false→_);first|refine gT ?_|refine gF ?_)|(show (_=false→_)∧(_=true→_);first|refine gU ?_|refine gV ?_));conv=>whnf)|((first|(first|refine gD ?_ ?_|refine gE ?_ ?_|refine gI ?_ ?_|refine gJ ?_ ?_|refine gK ?_ ?_|refine gL ?_ ?_|refine splitB ?_ ?_|refine splitB2 ?_ ?_)<;>intro _h|intro _h);all_goals first|contradiction|conv=>whnf)|(show _∧_;refine gA ?_;conv=>whnf)|fail))
  have hl9 : (be 4 (8 * m.length) ++ be 4 (n0rec (lowL m) 32) ++ m).length = 8 + m.length := by rw [List.length_append, hl8]
  refine ⟨by rw [hl9, hvl]; show (8 + m.length + m.length) * 1 ≤ 140737488355328; omega, ?_⟩
  ((conv=>whnf);repeat' (first|((first|(show (_=true→_)∧(_=false→_);first|refine gT ?_|refine gF ?_)|(show (_=false→_)∧(_=true→_);first|refine gU ?_|refine gV ?_));conv=>whnf)|((first|(first|refine gD ?_ ?_|refine gE ?_ ?_|refine gI ?_ ?_|refine gJ ?_ ?_|refine gK ?_ ?_|refine gL ?_ ?_|refine splitB ?_ ?_|refine splitB2 ?_ ?_)<;>intro _h|intro _h);all_goals first|contradiction|conv=>whnf)|(show _∧_;refine gA ?_;conv=>whnf)|fail))
  refine Ends.imm rfl ?_
  have ev : vs = be m.length (2 ^ (16 * m.length) % (bn m).toNat) := by
    obtain ⟨M, hM⟩ : ∃ M : Nat, bn m = M := ⟨(bn m).toNat, by omega⟩
    have h1 : dval vs.reverse = dval (be m.length (2 ^ (16 * m.length) % (bn m).toNat)).reverse := by
      rw [dval_be, hvv, huv, hpv, hmv', hM, Int.toNat_natCast]
      have hlt : 2 ^ (16 * m.length) % M < 256 ^ m.length := by
        have b1 := Nat.mod_lt (2 ^ (16 * m.length)) (show 0 < M by omega)
        have b2 := bn_lt hm
        rw [hM] at b2
        omega
      rw [Nat.mod_eq_of_lt hlt]
      push_cast
      rfl
    have h2 := dval_inj hvw.reverse (be_wfd _ _).reverse (by simp [hvl, be_length]) h1
    simpa using h2
  rw [ev]
  rfl

def bitsOf (b : List Int) : Int := bn (cutB b 0 4)
def keySize (b : List Int) : Nat := (bitsOf b / 8).toNat
/-- The modulus that stands in a key's bytes. -/
def keyMod (b : List Int) : List Int := cutB b 8 (keySize b)
/-- What isn't right of a key's bytes. -/
def keyErr (b : List Int) : Int :=
  if b.length < 8 then 10
  else if bitsOf b % 8 ≠ 0 ∨ sized (keySize b) = false then 21
  else if b.length < 8 + 2 * keySize b then 10
  else if 8 + 2 * keySize b < b.length then 12
  else if notMod (keyMod b) ≠ 0 ∨ keyC (keyMod b) ≠ b then 22 else 0

theorem bits_range {b : List Int} (hb : wfd b) : 0 ≤ bitsOf b ∧ bitsOf b < 4294967296 := by
  refine ⟨bn_nonneg (hb.cut _ _), ?_⟩
  have h := bn_lt (hb.cut 0 4)
  have h2 : (cutB b 0 4).length ≤ 4 := by simp [cutB]; omega
  have h3 : 256 ^ (cutB b 0 4).length ≤ 256 ^ 4 := Nat.pow_le_pow_right (by omega) h2
  show bn (cutB b 0 4) < 4294967296
  omega
theorem get_bits {b : List Int} (hb : wfd b) (hl : 8 ≤ b.length) : getV b 0 4 = (bitsOf b, 0) := by
  have h := bits_range hb
  unfold getV
  rw [if_neg, if_neg]
  · rfl
  · show ¬ 9223372036854775808 ≤ bitsOf b
    omega
  · unfold inside
    rw [decide_eq_true (by omega)]; simp

theorem k_parse (b : List Int) (hb : wfd b) (hl : b.length ≤ 100000) : Imm Tryd.prog 28 [.d (byt b)] (fun r =>
    if keyErr b ≠ 0 then r = .tup [.d .nilp, i64 (keyErr b)] else ∃ n n0 rr, r = .tup [.d (keyD (keyMod b) n n0 rr), i64 0] ∧ Key (keyMod b) n n0 rr) := by
  have hbr := bits_range hb
  have hks : ((keySize b : Nat) : Int) = bitsOf b / 8 := by unfold keySize; omega
  (refine Imm.of_awp told0 [] Tryd.func28 rfl (by decide) (Nat.le_of_ble_eq_true rfl) ?_; intro _w0 _S0 _E0 _B0; ((conv=>whnf);repeat' (first|((first|(show (_=true→_)∧(_=false→_);first|refine nTt ?_|refine nFf ?_)|(show (_=false→_)∧(_=true→_);first|refine nU ?_|refine nV ?_));conv=>whnf)|((first|(first|refine gD ?_ ?_|refine gE ?_ ?_|refine gI ?_ ?_|refine gJ ?_ ?_|refine gK ?_ ?_|refine gL ?_ ?_|refine splitB ?_ ?_|refine splitB2 ?_ ?_)<;>intro _h|intro _h);all_goals first|contradiction|conv=>whnf)|(show _∧_;refine gA ?_;conv=>whnf)|fail)))
  · refine Ends.imm rfl ?_
    have e : keyErr b = 10 := by unfold keyErr; rw [if_pos (by omega)]
    rw [e, if_pos (by decide)]
  have h8 : 8 ≤ b.length := by omega
  refine acallI (k_get b 0 4 hb (by unfold LIM; omega) (by unfold LIM; omega) (by omega)) rfl fun r hr => ?_
  rw [get_bits hb h8] at hr
  subst hr
  have e1 : IntKind.i64.wrap ((bitsOf b).tdiv 8) = (keySize b : Nat) := by rw [Int.tdiv_eq_ediv_of_nonneg (by omega), wrap_i64 (by omega) (by omega), hks]
  have e2 : (bitsOf b).tmod 8 = bitsOf b % 8 := Int.tmod_eq_emod_of_nonneg hbr.1
  have err21 : bitsOf b % 8 ≠ 0 ∨ sized (keySize b) = false → keyErr b = 21 := fun h => by unfold keyErr; rw [if_neg (by omega), if_pos h]
  by_cases t0 : (bitsOf b).tmod 8 = 0
  rotate_left
  · ((conv=>whnf);repeat' (first|((first|(show (_=true→_)∧(_=false→_);first|refine gT ?_|refine gF ?_)|(show (_=false→_)∧(_=true→_);first|refine gU ?_|refine gV ?_));conv=>whnf)|((first|(first|refine gD ?_ ?_|refine gE ?_ ?_|refine gI ?_ ?_|refine gJ ?_ ?_|refine gK ?_ ?_|refine gL ?_ ?_|refine splitB ?_ ?_|refine splitB2 ?_ ?_)<;>intro _h|intro _h);all_goals first|contradiction|conv=>whnf)|(show _∧_;refine gA ?_;conv=>whnf)|fail))
    refine Ends.imm rfl ?_
    rw [e2] at t0
    rw [err21 (.inl t0), if_pos (by decide)]
  ((conv=>whnf);repeat' (first|((first|(show (_=true→_)∧(_=false→_);first|refine gT ?_|refine gF ?_)|(show (_=false→_)∧(_=true→_);first|refine gU ?_|refine gV ?_));conv=>whnf)|((first|(first|refine gD ?_ ?_|refine gE ?_ ?_|refine gI ?_ ?_|refine gJ ?_ ?_|refine gK ?_ ?_|refine gL ?_ ?_|refine splitB ?_ ?_|refine splitB2 ?_ ?_)<;>intro _h|intro _h);all_goals first|contradiction|conv=>whnf)|(show _∧_;refine gA ?_;conv=>whnf)|fail))
  rw [e1]
  refine acallI (k_sized (keySize b) (by unfold LIM; omega)) rfl fun r hr => ?_
  subst hr
  cases hsz : sized (keySize b) with
  | false =>
    ((conv=>whnf);repeat' (first|((first|(show (_=true→_)∧(_=false→_);first|refine gT ?_|refine gF ?_)|(show (_=false→_)∧(_=true→_);first|refine gU ?_|refine gV ?_));conv=>whnf)|((first|(first|refine gD ?_ ?_|refine gE ?_ ?_|refine gI ?_ ?_|refine gJ ?_ ?_|refine gK ?_ ?_|refine gL ?_ ?_|refine splitB ?_ ?_|refine splitB2 ?_ ?_)<;>intro _h|intro _h);all_goals first|contradiction|conv=>whnf)|(show _∧_;refine gA ?_;conv=>whnf)|fail))
    refine Ends.imm rfl ?_
    rw [err21 (.inr hsz), if_pos (by decide)]
  | true =>
    have ⟨s1, s2, s3⟩ := sized_spec.1 hsz
    have m1 : ¬ (bitsOf b % 8 ≠ 0 ∨ sized (keySize b) = false) := fun h => by
      rcases h with h | h
      · omega
      · rw [hsz] at h; cases h
    have e3 : IntKind.i64.wrap (2 * ((keySize b : Nat) : Int)) = ((2 * keySize b : Nat) : Int) := by rw [wrap_i64 (by omega) (by omega)]; omega
    have e4 : IntKind.i64.wrap (8 + ((2 * keySize b : Nat) : Int)) = ((8 + 2 * keySize b : Nat) : Int) := by rw [wrap_i64 (by omega) (by omega)]; omega
    have e5 : IntKind.i64.wrap (8 + ((keySize b : Nat) : Int)) = ((8 + keySize b : Nat) : Int) := by rw [wrap_i64 (by omega) (by omega)]; omega
    by_cases l1 : b.length < 8 + 2 * keySize b
    · have l1' : (b.length : Int) < IntKind.i64.wrap (8 + IntKind.i64.wrap (2 * ((keySize b : Nat) : Int))) := by rw [e3, e4]; omega
      ((conv=>whnf);repeat' (first|((first|(show (_=true→_)∧(_=false→_);first|refine gT ?_|refine gF ?_)|(show (_=false→_)∧(_=true→_);first|refine gU ?_|refine gV ?_));conv=>whnf)|((first|(first|refine gD ?_ ?_|refine gE ?_ ?_|refine gI ?_ ?_|refine gJ ?_ ?_|refine gK ?_ ?_|refine gL ?_ ?_|refine splitB ?_ ?_|refine splitB2 ?_ ?_)<;>intro _h|intro _h);all_goals first|contradiction|conv=>whnf)|(show _∧_;refine gA ?_;conv=>whnf)|fail))
      refine Ends.imm rfl ?_
      have e : keyErr b = 10 := by unfold keyErr; rw [if_neg (by omega), if_neg m1, if_pos l1]
      rw [e, if_pos (by decide)]
    · have l1' : ¬ (b.length : Int) < IntKind.i64.wrap (8 + IntKind.i64.wrap (2 * ((keySize b : Nat) : Int))) := by rw [e3, e4]; omega
      by_cases l2 : 8 + 2 * keySize b < b.length
      · have l2' : IntKind.i64.wrap (8 + IntKind.i64.wrap (2 * ((keySize b : Nat) : Int))) < (b.length : Int) := by rw [e3, e4]; omega
        ((conv=>whnf);repeat' (first|((first|(show (_=true→_)∧(_=false→_);first|refine gT ?_|refine gF ?_)|(show (_=false→_)∧(_=true→_);first|refine gU ?_|refine gV ?_));conv=>whnf)|((first|(first|refine gD ?_ ?_|refine gE ?_ ?_|refine gI ?_ ?_|refine gJ ?_ ?_|refine gK ?_ ?_|refine gL ?_ ?_|refine splitB ?_ ?_|refine splitB2 ?_ ?_)<;>intro _h|intro _h);all_goals first|contradiction|conv=>whnf)|(show _∧_;refine gA ?_;conv=>whnf)|fail))
        refine Ends.imm rfl ?_
        have e : keyErr b = 12 := by unfold keyErr; rw [if_neg (by omega), if_neg m1, if_neg l1, if_pos l2]
        rw [e, if_pos (by decide)]
      · have l2' : ¬ IntKind.i64.wrap (8 + IntKind.i64.wrap (2 * ((keySize b : Nat) : Int))) < (b.length : Int) := by rw [e3, e4]; omega
        ((conv=>whnf);repeat' (first|((first|(show (_=true→_)∧(_=false→_);first|refine gT ?_|refine gF ?_)|(show (_=false→_)∧(_=true→_);first|refine gU ?_|refine gV ?_));conv=>whnf)|((first|(first|refine gD ?_ ?_|refine gE ?_ ?_|refine gI ?_ ?_|refine gJ ?_ ?_|refine gK ?_ ?_|refine gL ?_ ?_|refine splitB ?_ ?_|refine splitB2 ?_ ?_)<;>intro _h|intro _h);all_goals first|contradiction|conv=>whnf)|(show _∧_;refine gA ?_;conv=>whnf)|fail))
        have hcut : AVal.d (.ints .u8 ((b.take (IntKind.i64.wrap (8 + ((keySize b : Nat) : Int))).toNat).drop (Int.toNat 8))) = .d (byt (keyMod b)) := by rw [e5]; rfl
        have hml : (keyMod b).length = keySize b := cutB_len (by omega)
        refine acallI (k_make (keyMod b) (hb.cut _ _) (by unfold LIM; omega)) (by rw [← hcut]; rfl) fun r hr => ?_
        have err22 : notMod (keyMod b) ≠ 0 ∨ keyC (keyMod b) ≠ b → keyErr b = 22 := fun h => by unfold keyErr; rw [if_neg (by omega), if_neg m1, if_neg l1, if_neg l2, if_pos h]
        by_cases hn : notMod (keyMod b) ≠ 0
        · rw [if_pos hn] at hr
          subst hr
          ((conv=>whnf);repeat' (first|((first|(show (_=true→_)∧(_=false→_);first|refine gT ?_|refine gF ?_)|(show (_=false→_)∧(_=true→_);first|refine gU ?_|refine gV ?_));conv=>whnf)|((first|(first|refine gD ?_ ?_|refine gE ?_ ?_|refine gI ?_ ?_|refine gJ ?_ ?_|refine gK ?_ ?_|refine gL ?_ ?_|refine splitB ?_ ?_|refine splitB2 ?_ ?_)<;>intro _h|intro _h);all_goals first|contradiction|conv=>whnf)|(show _∧_;refine gA ?_;conv=>whnf)|fail))
          refine Ends.imm rfl ?_
          rw [err22 (.inl hn), if_pos (by decide)]
        · rw [if_neg hn] at hr
          obtain ⟨n, n0, rr, rfl, hk⟩ := hr
          ((conv=>whnf);repeat' (first|((first|(show (_=true→_)∧(_=false→_);first|refine gT ?_|refine gF ?_)|(show (_=false→_)∧(_=true→_);first|refine gU ?_|refine gV ?_));conv=>whnf)|((first|(first|refine gD ?_ ?_|refine gE ?_ ?_|refine gI ?_ ?_|refine gJ ?_ ?_|refine gK ?_ ?_|refine gL ?_ ?_|refine splitB ?_ ?_|refine splitB2 ?_ ?_)<;>intro _h|intro _h);all_goals first|contradiction|conv=>whnf)|(show _∧_;refine gA ?_;conv=>whnf)|fail))
          refine acallI (k_keyBytes (keyMod b) n n0 rr hk) rfl fun r hr => ?_
          rw [key_eq hk] at hr
          subst hr
          ((conv=>whnf);repeat' (first|((first|(show (_=true→_)∧(_=false→_);first|refine gT ?_|refine gF ?_)|(show (_=false→_)∧(_=true→_);first|refine gU ?_|refine gV ?_));conv=>whnf)|((first|(first|refine gD ?_ ?_|refine gE ?_ ?_|refine gI ?_ ?_|refine gJ ?_ ?_|refine gK ?_ ?_|refine gL ?_ ?_|refine splitB ?_ ?_|refine splitB2 ?_ ?_)<;>intro _h|intro _h);all_goals first|contradiction|conv=>whnf)|(show _∧_;refine gA ?_;conv=>whnf)|fail))
          refine acallI (k_equal (keyC (keyMod b)) b) rfl fun r hr => ?_
          subst hr
          by_cases hc : keyC (keyMod b) = b
          · have e0 : keyErr b = 0 := by unfold keyErr; rw [if_neg (by omega), if_neg m1, if_neg l1, if_neg l2, if_neg (fun h => h.elim hn (fun h => h hc))]
            ((conv=>whnf);repeat' (first|((first|(show (_=true→_)∧(_=false→_);first|refine gT ?_|refine gF ?_)|(show (_=false→_)∧(_=true→_);first|refine gU ?_|refine gV ?_));conv=>whnf)|((first|(first|refine gD ?_ ?_|refine gE ?_ ?_|refine gI ?_ ?_|refine gJ ?_ ?_|refine gK ?_ ?_|refine gL ?_ ?_|refine splitB ?_ ?_|refine splitB2 ?_ ?_)<;>intro _h|intro _h);all_goals first|contradiction|conv=>whnf)|(show _∧_;refine gA ?_;conv=>whnf)|fail))
            refine Ends.imm rfl ?_
            rw [e0, if_neg (by simp)]
            exact ⟨n, n0, rr, rfl, hk⟩
          · ((conv=>whnf);repeat' (first|((first|(show (_=true→_)∧(_=false→_);first|refine gT ?_|refine gF ?_)|(show (_=false→_)∧(_=true→_);first|refine gU ?_|refine gV ?_));conv=>whnf)|((first|(first|refine gD ?_ ?_|refine gE ?_ ?_|refine gI ?_ ?_|refine gJ ?_ ?_|refine gK ?_ ?_|refine gL ?_ ?_|refine splitB ?_ ?_|refine splitB2 ?_ ?_)<;>intro _h|intro _h);all_goals first|contradiction|conv=>whnf)|(show _∧_;refine gA ?_;conv=>whnf)|fail))
            refine Ends.imm rfl ?_
            rw [err22 (.inr hc), if_pos (by decide)]
end Go.Proofs.YtniaeiikdgbnfaaDoor.R
