/- The reference's code, part 2. -/
import Derived.Test.YtniaeiikdgbnfaaR8
namespace Go.Proofs.Ytniaeiikdgbnfaa.R
open Go Go.RowKit Go.Proofs Go.Proofs.Ytniaeiikdgbnfaa.AW
set_option maxRecDepth 100000
set_option linter.unusedSimpArgs false
set_option linter.unusedVariables false
set_option maxHeartbeats 4000000

theorem dval_take_succ (m : List Int) (i : Nat) : dval (m.take (i + 1)) = dval (m.take i) + dpw i * m.getD i 0 := by
  rcases Nat.lt_or_ge i m.length with h | h
  · rw [take_snoc h, dval_snoc, List.length_take, Nat.min_eq_left (by omega)]
  · rw [List.take_of_length_le (by omega), List.take_of_length_le h, List.getD_eq_getElem?_getD, List.getElem?_eq_none h]
    simp

theorem f30 (m : List Int) (k n : Nat) (hm : wfd m) (hk : k ≤ 7) (hn : m.length + 1 ≤ n) (hs : n ≤ 1000000) :
    Imm Try.prog 30 [.d (digs m), i64 k, i64 n] (fun r => ∃ zs, r = .d (digs zs) ∧ zs.length = n ∧ wfd zs ∧ dval zs = dval m * 2 ^ k) := by
  (refine Imm.of_awp told0 [6] Try.func30 rfl (by decide) (Nat.le_of_ble_eq_true rfl) ?_; intro _w0 _S0 _E0 _B0; ((conv => whnf); repeat' (first | (refine And.intro ?_ ?_; (focus (first | rfl | decide | assumption | omega | decide +kernel | exact ⟨rfl, rfl⟩ | exact ⟨rfl, rfl, rfl, rfl⟩ | exact fun h => Bool.noConfusion h | exact fun _ => rfl | exact Nat.le_of_ble_eq_true rfl | (simp only [List.length_map, List.length_append, List.length_replicate, List.length_take, List.length_drop, List.length_set, List.length_cons, List.length_nil]; omega))); (conv => whnf)) | ((refine And.intro ?_ ?_ <;> intro _h); all_goals ((first | replace _h := of_decide_eq_true _h | replace _h := of_decide_eq_false _h | skip); (try simp only [Bool.not_eq_true', Bool.not_eq_false', Bool.not_true, Bool.not_false, decide_eq_true_eq, decide_eq_false_iff_not] at _h); (try (guard_hyp _h : True; clear _h)); first | done | contradiction | exact absurd ((Eq.symm _h).trans (show _ = true by assumption)) (by decide) | exact absurd ((Eq.symm _h).trans (show _ = false by assumption)) (by decide) | (conv => whnf))) | (intro _h; ((first | replace _h := of_decide_eq_true _h | replace _h := of_decide_eq_false _h | skip); (try simp only [Bool.not_eq_true', Bool.not_eq_false', Bool.not_true, Bool.not_false, decide_eq_true_eq, decide_eq_false_iff_not] at _h); (try (guard_hyp _h : True; clear _h)); first | done | contradiction | exact absurd ((Eq.symm _h).trans (show _ = true by assumption)) (by decide) | exact absurd ((Eq.symm _h).trans (show _ = false by assumption)) (by decide) | (conv => whnf))))))
  refine aloop (T := told0) (ι := Nat × List Int × Int) (fun p => [(0, .d (digs m)), (1, i64 k), (2, i64 n), (7, .own 0), (8, i64 p.2.2), (9, i64 p.1)]) (fun p => [(0, .row .i64 3 (p.2.1 ++ (List.replicate n 0).drop p.1))]) 37 1
    (fun p => n - p.1) (fun p => p.1 ≤ n ∧ p.2.1.length = p.1 ∧ wfd p.2.1 ∧ (0 ≤ p.2.2 ∧ p.2.2 < 2 ^ k) ∧ dval p.2.1 + dpw p.1 * p.2.2 = dval (m.take p.1) * 2 ^ k)
    ⟨(0, [], 0), [0], rfl, ⟨by omega, rfl, by simp [wfd], ⟨by dsimp only; omega, Int.pow_pos (by omega)⟩, by simp [dval]⟩, by (refine ⟨rfl, rfl, ?_, ?_⟩ <;> repeat' (first | exact True.intro | rfl | decide | (refine And.intro ?_ ?_)))⟩ ?_
  intro ⟨i, zs, c⟩ ⟨hi, hzl, hz, hc, hv⟩
  dsimp only at hi hzl hz hc hv ⊢
  have hmi := hm.get i
  have hlen : (zs ++ (List.replicate n (0 : Int)).drop i).length = n := by simp; omega
  have hP : (1 : Int) ≤ 2 ^ k ∧ (2 : Int) ^ k ≤ 128 := by
    have : ∀ k : Fin 8, (1 : Int) ≤ 2 ^ k.val ∧ (2 : Int) ^ k.val ≤ 128 := by decide
    exact this ⟨k, by omega⟩
  have hsh : (m.getD i 0) * 2 ^ (min (k : Int).toNat (IntKind.bits .i64)) = m.getD i 0 * 2 ^ k := by
    rw [Int.toNat_natCast, Nat.min_eq_left (by simp [IntKind.bits]; omega)]
  have hts := dval_take_succ m i
  have b1 : 0 ≤ m.getD i 0 * 2 ^ k := Int.mul_nonneg hmi.1 (by omega)
  have b2 : m.getD i 0 * 2 ^ k ≤ 255 * 2 ^ k := Int.mul_le_mul_of_nonneg_right (by omega) (by omega)
  have key : ∀ v : Int, v = c + m.getD i 0 * 2 ^ k → (0 ≤ v % 256 ∧ v % 256 < 256) ∧ (0 ≤ v / 256 ∧ v / 256 < 2 ^ k) ∧ dval (zs ++ [v % 256]) + dpw (i + 1) * (v / 256) = dval (m.take (i + 1)) * 2 ^ k := fun v hv2 => by
    refine ⟨by omega, ⟨by omega, by omega⟩, ?_⟩
    rw [dval_snoc, hzl, dpw_succ, hts]
    have e : v % 256 = v - 256 * (v / 256) := by omega
    rw [e]
    generalize v / 256 = q
    subst hv2
    grind
  ((conv => whnf); repeat' (first | (refine And.intro ?_ ?_; (focus (first | rfl | decide | assumption | omega | decide +kernel | exact ⟨rfl, rfl⟩ | exact ⟨rfl, rfl, rfl, rfl⟩ | exact fun h => Bool.noConfusion h | exact fun _ => rfl | exact Nat.le_of_ble_eq_true rfl | (simp only [List.length_map, List.length_append, List.length_replicate, List.length_take, List.length_drop, List.length_set, List.length_cons, List.length_nil]; omega))); (conv => whnf)) | ((refine And.intro ?_ ?_ <;> intro _h); all_goals ((first | replace _h := of_decide_eq_true _h | replace _h := of_decide_eq_false _h | skip); (try simp only [Bool.not_eq_true', Bool.not_eq_false', Bool.not_true, Bool.not_false, decide_eq_true_eq, decide_eq_false_iff_not] at _h); (try (guard_hyp _h : True; clear _h)); first | done | contradiction | exact absurd ((Eq.symm _h).trans (show _ = true by assumption)) (by decide) | exact absurd ((Eq.symm _h).trans (show _ = false by assumption)) (by decide) | (conv => whnf))) | (intro _h; ((first | replace _h := of_decide_eq_true _h | replace _h := of_decide_eq_false _h | skip); (try simp only [Bool.not_eq_true', Bool.not_eq_false', Bool.not_true, Bool.not_false, decide_eq_true_eq, decide_eq_false_iff_not] at _h); (try (guard_hyp _h : True; clear _h)); first | done | contradiction | exact absurd ((Eq.symm _h).trans (show _ = true by assumption)) (by decide) | exact absurd ((Eq.symm _h).trans (show _ = false by assumption)) (by decide) | (conv => whnf)))))
  · have e1 : IntKind.i64.wrap (c + IntKind.i64.wrap (m.getD (i : Int).toNat 0 * 2 ^ (min (k : Int).toNat (IntKind.bits .i64)))) = c + m.getD i 0 * 2 ^ k := by
      rw [Int.toNat_natCast, hsh, wrap_i64 (n := m.getD i 0 * 2 ^ k) (by omega) (by omega), wrap_i64 (by omega) (by omega)]
    obtain ⟨k1, k2, k3⟩ := key _ rfl
    generalize hv0 : c + m.getD i 0 * 2 ^ k = v at *
    refine ⟨(i + 1, zs ++ [v % 256], v / 256), [0], by dsimp only; omega, ⟨by dsimp only; omega, by simp [hzl], hz.append (wfd.one k1), k2, k3⟩, rfl, ?_⟩
    (refine ⟨rfl, rfl, ?_, ?_⟩ <;> repeat' (first | exact True.intro | rfl | decide | (refine And.intro ?_ ?_)))
    · refine di ?_
      rw [e1, Int.tdiv_eq_ediv_of_nonneg (by omega), wrap_i64 (by omega) (by omega)]
    · refine di ?_
      rw [wrap_i64 (by omega) (by omega)]; rfl
    · show some (Ob.row .i64 3 ((zs ++ (List.replicate n 0).drop i).set (i : Int).toNat _)) = some (Ob.row .i64 3 _)
      rw [e1, Int.tmod_eq_emod_of_nonneg (by omega), Int.toNat_natCast, set_row hzl (by simp; omega)]
  · have hm0 : m.getD i 0 = 0 := by rw [List.getD_eq_getElem?_getD, List.getElem?_eq_none (by omega)]; rfl
    obtain ⟨k1, k2, k3⟩ := key c (by rw [hm0]; omega)
    refine ⟨(i + 1, zs ++ [c % 256], c / 256), [0], by dsimp only; omega, ⟨by dsimp only; omega, by simp [hzl], hz.append (wfd.one k1), k2, k3⟩, rfl, ?_⟩
    (refine ⟨rfl, rfl, ?_, ?_⟩ <;> repeat' (first | exact True.intro | rfl | decide | (refine And.intro ?_ ?_)))
    · refine di ?_
      rw [Int.tdiv_eq_ediv_of_nonneg (by omega), wrap_i64 (by omega) (by omega)]
    · refine di ?_
      rw [wrap_i64 (by omega) (by omega)]; rfl
    · show some (Ob.row .i64 3 ((zs ++ (List.replicate n 0).drop i).set (i : Int).toNat _)) = some (Ob.row .i64 3 _)
      rw [Int.tmod_eq_emod_of_nonneg (by omega), Int.toNat_natCast, set_row hzl (by simp; omega)]
  · have hin : i = n := by omega
    subst hin
    have e0 : zs ++ (List.replicate i (0 : Int)).drop i = zs := by rw [List.drop_of_length_le (by simp), List.append_nil]
    rw [e0]
    refine Ends.imm rfl ⟨zs, rfl, hzl, hz, ?_⟩
    rw [List.take_of_length_le (by omega)] at hv
    have h1 := dval_lt hm
    have h2 := dval_nonneg hz
    have h3 : dpw (m.length + 1) ≤ dpw i := by
      obtain ⟨j, rfl⟩ : ∃ j, i = m.length + 1 + j := ⟨i - (m.length + 1), by omega⟩
      rw [dpw_add (m.length + 1) j]
      have := dpw_pos (m.length + 1)
      have := dpw_pos j
      have : dpw (m.length + 1) * 1 ≤ dpw (m.length + 1) * dpw j := Int.mul_le_mul_of_nonneg_left (by omega) (by omega)
      omega
    rw [dpw_succ] at h3
    have h4 : dval m * 2 ^ k ≤ dval m * 128 := Int.mul_le_mul_of_nonneg_left hP.2 (dval_nonneg hm)
    have h5 := dpw_pos m.length
    have hc0 : c = 0 := by
      rcases Int.lt_or_le 0 c with h | h
      · have : dpw i * 1 ≤ dpw i * c := Int.mul_le_mul_of_nonneg_left (by omega) (by have := dpw_pos i; omega)
        omega
      · omega
    subst hc0
    omega

end Go.Proofs.Ytniaeiikdgbnfaa.R
