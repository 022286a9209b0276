/- Parts R9, R10, R11, R12, R13, R14, R15. No condition of its own. -/
import Derived.Test.YtniaeiikdgbnfaaGreatDoorSH7
import Derived.Test.YtniaeiikdgbnfaaGreatDoorSH4
import Derived.Test.YtniaeiikdgbnfaaGreatDoorSH5
import Derived.Shelf.RegionOpen
import Derived.WalkKit
import Derived.TacticsInMore
import Derived.LoopIn
import Derived.OwnWalkIn

namespace Go.Proofs.YtniaeiikdgbnfaaGreatDoor.R
open Go Go.RowKit Go.Proofs Go.Proofs.YtniaeiikdgbnfaaGreatDoor.AW
set_option linter.unusedSectionVars false
variable [Globs]
set_option maxRecDepth 100000
set_option linter.unusedSimpArgs false
set_option linter.unusedVariables false
set_option maxHeartbeats 4000000

theorem dval_take_succ (m : List Int) (i : Nat) : dval (m.take (i + 1)) = dval (m.take i) + dpw i * m.getD i 0 := by
  rcases Nat.lt_or_ge i m.length with h | h
  · rw [take_snoc h, dval_snoc, List.length_take, Nat.min_eq_left (by omega)]
  · rw [List.take_of_length_le (by omega), List.take_of_length_le h, List.getD_eq_getElem?_getD, List.getElem?_eq_none h]
    simp

theorem f30 (m : List Int) (k n : Nat) (hm : wfd m) (hk : k ≤ 7) (hn : m.length + 1 ≤ n) (hs : n ≤ 1000000) :
    Imm Tryz.prog 47 [.d (digs m), i64 k, i64 n] (fun r => ∃ zs, r = .d (digs zs) ∧ zs.length = n ∧ wfd zs ∧ dval zs = dval m * 2 ^ k) := by
  (refine Imm.of_awp told0 [6] Tryz.func47 rfl (by decide) (Nat.le_of_ble_eq_true rfl) ?_; intro _w0 _S0 _E0 _B0; ((conv => whnf); repeat' (first | (refine And.intro ?_ ?_; (focus (first | rfl | decide | assumption | omega | decide +kernel | exact ⟨rfl, rfl⟩ | exact ⟨rfl, rfl, rfl, rfl⟩ | exact fun h => Bool.noConfusion h | exact fun _ => rfl | exact Nat.le_of_ble_eq_true rfl | (simp only [List.length_map, List.length_append, List.length_replicate, List.length_take, List.length_drop, List.length_set, List.length_cons, List.length_nil]; omega))); (conv => whnf)) | ((refine And.intro ?_ ?_ <;> intro _h); all_goals ((first | replace _h := of_decide_eq_true _h | replace _h := of_decide_eq_false _h | skip); (try simp only [Bool.not_eq_true', Bool.not_eq_false', Bool.not_true, Bool.not_false, decide_eq_true_eq, decide_eq_false_iff_not] at _h); (try (guard_hyp _h : True; clear _h)); first | done | contradiction | exact absurd ((Eq.symm _h).trans (show _ = true by assumption)) (by decide) | exact absurd ((Eq.symm _h).trans (show _ = false by assumption)) (by decide) | (conv => whnf))) | (intro _h; ((first | replace _h := of_decide_eq_true _h | replace _h := of_decide_eq_false _h | skip); (try simp only [Bool.not_eq_true', Bool.not_eq_false', Bool.not_true, Bool.not_false, decide_eq_true_eq, decide_eq_false_iff_not] at _h); (try (guard_hyp _h : True; clear _h)); first | done | contradiction | exact absurd ((Eq.symm _h).trans (show _ = true by assumption)) (by decide) | exact absurd ((Eq.symm _h).trans (show _ = false by assumption)) (by decide) | (conv => whnf))))))
  refine aloop (T := told0) (ι := Nat × List Int × Int) (fun p => [(0, .d (digs m)), (1, i64 k), (2, i64 n), (7, .own 0), (8, i64 p.2.2), (9, i64 p.1)]) (fun p => [(0, .row .i64 3 (p.2.1 ++ (List.replicate n 0).drop p.1))]) 37 1
    (fun p => n - p.1) (fun p => p.1 ≤ n ∧ p.2.1.length = p.1 ∧ wfd p.2.1 ∧ (0 ≤ p.2.2 ∧ p.2.2 < 2 ^ k) ∧ dval p.2.1 + dpw p.1 * p.2.2 = dval (m.take p.1) * 2 ^ k)
    ⟨(0, [], 0), [0], rfl, ⟨by omega, rfl, by simp [wfd], ⟨by dsimp only; omega, Int.pow_pos (by omega)⟩, by simp [dval]⟩, by (refine ⟨rfl, rfl, ?_, ?_⟩ <;> repeat' (first | exact True.intro | rfl | decide | (refine And.intro ?_ ?_)))⟩ ?_
  intro ⟨i, zs, c⟩ ⟨hi, hzl, hz, hc, hv⟩
  dsimp only at hi hzl hz hc hv ⊢
  have hmi := hm.get i
  have hlen : (zs ++ (List.replicate n (0 : Int)).drop i).length = n := by simp; omega
  have hP : (1 : Int) ≤ 2 ^ k ∧ (2 : Int) ^ k ≤ 128 := by
    have : ∀ k : Fin 8, (1 : Int) ≤ 2 ^ k.val ∧ (2 : Int) ^ k.val ≤ 128 := by decide
    exact this ⟨k, by omega⟩
  have hsh : (m.getD i 0) * 2 ^ (min (k : Int).toNat (IntKind.bits .i64)) = m.getD i 0 * 2 ^ k := by
    rw [Int.toNat_natCast, Nat.min_eq_left (by simp [IntKind.bits]; omega)]
  have hts := dval_take_succ m i
  have b1 : 0 ≤ m.getD i 0 * 2 ^ k := Int.mul_nonneg hmi.1 (by omega)
  have b2 : m.getD i 0 * 2 ^ k ≤ 255 * 2 ^ k := Int.mul_le_mul_of_nonneg_right (by omega) (by omega)
  have key : ∀ v : Int, v = c + m.getD i 0 * 2 ^ k → (0 ≤ v % 256 ∧ v % 256 < 256) ∧ (0 ≤ v / 256 ∧ v / 256 < 2 ^ k) ∧ dval (zs ++ [v % 256]) + dpw (i + 1) * (v / 256) = dval (m.take (i + 1)) * 2 ^ k := fun v hv2 => by
    refine ⟨by omega, ⟨by omega, by omega⟩, ?_⟩
    rw [dval_snoc, hzl, dpw_succ, hts]
    have e : v % 256 = v - 256 * (v / 256) := by omega
    rw [e]
    generalize v / 256 = q
    subst hv2
    grind
  ((conv => whnf); repeat' (first | (refine And.intro ?_ ?_; (focus (first | rfl | decide | assumption | omega | decide +kernel | exact ⟨rfl, rfl⟩ | exact ⟨rfl, rfl, rfl, rfl⟩ | exact fun h => Bool.noConfusion h | exact fun _ => rfl | exact Nat.le_of_ble_eq_true rfl | (simp only [List.length_map, List.length_append, List.length_replicate, List.length_take, List.length_drop, List.length_set, List.length_cons, List.length_nil]; omega))); (conv => whnf)) | ((refine And.intro ?_ ?_ <;> intro _h); all_goals ((first | replace _h := of_decide_eq_true _h | replace _h := of_decide_eq_false _h | skip); (try simp only [Bool.not_eq_true', Bool.not_eq_false', Bool.not_true, Bool.not_false, decide_eq_true_eq, decide_eq_false_iff_not] at _h); (try (guard_hyp _h : True; clear _h)); first | done | contradiction | exact absurd ((Eq.symm _h).trans (show _ = true by assumption)) (by decide) | exact absurd ((Eq.symm _h).trans (show _ = false by assumption)) (by decide) | (conv => whnf))) | (intro _h; ((first | replace _h := of_decide_eq_true _h | replace _h := of_decide_eq_false _h | skip); (try simp only [Bool.not_eq_true', Bool.not_eq_false', Bool.not_true, Bool.not_false, decide_eq_true_eq, decide_eq_false_iff_not] at _h); (try (guard_hyp _h : True; clear _h)); first | done | contradiction | exact absurd ((Eq.symm _h).trans (show _ = true by assumption)) (by decide) | exact absurd ((Eq.symm _h).trans (show _ = false by assumption)) (by decide) | (conv => whnf)))))
  · have e1 : IntKind.i64.wrap (c + IntKind.i64.wrap (m.getD (i : Int).toNat 0 * 2 ^ (min (k : Int).toNat (IntKind.bits .i64)))) = c + m.getD i 0 * 2 ^ k := by
      rw [Int.toNat_natCast, hsh, wrap_i64 (n := m.getD i 0 * 2 ^ k) (by omega) (by omega), wrap_i64 (by omega) (by omega)]
    obtain ⟨k1, k2, k3⟩ := key _ rfl
    generalize hv0 : c + m.getD i 0 * 2 ^ k = v at *
    refine ⟨(i + 1, zs ++ [v % 256], v / 256), [0], by dsimp only; omega, ⟨by dsimp only; omega, by simp [hzl], hz.append (wfd.one k1), k2, k3⟩, rfl, ?_⟩
    (refine ⟨rfl, rfl, ?_, ?_⟩ <;> repeat' (first | exact True.intro | rfl | decide | (refine And.intro ?_ ?_)))
    · refine di ?_
      rw [e1, Int.tdiv_eq_ediv_of_nonneg (by omega), wrap_i64 (by omega) (by omega)]
    · refine di ?_
      rw [wrap_i64 (by omega) (by omega)]; rfl
    · show some (Ob.row .i64 3 ((zs ++ (List.replicate n 0).drop i).set (i : Int).toNat _)) = some (Ob.row .i64 3 _)
      rw [e1, Int.tmod_eq_emod_of_nonneg (by omega), Int.toNat_natCast, set_row hzl (by simp; omega)]
  · have hm0 : m.getD i 0 = 0 := by rw [List.getD_eq_getElem?_getD, List.getElem?_eq_none (by omega)]; rfl
    obtain ⟨k1, k2, k3⟩ := key c (by rw [hm0]; omega)
    refine ⟨(i + 1, zs ++ [c % 256], c / 256), [0], by dsimp only; omega, ⟨by dsimp only; omega, by simp [hzl], hz.append (wfd.one k1), k2, k3⟩, rfl, ?_⟩
    (refine ⟨rfl, rfl, ?_, ?_⟩ <;> repeat' (first | exact True.intro | rfl | decide | (refine And.intro ?_ ?_)))
    · refine di ?_
      rw [Int.tdiv_eq_ediv_of_nonneg (by omega), wrap_i64 (by omega) (by omega)]
    · refine di ?_
      rw [wrap_i64 (by omega) (by omega)]; rfl
    · show some (Ob.row .i64 3 ((zs ++ (List.replicate n 0).drop i).set (i : Int).toNat _)) = some (Ob.row .i64 3 _)
      rw [Int.tmod_eq_emod_of_nonneg (by omega), Int.toNat_natCast, set_row hzl (by simp; omega)]
  · have hin : i = n := by omega
    subst hin
    have e0 : zs ++ (List.replicate i (0 : Int)).drop i = zs := by rw [List.drop_of_length_le (by simp), List.append_nil]
    rw [e0]
    refine Ends.imm rfl ⟨zs, rfl, hzl, hz, ?_⟩
    rw [List.take_of_length_le (by omega)] at hv
    have h1 := dval_lt hm
    have h2 := dval_nonneg hz
    have h3 : dpw (m.length + 1) ≤ dpw i := by
      obtain ⟨j, rfl⟩ : ∃ j, i = m.length + 1 + j := ⟨i - (m.length + 1), by omega⟩
      rw [dpw_add (m.length + 1) j]
      have := dpw_pos (m.length + 1)
      have := dpw_pos j
      have : dpw (m.length + 1) * 1 ≤ dpw (m.length + 1) * dpw j := Int.mul_le_mul_of_nonneg_left (by omega) (by omega)
      omega
    rw [dpw_succ] at h3
    have h4 : dval m * 2 ^ k ≤ dval m * 128 := Int.mul_le_mul_of_nonneg_left hP.2 (dval_nonneg hm)
    have h5 := dpw_pos m.length
    have hc0 : c = 0 := by
      rcases Int.lt_or_le 0 c with h | h
      · have : dpw i * 1 ≤ dpw i * c := Int.mul_le_mul_of_nonneg_left (by omega) (by have := dpw_pos i; omega)
        omega
      · omega
    subst hc0
    omega


theorem dpw_le {m n : Nat} (h : m ≤ n) : dpw m ≤ dpw n := by
  obtain ⟨j, rfl⟩ : ∃ j, n = m + j := ⟨n - m, by omega⟩
  rw [dpw_add m j]
  have := dpw_pos m
  have := dpw_pos j
  have : dpw m * 1 ≤ dpw m * dpw j := Int.mul_le_mul_of_nonneg_left (by omega) (by omega)
  omega

/-- The shorter one is less. -/
theorem short_lt {xs ys : List Int} (hx : wfd xs) (hy : wfd ys) (ht : trimmed ys) (hl : xs.length < ys.length) : dval xs < dval ys := by
  have h1 := dval_lt hx
  obtain ⟨n, hn⟩ : ∃ n, ys.length = n + 1 := ⟨ys.length - 1, by omega⟩
  have h2 : ys.getD n 0 ≠ 0 := by
    rcases ht with h | h
    · subst h; simp at hn
    · rw [hn] at h; exact h
  have h3 := hy.get n
  have h4 := dval_take_succ ys n
  rw [List.take_of_length_le (by omega)] at h4
  have h5 := dval_nonneg (hy.take n)
  have h6 := dpw_pos n
  have h7 : dpw n * 1 ≤ dpw n * ys.getD n 0 := Int.mul_le_mul_of_nonneg_left (by omega) (by omega)
  have h8 := dpw_le (show xs.length ≤ n by omega)
  omega

def told26 : AW.Told := ⟨fun _ => false, fun _ _ => [], fun r => if r == 8 || r == 10 then .take 0 (.take 1 (.take 2 (.take 3 (.take 4 (.take 5 (.take 6 (.take 7 (.take 8 .done)))))))) else .done⟩

theorem f26 (xs ys : List Int) (hx : wfd xs) (hy : wfd ys) (htx : trimmed xs) (hty : trimmed ys) (hs : xs.length ≤ 1000000) : Imm Tryz.prog 28 [.d (digs xs), .d (digs ys)] (fun r => r = i64 (sgn (dval xs) (dval ys))) := by
  have e0 : IntKind.i64.wrap ((xs.length : Int) - 1) = (xs.length : Int) - 1 := wrap_i64 (by omega) (by omega)
  (refine Imm.of_awp told26 [] Tryz.func28 rfl (by decide) (Nat.le_of_ble_eq_true rfl) ?_; intro _w0 _S0 _E0 _B0; ((conv => whnf); repeat' (first | (refine And.intro ?_ ?_; (focus (first | rfl | decide | assumption | omega | decide +kernel | exact ⟨rfl, rfl⟩ | exact ⟨rfl, rfl, rfl, rfl⟩ | exact fun h => Bool.noConfusion h | exact fun _ => rfl | exact Nat.le_of_ble_eq_true rfl | (simp only [List.length_map, List.length_append, List.length_replicate, List.length_take, List.length_drop, List.length_set, List.length_cons, List.length_nil]; omega))); (conv => whnf)) | ((refine And.intro ?_ ?_ <;> intro _h); all_goals ((first | replace _h := of_decide_eq_true _h | replace _h := of_decide_eq_false _h | skip); (try simp only [Bool.not_eq_true', Bool.not_eq_false', Bool.not_true, Bool.not_false, decide_eq_true_eq, decide_eq_false_iff_not] at _h); (try (guard_hyp _h : True; clear _h)); first | done | contradiction | exact absurd ((Eq.symm _h).trans (show _ = true by assumption)) (by decide) | exact absurd ((Eq.symm _h).trans (show _ = false by assumption)) (by decide) | (conv => whnf))) | (intro _h; ((first | replace _h := of_decide_eq_true _h | replace _h := of_decide_eq_false _h | skip); (try simp only [Bool.not_eq_true', Bool.not_eq_false', Bool.not_true, Bool.not_false, decide_eq_true_eq, decide_eq_false_iff_not] at _h); (try (guard_hyp _h : True; clear _h)); first | done | contradiction | exact absurd ((Eq.symm _h).trans (show _ = true by assumption)) (by decide) | exact absurd ((Eq.symm _h).trans (show _ = false by assumption)) (by decide) | (conv => whnf))))))
  · refine Ends.imm rfl (di ?_)
    have := short_lt hx hy hty (by omega)
    unfold sgn; rw [if_pos this]
  · refine Ends.imm rfl (di ?_)
    have := short_lt hy hx htx (by omega)
    unfold sgn; rw [if_neg (by omega), if_pos this]
  · have hl := _h
    rw [e0]
    refine aloop (T := told26) (ι := Nat) (fun n => [(0, .d (digs xs)), (1, .d (digs ys)), (5, i64 ((n : Int) - 1))]) (fun _ => []) 41 0 (fun n => n) (fun n => n ≤ xs.length ∧ ∀ j, n ≤ j → xs.getD j 0 = ys.getD j 0)
      ⟨xs.length, [], rfl, ⟨Nat.le_refl _, fun j hj => by rw [List.getD_eq_getElem?_getD, List.getD_eq_getElem?_getD, List.getElem?_eq_none hj, List.getElem?_eq_none (by omega)]⟩, by (refine ⟨rfl, rfl, ?_, ?_⟩ <;> repeat' (first | exact True.intro | rfl | decide | (refine And.intro ?_ ?_)))⟩ ?_
    intro n ⟨hn, he⟩
    have l1 := fun (m : Nat) => dcmp_lt m xs ys hx hy
    have l2 := fun (m : Nat) => dcmp_lt m ys xs hy hx
    ((conv => whnf); repeat' (first | (refine And.intro ?_ ?_; (focus (first | rfl | decide | assumption | omega | decide +kernel | exact ⟨rfl, rfl⟩ | exact ⟨rfl, rfl, rfl, rfl⟩ | exact fun h => Bool.noConfusion h | exact fun _ => rfl | exact Nat.le_of_ble_eq_true rfl | (simp only [List.length_map, List.length_append, List.length_replicate, List.length_take, List.length_drop, List.length_set, List.length_cons, List.length_nil]; omega))); (conv => whnf)) | ((refine And.intro ?_ ?_ <;> intro _h); all_goals ((first | replace _h := of_decide_eq_true _h | replace _h := of_decide_eq_false _h | skip); (try simp only [Bool.not_eq_true', Bool.not_eq_false', Bool.not_true, Bool.not_false, decide_eq_true_eq, decide_eq_false_iff_not] at _h); (try (guard_hyp _h : True; clear _h)); first | done | contradiction | exact absurd ((Eq.symm _h).trans (show _ = true by assumption)) (by decide) | exact absurd ((Eq.symm _h).trans (show _ = false by assumption)) (by decide) | (conv => whnf))) | (intro _h; ((first | replace _h := of_decide_eq_true _h | replace _h := of_decide_eq_false _h | skip); (try simp only [Bool.not_eq_true', Bool.not_eq_false', Bool.not_true, Bool.not_false, decide_eq_true_eq, decide_eq_false_iff_not] at _h); (try (guard_hyp _h : True; clear _h)); first | done | contradiction | exact absurd ((Eq.symm _h).trans (show _ = true by assumption)) (by decide) | exact absurd ((Eq.symm _h).trans (show _ = false by assumption)) (by decide) | (conv => whnf)))))
    · obtain ⟨m, rfl⟩ : ∃ m, n = m + 1 := ⟨n - 1, by omega⟩
      have em : ((m + 1 : Nat) : Int) - 1 = m := by omega
      rw [em, Int.toNat_natCast] at _h
      have := l1 m _h fun j hj => he j hj
      refine Ends.imm rfl (di ?_)
      unfold sgn; rw [if_pos this]
    · obtain ⟨m, rfl⟩ : ∃ m, n = m + 1 := ⟨n - 1, by omega⟩
      have em : ((m + 1 : Nat) : Int) - 1 = m := by omega
      rw [em, Int.toNat_natCast] at _h
      have := l2 m _h fun j hj => (he j hj).symm
      refine Ends.imm rfl (di ?_)
      unfold sgn; rw [if_neg (by omega), if_pos this]
    · obtain ⟨m, rfl⟩ : ∃ m, n = m + 1 := ⟨n - 1, by omega⟩
      have em : ((m + 1 : Nat) : Int) - 1 = m := by omega
      rename_i h1
      rw [em, Int.toNat_natCast] at _h h1
      refine ⟨m, [], by omega, ⟨by omega, fun j hj => ?_⟩, rfl, ?_⟩
      · rcases Nat.lt_or_ge m j with h | h
        · exact he j h
        · have : j = m := by omega
          subst this; omega
      · (refine ⟨rfl, rfl, ?_, ?_⟩ <;> repeat' (first | exact True.intro | rfl | decide | (refine And.intro ?_ ?_)))
        refine di ?_
        rw [em, wrap_i64 (by omega) (by omega)]
    · refine Ends.imm rfl (di ?_)
      have : n = 0 := by omega
      subst this
      rw [dval_ext xs.length xs ys (Nat.le_refl _) (by omega) fun j => he j (by omega)]
      simp [sgn]

theorem dpw_two (n : Nat) : dpw n = 2 ^ (8 * n) := by
  unfold dpw
  rw [Int.pow_mul]
  rfl

theorem pw_two (n : Nat) : pw n = 2 ^ (32 * n) := by
  unfold pw
  rw [Int.pow_mul]
  rfl
theorem dpw_four (n : Nat) : dpw (4 * n) = pw n := by
  rw [dpw_two, pw_two]; congr 1; omega

theorem val_take_succ {m : List Int} {i : Nat} (h : i < m.length) : val (m.take (i + 1)) = val (m.take i) + pw i * m.getD i 0 := by
  rw [take_snoc h, val_snoc, List.length_take, Nat.min_eq_left (by omega)]

/-- What 'Trim' leaves. -/
theorem f29' (xs : List Int) (hx : wfd xs) (hl : xs.length ≤ 1000000) : Imm Tryz.prog 46 [.d (digs xs)] (fun r => ∃ zs, r = .d (digs zs) ∧ zs.length ≤ xs.length ∧ wfd zs ∧ trimmed zs ∧ dval zs = dval xs) := by
  refine (f29 xs hl).mono fun r ⟨n, h1, h2, h3, h4⟩ => ⟨xs.take n, h1, by simp; omega, hx.take n, ?_, dval_take h3⟩
  rcases h4 with h4 | h4
  · subst h4; left; simp
  · right
    rw [List.length_take, Nat.min_eq_left h2, List.getD_eq_getElem?_getD, List.getElem?_take]
    rcases Nat.eq_zero_or_pos n with h0 | h0
    · subst h0; exact (h4 (h3 0 (by omega))).elim
    · rw [if_pos (by omega), ← List.getD_eq_getElem?_getD]; exact h4

def told12 : AW.Told := ⟨fun _ => false, fun r i => if r == 11 && i == 1 then [29] else [], fun _ => .done⟩

theorem dval_set : ∀ (xs : List Int) (j : Nat) (v : Int), j < xs.length → dval (xs.set j v) = dval xs + dpw j * (v - xs.getD j 0)
  | [], j, v, h => by simp at h
  | x :: xs, 0, v, _ => by simp [dval, dpw_zero]; omega
  | x :: xs, j + 1, v, h => by
    have ih := dval_set xs j v (by simpa using h)
    simp only [List.set_cons_succ, dval, ih, List.getD_cons_succ, dpw_succ]
    grind

theorem dval_take_all (b : List Int) {k : Nat} (h : b.length ≤ k) : dval (b.take k) = dval b := by rw [List.take_of_length_le h]

/-- A product's place, a digit further. -/
theorem mul_dig {o A B ai Tk bk c x p pi q : Int} (h : o + p * c = A * B + pi * (ai * Tk)) (hp : p = pi * q) (oj : Int) (hx : x = oj + c + ai * bk) :
    o + p * (x % 256 - oj) + p * 256 * (x / 256) = A * B + pi * (ai * (Tk + q * bk)) := by
  have e : x % 256 = x - 256 * (x / 256) := by omega
  rw [e]
  generalize x / 256 = y
  subst hx
  subst hp
  grind

def told20 : AW.Told := ⟨fun _ => false, fun r i => if r == 14 && i == 1 then [65] else [], fun r => if r == 11 then .take 0 (.take 1 (.take 2 (.take 3 (.take 4 (.take 5 (.take 6 (.take 7 (.take 8 (.take 9 (.take 10 (.take 11 .done))))))))))) else .done⟩

theorem f20 (a b : List Int) (ha : wfd a) (hb : wfd b) (hs : a.length + b.length ≤ 100000) :
    Imm Tryz.prog 30 [.d (digs a), .d (digs b)] (fun r => ∃ zs, r = .d (digs zs) ∧ zs.length ≤ a.length + b.length + 1 ∧ wfd zs ∧ trimmed zs ∧ dval zs = dval a * dval b) := by
  have w1 : IntKind.i64.wrap (IntKind.i64.wrap ((a.length : Int) + b.length) + 1) = ((a.length + b.length + 1 : Nat) : Int) := by
    rw [wrap_i64 (n := (a.length : Int) + b.length) (by omega) (by omega), wrap_i64 (by omega) (by omega)]; rfl
  (refine Imm.of_awp told20 [] Tryz.func30 rfl (by decide) (Nat.le_of_ble_eq_true rfl) ?_; intro _w0 _S0 _E0 _B0; ((conv => whnf); repeat' (first | (refine And.intro ?_ ?_; (focus (first | rfl | decide | assumption | omega | decide +kernel | exact ⟨rfl, rfl⟩ | exact ⟨rfl, rfl, rfl, rfl⟩ | exact fun h => Bool.noConfusion h | exact fun _ => rfl | exact Nat.le_of_ble_eq_true rfl | (simp only [List.length_map, List.length_append, List.length_replicate, List.length_take, List.length_drop, List.length_set, List.length_cons, List.length_nil]; omega))); (conv => whnf)) | ((refine And.intro ?_ ?_ <;> intro _h); all_goals ((first | replace _h := of_decide_eq_true _h | replace _h := of_decide_eq_false _h | skip); (try simp only [Bool.not_eq_true', Bool.not_eq_false', Bool.not_true, Bool.not_false, decide_eq_true_eq, decide_eq_false_iff_not] at _h); (try (guard_hyp _h : True; clear _h)); first | done | contradiction | exact absurd ((Eq.symm _h).trans (show _ = true by assumption)) (by decide) | exact absurd ((Eq.symm _h).trans (show _ = false by assumption)) (by decide) | (conv => whnf))) | (intro _h; ((first | replace _h := of_decide_eq_true _h | replace _h := of_decide_eq_false _h | skip); (try simp only [Bool.not_eq_true', Bool.not_eq_false', Bool.not_true, Bool.not_false, decide_eq_true_eq, decide_eq_false_iff_not] at _h); (try (guard_hyp _h : True; clear _h)); first | done | contradiction | exact absurd ((Eq.symm _h).trans (show _ = true by assumption)) (by decide) | exact absurd ((Eq.symm _h).trans (show _ = false by assumption)) (by decide) | (conv => whnf))))))
  rw [w1]
  ((conv => whnf); repeat' (first | (refine And.intro ?_ ?_; (focus (first | rfl | decide | assumption | omega | decide +kernel | exact ⟨rfl, rfl⟩ | exact ⟨rfl, rfl, rfl, rfl⟩ | exact fun h => Bool.noConfusion h | exact fun _ => rfl | exact Nat.le_of_ble_eq_true rfl | (simp only [List.length_map, List.length_append, List.length_replicate, List.length_take, List.length_drop, List.length_set, List.length_cons, List.length_nil]; omega))); (conv => whnf)) | ((refine And.intro ?_ ?_ <;> intro _h); all_goals ((first | replace _h := of_decide_eq_true _h | replace _h := of_decide_eq_false _h | skip); (try simp only [Bool.not_eq_true', Bool.not_eq_false', Bool.not_true, Bool.not_false, decide_eq_true_eq, decide_eq_false_iff_not] at _h); (try (guard_hyp _h : True; clear _h)); first | done | contradiction | exact absurd ((Eq.symm _h).trans (show _ = true by assumption)) (by decide) | exact absurd ((Eq.symm _h).trans (show _ = false by assumption)) (by decide) | (conv => whnf))) | (intro _h; ((first | replace _h := of_decide_eq_true _h | replace _h := of_decide_eq_false _h | skip); (try simp only [Bool.not_eq_true', Bool.not_eq_false', Bool.not_true, Bool.not_false, decide_eq_true_eq, decide_eq_false_iff_not] at _h); (try (guard_hyp _h : True; clear _h)); first | done | contradiction | exact absurd ((Eq.symm _h).trans (show _ = true by assumption)) (by decide) | exact absurd ((Eq.symm _h).trans (show _ = false by assumption)) (by decide) | (conv => whnf)))))
  refine aloop (T := told20) (ι := Nat × List Int) (fun p => [(0, .d (digs a)), (1, .d (digs b)), (5, .own 0), (6, i64 p.1)]) (fun p => [(0, .row .i64 3 p.2)]) 67 1
    (fun p => a.length - p.1) (fun p => p.1 ≤ a.length ∧ p.2.length = a.length + b.length + 1 ∧ wfd p.2 ∧ dval p.2 = dval (a.take p.1) * dval b)
    ⟨(0, List.replicate (a.length + b.length + 1) 0), [0], rfl, ⟨by omega, by simp, fun x hx => by simp at hx; omega, by rw [dval_zeros _ fun x hx => by simp at hx; omega]; simp [dval]⟩, by (refine ⟨rfl, rfl, ?_, ?_⟩ <;> repeat' (first | exact True.intro | rfl | decide | (refine And.intro ?_ ?_)))⟩ ?_
  intro ⟨i, o⟩ ⟨hi, hol, ho, hv⟩
  dsimp only at hi hol ho hv ⊢
  have hai := ha.get i
  ((conv => whnf); repeat' (first | (refine And.intro ?_ ?_; (focus (first | rfl | decide | assumption | omega | decide +kernel | exact ⟨rfl, rfl⟩ | exact ⟨rfl, rfl, rfl, rfl⟩ | exact fun h => Bool.noConfusion h | exact fun _ => rfl | exact Nat.le_of_ble_eq_true rfl | (simp only [List.length_map, List.length_append, List.length_replicate, List.length_take, List.length_drop, List.length_set, List.length_cons, List.length_nil]; omega))); (conv => whnf)) | ((refine And.intro ?_ ?_ <;> intro _h); all_goals ((first | replace _h := of_decide_eq_true _h | replace _h := of_decide_eq_false _h | skip); (try simp only [Bool.not_eq_true', Bool.not_eq_false', Bool.not_true, Bool.not_false, decide_eq_true_eq, decide_eq_false_iff_not] at _h); (try (guard_hyp _h : True; clear _h)); first | done | contradiction | exact absurd ((Eq.symm _h).trans (show _ = true by assumption)) (by decide) | exact absurd ((Eq.symm _h).trans (show _ = false by assumption)) (by decide) | (conv => whnf))) | (intro _h; ((first | replace _h := of_decide_eq_true _h | replace _h := of_decide_eq_false _h | skip); (try simp only [Bool.not_eq_true', Bool.not_eq_false', Bool.not_true, Bool.not_false, decide_eq_true_eq, decide_eq_false_iff_not] at _h); (try (guard_hyp _h : True; clear _h)); first | done | contradiction | exact absurd ((Eq.symm _h).trans (show _ = true by assumption)) (by decide) | exact absurd ((Eq.symm _h).trans (show _ = false by assumption)) (by decide) | (conv => whnf)))))
  · refine aloop (T := told20) (ι := Nat × List Int × Int) (fun p => [(0, .d (digs a)), (1, .d (digs b)), (5, .own 0), (6, i64 i), (7, i64 p.2.2), (8, i64 p.1)]) (fun p => [(0, .row .i64 3 p.2.1)]) 67 1
      (fun p => b.length + 2 - p.1) (fun p => p.1 ≤ b.length + 1 ∧ p.2.1.length = a.length + b.length + 1 ∧ wfd p.2.1 ∧ (0 ≤ p.2.2 ∧ p.2.2 < 256) ∧ dval p.2.1 + dpw (i + p.1) * p.2.2 = dval (a.take i) * dval b + dpw i * (a.getD i 0 * dval (b.take p.1)))
      ⟨(0, o, 0), [0], rfl, ⟨by omega, hol, ho, by dsimp only; omega, by simpa [dval] using hv⟩, by (refine ⟨rfl, rfl, ?_, ?_⟩ <;> repeat' (first | exact True.intro | rfl | decide | (refine And.intro ?_ ?_)))⟩ ?_
    intro ⟨k, ys, c⟩ ⟨hk, hyl, hy, hc, hw⟩
    dsimp only at hk hyl hy hc hw ⊢
    have hbk := hb.get k
    have hi2 : i < a.length := by omega
    have wj : IntKind.i64.wrap ((i : Int) + k) = ((i + k : Nat) : Int) := by rw [wrap_i64 (by omega) (by omega)]; rfl
    have hover : b.length ≤ k → 0 < c → k = b.length := fun h1 h2 => by
      rw [dval_take_all b h1] at hw
      have h3 := dval_take_succ a i
      have h4 := dval_lt (ha.take (i + 1))
      rw [List.length_take, Nat.min_eq_left (by omega)] at h4
      have h5 := dval_lt hb
      have h6 := dval_nonneg hb
      have h7 := dval_nonneg hy
      have h8 : dval (a.take (i + 1)) * dval b ≤ dpw (i + 1) * dval b := Int.mul_le_mul_of_nonneg_right (by omega) h6
      have h9 : dpw (i + 1) * dval b < dpw (i + 1) * dpw b.length := Int.mul_lt_mul_of_pos_left h5 (dpw_pos _)
      rw [← dpw_add] at h9
      have h10 : dpw (i + k) * 1 ≤ dpw (i + k) * c := Int.mul_le_mul_of_nonneg_left (by omega) (by have := dpw_pos (i + k); omega)
      have h11 : dval (a.take (i + 1)) * dval b = dval (a.take i) * dval b + dpw i * (a.getD i 0 * dval b) := by rw [h3]; grind
      have h12 : dpw (i + k) < dpw (i + 1 + b.length) := by omega
      rcases Nat.lt_or_ge k (b.length + 1) with h | h
      · omega
      · have := dpw_le (show i + 1 + b.length ≤ i + k by omega)
        omega
    have hyj := hy.get (i + k)
    have wk : IntKind.i64.wrap ((k : Int) + 1) = ((k + 1 : Nat) : Int) := by rw [wrap_i64 (by omega) (by omega)]; rfl
    have step : ∀ (x t : Int), k ≤ b.length → x = ys.getD (i + k) 0 + c + a.getD i 0 * b.getD k 0 → x < 65536 → 0 ≤ x →
        ((ys.set (i + k) (x % 256)).length = a.length + b.length + 1 ∧ wfd (ys.set (i + k) (x % 256)) ∧ (0 ≤ x / 256 ∧ x / 256 < 256) ∧
        dval (ys.set (i + k) (x % 256)) + dpw (i + (k + 1)) * (x / 256) = dval (a.take i) * dval b + dpw i * (a.getD i 0 * dval (b.take (k + 1)))) := fun x t hkl hx hx1 hx0 => by
      refine ⟨by simpa using hyl, hy.set _ (by omega), by omega, ?_⟩
      rw [dval_set _ _ _ (by omega), dval_take_succ b k, ← Nat.add_assoc, dpw_succ]
      exact mul_dig hw (dpw_add i k) _ hx
    ((conv => whnf); repeat' (first | (refine And.intro ?_ ?_; (focus (first | rfl | decide | assumption | omega | decide +kernel | exact ⟨rfl, rfl⟩ | exact ⟨rfl, rfl, rfl, rfl⟩ | exact fun h => Bool.noConfusion h | exact fun _ => rfl | exact Nat.le_of_ble_eq_true rfl | (simp only [List.length_map, List.length_append, List.length_replicate, List.length_take, List.length_drop, List.length_set, List.length_cons, List.length_nil]; omega))); (conv => whnf)) | ((refine And.intro ?_ ?_ <;> intro _h); all_goals ((first | replace _h := of_decide_eq_true _h | replace _h := of_decide_eq_false _h | skip); (try simp only [Bool.not_eq_true', Bool.not_eq_false', Bool.not_true, Bool.not_false, decide_eq_true_eq, decide_eq_false_iff_not] at _h); (try (guard_hyp _h : True; clear _h)); first | done | contradiction | exact absurd ((Eq.symm _h).trans (show _ = true by assumption)) (by decide) | exact absurd ((Eq.symm _h).trans (show _ = false by assumption)) (by decide) | (conv => whnf))) | (intro _h; ((first | replace _h := of_decide_eq_true _h | replace _h := of_decide_eq_false _h | skip); (try simp only [Bool.not_eq_true', Bool.not_eq_false', Bool.not_true, Bool.not_false, decide_eq_true_eq, decide_eq_false_iff_not] at _h); (try (guard_hyp _h : True; clear _h)); first | done | contradiction | exact absurd ((Eq.symm _h).trans (show _ = true by assumption)) (by decide) | exact absurd ((Eq.symm _h).trans (show _ = false by assumption)) (by decide) | (conv => whnf)))))
    · rename_i hc0
      have hkb := hover (by omega) hc0
      have hb0 : b.getD k 0 = 0 := by rw [List.getD_eq_getElem?_getD, List.getElem?_eq_none (by omega)]; rfl
      have e1 : IntKind.i64.wrap (ys.getD (i + k) 0 + c) = ys.getD (i + k) 0 + c := wrap_i64 (by omega) (by omega)
      obtain ⟨k1, k2, k3, k4⟩ := step (ys.getD (i + k) 0 + c) 0 (by omega) (by rw [hb0]; omega) (by omega) (by omega)
      refine ⟨(k + 1, ys.set (i + k) ((ys.getD (i + k) 0 + c) % 256), (ys.getD (i + k) 0 + c) / 256), [0], by dsimp only; omega, ⟨by dsimp only; omega, k1, k2, k3, k4⟩, rfl, ?_⟩
      (refine ⟨rfl, rfl, ?_, ?_⟩ <;> repeat' (first | exact True.intro | rfl | decide | (refine And.intro ?_ ?_)))
      · refine di ?_
        rw [wj, Int.toNat_natCast, e1, Int.tdiv_eq_ediv_of_nonneg (by omega), wrap_i64 (by omega) (by omega)]
      · exact di wk
      · show some (Ob.row .i64 3 (ys.set (IntKind.i64.wrap ((i : Int) + k)).toNat ((IntKind.i64.wrap (ys.getD (IntKind.i64.wrap ((i : Int) + k)).toNat 0 + c)).tmod 256))) = some (Ob.row .i64 3 _)
        rw [wj, Int.toNat_natCast, e1, Int.tmod_eq_emod_of_nonneg (by omega)]
    · rename_i hkb
      have hc0 : c = 0 := by omega
      subst hc0
      refine ⟨(i + 1, ys), [0], by dsimp only; omega, ⟨by dsimp only; omega, hyl, hy, ?_⟩, rfl, ?_⟩
      · dsimp only
        rw [dval_take_all b (by omega)] at hw
        rw [dval_take_succ a i]
        grind
      · (refine ⟨rfl, rfl, ?_, ?_⟩ <;> repeat' (first | exact True.intro | rfl | decide | (refine And.intro ?_ ?_)))
        refine di ?_
        rw [wrap_i64 (by omega) (by omega)]; rfl
    · have m0 : 0 ≤ a.getD i 0 * b.getD k 0 := Int.mul_nonneg hai.1 hbk.1
      have m1 : a.getD i 0 * b.getD k 0 ≤ 255 * 255 := Int.mul_le_mul (by omega) (by omega) hbk.1 (by omega)
      have e1 : IntKind.i64.wrap (ys.getD (i + k) 0 + c) = ys.getD (i + k) 0 + c := wrap_i64 (by omega) (by omega)
      have e2 : IntKind.i64.wrap (a.getD i 0 * b.getD k 0) = a.getD i 0 * b.getD k 0 := wrap_i64 (by omega) (by omega)
      have e3 : IntKind.i64.wrap (ys.getD (i + k) 0 + c + a.getD i 0 * b.getD k 0) = ys.getD (i + k) 0 + c + a.getD i 0 * b.getD k 0 := wrap_i64 (by omega) (by omega)
      obtain ⟨k1, k2, k3, k4⟩ := step (ys.getD (i + k) 0 + c + a.getD i 0 * b.getD k 0) 0 (by omega) rfl (by omega) (by omega)
      refine ⟨(k + 1, ys.set (i + k) ((ys.getD (i + k) 0 + c + a.getD i 0 * b.getD k 0) % 256), (ys.getD (i + k) 0 + c + a.getD i 0 * b.getD k 0) / 256), [0], by dsimp only; omega, ⟨by dsimp only; omega, k1, k2, k3, k4⟩, rfl, ?_⟩
      (refine ⟨rfl, rfl, ?_, ?_⟩ <;> repeat' (first | exact True.intro | rfl | decide | (refine And.intro ?_ ?_)))
      · refine di ?_
        rw [wj, Int.toNat_natCast, Int.toNat_natCast, Int.toNat_natCast, e1, e2, e3, Int.tdiv_eq_ediv_of_nonneg (by omega), wrap_i64 (by omega) (by omega)]
      · exact di wk
      · show some (Ob.row .i64 3 (ys.set (IntKind.i64.wrap ((i : Int) + k)).toNat ((IntKind.i64.wrap (IntKind.i64.wrap (ys.getD (IntKind.i64.wrap ((i : Int) + k)).toNat 0 + c) + IntKind.i64.wrap (a.getD (i : Int).toNat 0 * b.getD (k : Int).toNat 0))).tmod 256))) = some (Ob.row .i64 3 _)
        rw [wj, Int.toNat_natCast, Int.toNat_natCast, Int.toNat_natCast, e1, e2, e3, Int.tmod_eq_emod_of_nonneg (by omega)]
  · have hia : i = a.length := by omega
    subst hia
    refine acallI (f29' o ho (by omega)) rfl fun r hr => ?_
    obtain ⟨ds, rfl, h1, h2, h3, h4⟩ := hr
    ((conv => whnf); repeat' (first | (refine And.intro ?_ ?_; (focus (first | rfl | decide | assumption | omega | decide +kernel | exact ⟨rfl, rfl⟩ | exact ⟨rfl, rfl, rfl, rfl⟩ | exact fun h => Bool.noConfusion h | exact fun _ => rfl | exact Nat.le_of_ble_eq_true rfl | (simp only [List.length_map, List.length_append, List.length_replicate, List.length_take, List.length_drop, List.length_set, List.length_cons, List.length_nil]; omega))); (conv => whnf)) | ((refine And.intro ?_ ?_ <;> intro _h); all_goals ((first | replace _h := of_decide_eq_true _h | replace _h := of_decide_eq_false _h | skip); (try simp only [Bool.not_eq_true', Bool.not_eq_false', Bool.not_true, Bool.not_false, decide_eq_true_eq, decide_eq_false_iff_not] at _h); (try (guard_hyp _h : True; clear _h)); first | done | contradiction | exact absurd ((Eq.symm _h).trans (show _ = true by assumption)) (by decide) | exact absurd ((Eq.symm _h).trans (show _ = false by assumption)) (by decide) | (conv => whnf))) | (intro _h; ((first | replace _h := of_decide_eq_true _h | replace _h := of_decide_eq_false _h | skip); (try simp only [Bool.not_eq_true', Bool.not_eq_false', Bool.not_true, Bool.not_false, decide_eq_true_eq, decide_eq_false_iff_not] at _h); (try (guard_hyp _h : True; clear _h)); first | done | contradiction | exact absurd ((Eq.symm _h).trans (show _ = true by assumption)) (by decide) | exact absurd ((Eq.symm _h).trans (show _ = false by assumption)) (by decide) | (conv => whnf)))))
    refine Ends.imm rfl ⟨ds, rfl, by omega, h2, h3, ?_⟩
    rw [h4, hv, dval_take_all a (Nat.le_refl _)]

end Go.Proofs.YtniaeiikdgbnfaaGreatDoor.R
namespace Go.Proofs.YtniaeiikdgbnfaaGreatDoor.R
open Go Go.RowKit Go.Proofs Go.Proofs.YtniaeiikdgbnfaaGreatDoor.AW
set_option linter.unusedSectionVars false
variable [Globs]
attribute [local go_sem] Oper.semAt_some
set_option maxRecDepth 100000
set_option linter.unusedSimpArgs false
set_option linter.unusedVariables false
set_option maxHeartbeats 4000000

theorem it49 (l b o b2 o2 c : Nat) (A : Option Addr) (xs : List Int) (J : Nat → World → Prop) (Jx : World → Prop) (W : World) (hl : xs.length ≤ LIM) (hA : 0 < xs.length → A = some ⟨b2, o2, none⟩)
   (hG : ∀ k W, J k W → W.cell? ⟨b, o, none⟩ = some (.slice A xs.length c) ∧ ∀ i, i < xs.length → W.cell? ⟨b2, o2 + i, none⟩ = some (.int .u32 (xs.getD i 0)))
   (hY : ∀ k W, k < xs.length → J k W → YieldAt (fence none) 0 Tryz.prog l #[.int .i64 ((xs.length : Int) - 1 - k), .int .u32 (xs.getD (xs.length - 1 - k) 0)] W fun e W' => (e = .returned (.bool true) ∧ J (k + 1) W') ∨ (e = .returned (.bool false) ∧ Jx W'))
   (h0 : J 0 W) : CallsIn Fence.wide 0 Tryz.prog 78 #[.func (.yield l) #[] #[], .pointer (some ⟨b, o, none⟩)] W fun e W' => (∃ v, e = .returned v) ∧ (J xs.length W' ∨ Jx W') := by
  unfold LIM at hl
  have hc := (hG 0 W h0).1
  refine callsIn_of_wp Tryz.func78 rfl trivial ?_ rfl
  simp only [Tryz.ntmps78, List.size_toArray, List.length_cons, List.length_nil, Nat.reduceAdd, Nat.reduceSub, Array.replicate_succ, Array.replicate_zero, List.push_toArray, List.append_toArray, List.nil_append, List.cons_append]
  gi_wp2
  clear hc
  gi_loopw [3] (fun i wr => ∃ k : Nat, k ≤ xs.length ∧ i = .int .i64 ((xs.length : Int) - 1 - k) ∧ J k wr) (fun i _ => (intOf i + 1).toNat)
  case atStart => exact ⟨0, Nat.zero_le _, by simp, h0⟩
  case round =>
    obtain ⟨k, hk, rfl, hJ⟩ := hrel
    by_cases hlt : k < xs.length
    · have hA' := hA (by omega)
      subst hA'
      have hc := (hG k _ hJ).1
      have hc2 := (hG k _ hJ).2 (xs.length - 1 - k) (by omega)
      obtain ⟨fn, tmps, assign, body, hy, hR⟩ := hY k _ hlt hJ
      have hn : ((xs.length : Int) - 1 - k).toNat = xs.length - 1 - k := by omega
      clear hG hY hA
      rw [List.getD_eq_getElem?_getD] at hc2 hy
      gi_wp2
      refine ⟨rfl, RoundIn.mono hR ?_⟩
      rintro e W' (⟨rfl, hJ'⟩ | ⟨rfl, hJ'⟩)
      · gi_wp2
        go_roundw
        case rel => exact ⟨k + 1, by omega, by simp; omega, hJ'⟩
        case measure => simp [intOf]; omega
      · gi_wp2
        exact bodyPost_ret (results_none rfl _ _ _) rfl ⟨⟨_, rfl⟩, .inr hJ'⟩
    · have : k = xs.length := by omega
      subst this
      gi_wp2
      go_end0
      exact ⟨⟨_, rfl⟩, .inl hJ⟩

/-- A range from the end to the beginning. -/
theorem ai49 (xs : List Int) : AIter Tryz.prog 78 [.ptr (nat xs)] xs.length (fun k => [.int .i64 ((xs.length : Int) - 1 - k), .int .u32 (xs.getD (xs.length - 1 - k) 0)]) := by
  refine ⟨⟨_, Tryz.func78, rfl, by decide⟩, fun w S lb h => ?_⟩
  simp only [RepAll, Rep] at h
  obtain ⟨c1, c2, e, ⟨b, o, rfl, hSb, vs, hcb, A, c, rfl, hle, hL, hwf, hne⟩, rfl⟩ := h
  have hlb : lb = #[.pointer (some ⟨b, o, none⟩)] := by apply Array.ext'; simpa using e
  subst hlb
  refine ⟨fun k => #[.int .i64 ((xs.length : Int) - 1 - k), .int .u32 (xs.getD (xs.length - 1 - k) 0)], fun k hk => ?_, fun l J Jx W hJg hJxg hG hY h0 => ?_⟩
  · have hm : xs.getD (xs.length - 1 - k) 0 ∈ xs := by
      rw [List.getD_eq_getElem?_getD, List.getElem?_eq_getElem (by omega)]
      exact List.getElem_mem _
    unfold LIM at hL
    simp only [List.map_cons, List.map_nil, VAll, VRel, Rep]
    exact ⟨_, _, rfl, ⟨_, ⟨rfl, wrap_i64 (by omega) (by omega)⟩, rfl⟩, _, _, rfl, ⟨_, ⟨rfl, hwf _ hm⟩, rfl⟩, rfl⟩
  · have hcell : ∀ W : World, (∀ b, S b → W.heap[b]? = w.heap[b]?) → W.cell? ⟨b, o, none⟩ = some (.slice A xs.length c) := fun W hW => by
      have := (Cells.keep hcb (hW b hSb)) 0 _ rfl
      simpa using this
    refine callsIn_fence.1 (?_ : CallsIn Fence.wide 0 _ _ _ _ _)
    by_cases h0' : xs = []
    · subst h0'
      exact it49 l b o 0 0 c A [] J Jx W (Nat.zero_le _) (fun h => by simp at h) (fun k W hJ => ⟨hcell W (hG k W hJ), fun i hi => by simp at hi⟩) hY h0
    · obtain ⟨b2, o2, rfl, hS2, hc2⟩ := hne h0'
      exact it49 l b o b2 o2 c _ xs J Jx W hL (fun _ => rfl) (fun k W hJ => ⟨hcell W (hG k W hJ), fun i hi => by
        refine (Cells.keep hc2 (hG k W hJ b2 hS2)) i _ ?_
        rw [List.getElem?_map, List.getElem?_eq_getElem hi, List.getD_eq_getElem?_getD, List.getElem?_eq_getElem hi]; rfl⟩) hY h0

theorem f38 (xs : List Int) : Imm Tryz.prog 58 [.d (nat xs)] (fun r => r = .d (.fn 78 [.ptr (nat xs)])) := by
  (refine Imm.of_awp (⟨fun _ => false, fun r i => if r == 1 && i == 0 then [1] else [], fun _ => .done⟩ : AW.Told) [] Tryz.func58 rfl (by decide) (Nat.le_of_ble_eq_true rfl) ?_; intro _w0 _S0 _E0 _B0; ((conv => whnf); repeat' (first | (refine And.intro ?_ ?_; (focus (first | rfl | decide | assumption | omega | decide +kernel | exact ⟨rfl, rfl⟩ | exact ⟨rfl, rfl, rfl, rfl⟩ | exact fun h => Bool.noConfusion h | exact fun _ => rfl | exact Nat.le_of_ble_eq_true rfl | (simp only [List.length_map, List.length_append, List.length_replicate, List.length_take, List.length_drop, List.length_set, List.length_cons, List.length_nil]; omega))); (conv => whnf)) | ((refine And.intro ?_ ?_ <;> intro _h); all_goals ((first | replace _h := of_decide_eq_true _h | replace _h := of_decide_eq_false _h | skip); (try simp only [Bool.not_eq_true', Bool.not_eq_false', Bool.not_true, Bool.not_false, decide_eq_true_eq, decide_eq_false_iff_not] at _h); (try (guard_hyp _h : True; clear _h)); first | done | contradiction | exact absurd ((Eq.symm _h).trans (show _ = true by assumption)) (by decide) | exact absurd ((Eq.symm _h).trans (show _ = false by assumption)) (by decide) | (conv => whnf))) | (intro _h; ((first | replace _h := of_decide_eq_true _h | replace _h := of_decide_eq_false _h | skip); (try simp only [Bool.not_eq_true', Bool.not_eq_false', Bool.not_true, Bool.not_false, decide_eq_true_eq, decide_eq_false_iff_not] at _h); (try (guard_hyp _h : True; clear _h)); first | done | contradiction | exact absurd ((Eq.symm _h).trans (show _ = true by assumption)) (by decide) | exact absurd ((Eq.symm _h).trans (show _ = false by assumption)) (by decide) | (conv => whnf))))))
  exact Ends.imm rfl rfl

/-- How many bits a number has. -/
def blen (v : Nat) : Nat := if v = 0 then 0 else Nat.log2 v + 1

theorem blen_le (v k : Nat) : blen v ≤ k ↔ v < 2 ^ k := by
  unfold blen
  split
  · rename_i h; subst h; simp; exact Nat.pow_pos (by omega)
  · rename_i h
    rw [Nat.add_one_le_iff]
    exact Nat.log2_lt h

theorem blen_eq {v k : Nat} (h1 : v < 2 ^ k) (h2 : ∀ j, k = j + 1 → 2 ^ j ≤ v) : blen v = k := by
  have := (blen_le v k).2 h1
  cases k with
  | zero => omega
  | succ j =>
    have h4 := h2 j rfl
    have : ¬ blen v ≤ j := fun h => by have := (blen_le v j).1 h; omega
    omega

theorem blen_spec {v : Nat} (h : 0 < v) : v < 2 ^ blen v ∧ 2 ^ (blen v - 1) ≤ v := by
  refine ⟨(blen_le v _).1 (Nat.le_refl _), ?_⟩
  have h1 : ¬ blen v = 0 := fun e => by have := (blen_le v 0).1 (by omega); simp at this; omega
  have h2 : ¬ blen v ≤ blen v - 1 := by omega
  rw [blen_le] at h2
  omega

theorem blen_div {v k : Nat} (h : 2 ^ k ≤ v) : blen v = blen (v / 2 ^ k) + k := by
  have hp : 0 < 2 ^ k := Nat.pow_pos (by omega)
  have hu : 0 < v / 2 ^ k := Nat.div_pos h hp
  obtain ⟨h1, h2⟩ := blen_spec hu
  have hb : blen (v / 2 ^ k) ≠ 0 := fun e => by rw [e] at h1; simp at h1; omega
  refine blen_eq ?_ fun j hj => ?_
  · rw [Nat.pow_add]
    exact (Nat.div_lt_iff_lt_mul hp).1 h1
  · have e : j = (blen (v / 2 ^ k) - 1) + k := by omega
    rw [e, Nat.pow_add]
    exact (Nat.le_div_iff_mul_le hp).1 h2

def tab8 : List Int := (List.range 256).map fun v => (blen v : Int)
theorem tab8_get {x : Int} (h0 : 0 ≤ x) (h1 : x < 256) : tab8.getD x.toNat 0 = blen x.toNat := by
  unfold tab8
  rw [List.getD_eq_getElem?_getD, List.getElem?_map, List.getElem?_range (by omega)]; rfl

theorem shr_at (x : Int) (h0 : 0 ≤ x) (h1 : x < 4294967296) (m : Int) (k : Nat) (hm : m = k) (hk : k ≤ 32) : x / 2 ^ min m.toNat (IntKind.bits .u32) = ((x.toNat / 2 ^ k : Nat) : Int) := by
  subst hm
  obtain ⟨n, rfl⟩ : ∃ n : Nat, x = n := ⟨x.toNat, by omega⟩
  rw [Int.toNat_natCast, Int.toNat_natCast, Nat.min_eq_left (by simp [IntKind.bits]; omega)]
  simp

theorem f39 (x : Int) (h0 : 0 ≤ x) (h1 : x < 4294967296) : Imm Tryz.prog 59 [u32 x] (fun r => r = i64 (blen x.toNat)) := by
  have e16 := shr_at x h0 h1 16 16 rfl (by omega)
  have e8 := shr_at x h0 h1 8 8 rfl (by omega)
  have e24 := shr_at (x.toNat / 2 ^ 16 : Nat) (by omega) (by omega) 8 8 rfl (by omega)
  have e0 : x = (x.toNat : Int) := by omega
  have fin : ∀ (y : Nat) (s : Int) (n : Nat) (T : List Int), T = tab8 → y < 256 → s = n → n ≤ 24 → blen x.toNat = blen y + n →
      IntKind.i64.wrap (s + IntKind.i64.wrap (T.getD (IntKind.u8.wrap (y : Int)).toNat 0)) = blen x.toNat := fun y s n T hT hy hs hn he => by
    have hw : IntKind.u8.wrap (y : Int) = y := wrap_in.2 ⟨by simp [loK], by simp [hiK]; omega⟩
    have hb := (blen_le y 8).2 (by omega)
    rw [hw, hT, tab8_get (by omega) (by omega), Int.toNat_natCast, wrap_i64 (n := (blen y : Int)) (by omega) (by omega), wrap_i64 (by omega) (by omega), he]
    omega
  have hw : ∀ y : Nat, y < 256 → IntKind.u8.wrap (y : Int) = y := fun y hy => wrap_in.2 ⟨by simp [loK], by simp [hiK]; omega⟩
  (refine Imm.of_awp told0 [] Tryz.func59 rfl (by decide) (Nat.le_of_ble_eq_true rfl) ?_; intro _w0 _S0 _E0 _B0; ((conv => whnf); repeat' (first | (refine And.intro ?_ ?_; (focus (first | rfl | decide | assumption | omega | decide +kernel | exact ⟨rfl, rfl⟩ | exact ⟨rfl, rfl, rfl, rfl⟩ | exact fun h => Bool.noConfusion h | exact fun _ => rfl | exact Nat.le_of_ble_eq_true rfl | (simp only [List.length_map, List.length_append, List.length_replicate, List.length_take, List.length_drop, List.length_set, List.length_cons, List.length_nil]; omega))); (conv => whnf)) | ((refine And.intro ?_ ?_ <;> intro _h); all_goals ((first | replace _h := of_decide_eq_true _h | replace _h := of_decide_eq_false _h | skip); (try simp only [Bool.not_eq_true', Bool.not_eq_false', Bool.not_true, Bool.not_false, decide_eq_true_eq, decide_eq_false_iff_not] at _h); (try (guard_hyp _h : True; clear _h)); first | done | contradiction | exact absurd ((Eq.symm _h).trans (show _ = true by assumption)) (by decide) | exact absurd ((Eq.symm _h).trans (show _ = false by assumption)) (by decide) | (conv => whnf))) | (intro _h; ((first | replace _h := of_decide_eq_true _h | replace _h := of_decide_eq_false _h | skip); (try simp only [Bool.not_eq_true', Bool.not_eq_false', Bool.not_true, Bool.not_false, decide_eq_true_eq, decide_eq_false_iff_not] at _h); (try (guard_hyp _h : True; clear _h)); first | done | contradiction | exact absurd ((Eq.symm _h).trans (show _ = true by assumption)) (by decide) | exact absurd ((Eq.symm _h).trans (show _ = false by assumption)) (by decide) | (conv => whnf))))))
  all_goals
    generalize hT : bytesOf _ = T
    have hT2 : T = tab8 := by rw [← hT]; decide +kernel
    clear hT
    have hTl : T.length = 256 := by rw [hT2]; decide +kernel
    have w1 : IntKind.i64.wrap (16 + 8) = 24 := by decide
    have w2 : IntKind.i64.wrap (0 + 8) = 8 := by decide
    rw [hTl]
  · rename_i h16
    simp only [e16, e24, Int.toNat_natCast] at _h ⊢
    have hy : x.toNat / 2 ^ 16 / 2 ^ 8 < 256 := by omega
    refine ⟨by rw [hw _ hy]; omega, by rw [hw _ hy]; omega, ?_⟩
    ((conv => whnf); repeat' (first | (refine And.intro ?_ ?_; (focus (first | rfl | decide | assumption | omega | decide +kernel | exact ⟨rfl, rfl⟩ | exact ⟨rfl, rfl, rfl, rfl⟩ | exact fun h => Bool.noConfusion h | exact fun _ => rfl | exact Nat.le_of_ble_eq_true rfl | (simp only [List.length_map, List.length_append, List.length_replicate, List.length_take, List.length_drop, List.length_set, List.length_cons, List.length_nil]; omega))); (conv => whnf)) | ((refine And.intro ?_ ?_ <;> intro _h); all_goals ((first | replace _h := of_decide_eq_true _h | replace _h := of_decide_eq_false _h | skip); (try simp only [Bool.not_eq_true', Bool.not_eq_false', Bool.not_true, Bool.not_false, decide_eq_true_eq, decide_eq_false_iff_not] at _h); (try (guard_hyp _h : True; clear _h)); first | done | contradiction | exact absurd ((Eq.symm _h).trans (show _ = true by assumption)) (by decide) | exact absurd ((Eq.symm _h).trans (show _ = false by assumption)) (by decide) | (conv => whnf))) | (intro _h; ((first | replace _h := of_decide_eq_true _h | replace _h := of_decide_eq_false _h | skip); (try simp only [Bool.not_eq_true', Bool.not_eq_false', Bool.not_true, Bool.not_false, decide_eq_true_eq, decide_eq_false_iff_not] at _h); (try (guard_hyp _h : True; clear _h)); first | done | contradiction | exact absurd ((Eq.symm _h).trans (show _ = true by assumption)) (by decide) | exact absurd ((Eq.symm _h).trans (show _ = false by assumption)) (by decide) | (conv => whnf)))))
    refine Ends.imm rfl (di (fin _ _ 24 T hT2 hy w1 (by omega) ?_))
    rw [blen_div (k := 16) (by omega), blen_div (k := 8) (v := x.toNat / 2 ^ 16) (by omega)]
  · rename_i h16
    simp only [e16, e24, Int.toNat_natCast] at _h ⊢
    have hy : x.toNat / 2 ^ 16 < 256 := by omega
    refine ⟨by rw [hw _ hy]; omega, by rw [hw _ hy]; omega, ?_⟩
    ((conv => whnf); repeat' (first | (refine And.intro ?_ ?_; (focus (first | rfl | decide | assumption | omega | decide +kernel | exact ⟨rfl, rfl⟩ | exact ⟨rfl, rfl, rfl, rfl⟩ | exact fun h => Bool.noConfusion h | exact fun _ => rfl | exact Nat.le_of_ble_eq_true rfl | (simp only [List.length_map, List.length_append, List.length_replicate, List.length_take, List.length_drop, List.length_set, List.length_cons, List.length_nil]; omega))); (conv => whnf)) | ((refine And.intro ?_ ?_ <;> intro _h); all_goals ((first | replace _h := of_decide_eq_true _h | replace _h := of_decide_eq_false _h | skip); (try simp only [Bool.not_eq_true', Bool.not_eq_false', Bool.not_true, Bool.not_false, decide_eq_true_eq, decide_eq_false_iff_not] at _h); (try (guard_hyp _h : True; clear _h)); first | done | contradiction | exact absurd ((Eq.symm _h).trans (show _ = true by assumption)) (by decide) | exact absurd ((Eq.symm _h).trans (show _ = false by assumption)) (by decide) | (conv => whnf))) | (intro _h; ((first | replace _h := of_decide_eq_true _h | replace _h := of_decide_eq_false _h | skip); (try simp only [Bool.not_eq_true', Bool.not_eq_false', Bool.not_true, Bool.not_false, decide_eq_true_eq, decide_eq_false_iff_not] at _h); (try (guard_hyp _h : True; clear _h)); first | done | contradiction | exact absurd ((Eq.symm _h).trans (show _ = true by assumption)) (by decide) | exact absurd ((Eq.symm _h).trans (show _ = false by assumption)) (by decide) | (conv => whnf)))))
    refine Ends.imm rfl (di (fin _ _ 16 T hT2 hy rfl (by omega) ?_))
    rw [blen_div (k := 16) (by omega)]
  · rename_i h16
    simp only [e8, Int.toNat_natCast] at _h ⊢
    have hy : x.toNat / 2 ^ 8 < 256 := by omega
    refine ⟨by rw [hw _ hy]; omega, by rw [hw _ hy]; omega, ?_⟩
    ((conv => whnf); repeat' (first | (refine And.intro ?_ ?_; (focus (first | rfl | decide | assumption | omega | decide +kernel | exact ⟨rfl, rfl⟩ | exact ⟨rfl, rfl, rfl, rfl⟩ | exact fun h => Bool.noConfusion h | exact fun _ => rfl | exact Nat.le_of_ble_eq_true rfl | (simp only [List.length_map, List.length_append, List.length_replicate, List.length_take, List.length_drop, List.length_set, List.length_cons, List.length_nil]; omega))); (conv => whnf)) | ((refine And.intro ?_ ?_ <;> intro _h); all_goals ((first | replace _h := of_decide_eq_true _h | replace _h := of_decide_eq_false _h | skip); (try simp only [Bool.not_eq_true', Bool.not_eq_false', Bool.not_true, Bool.not_false, decide_eq_true_eq, decide_eq_false_iff_not] at _h); (try (guard_hyp _h : True; clear _h)); first | done | contradiction | exact absurd ((Eq.symm _h).trans (show _ = true by assumption)) (by decide) | exact absurd ((Eq.symm _h).trans (show _ = false by assumption)) (by decide) | (conv => whnf))) | (intro _h; ((first | replace _h := of_decide_eq_true _h | replace _h := of_decide_eq_false _h | skip); (try simp only [Bool.not_eq_true', Bool.not_eq_false', Bool.not_true, Bool.not_false, decide_eq_true_eq, decide_eq_false_iff_not] at _h); (try (guard_hyp _h : True; clear _h)); first | done | contradiction | exact absurd ((Eq.symm _h).trans (show _ = true by assumption)) (by decide) | exact absurd ((Eq.symm _h).trans (show _ = false by assumption)) (by decide) | (conv => whnf)))))
    refine Ends.imm rfl (di (fin _ _ 8 T hT2 hy w2 (by omega) ?_))
    rw [blen_div (k := 8) (by omega)]
  · rename_i h16
    have hy : x.toNat < 256 := by omega
    rw [e0]
    refine ⟨by rw [hw _ hy]; omega, by rw [hw _ hy]; omega, ?_⟩
    ((conv => whnf); repeat' (first | (refine And.intro ?_ ?_; (focus (first | rfl | decide | assumption | omega | decide +kernel | exact ⟨rfl, rfl⟩ | exact ⟨rfl, rfl, rfl, rfl⟩ | exact fun h => Bool.noConfusion h | exact fun _ => rfl | exact Nat.le_of_ble_eq_true rfl | (simp only [List.length_map, List.length_append, List.length_replicate, List.length_take, List.length_drop, List.length_set, List.length_cons, List.length_nil]; omega))); (conv => whnf)) | ((refine And.intro ?_ ?_ <;> intro _h); all_goals ((first | replace _h := of_decide_eq_true _h | replace _h := of_decide_eq_false _h | skip); (try simp only [Bool.not_eq_true', Bool.not_eq_false', Bool.not_true, Bool.not_false, decide_eq_true_eq, decide_eq_false_iff_not] at _h); (try (guard_hyp _h : True; clear _h)); first | done | contradiction | exact absurd ((Eq.symm _h).trans (show _ = true by assumption)) (by decide) | exact absurd ((Eq.symm _h).trans (show _ = false by assumption)) (by decide) | (conv => whnf))) | (intro _h; ((first | replace _h := of_decide_eq_true _h | replace _h := of_decide_eq_false _h | skip); (try simp only [Bool.not_eq_true', Bool.not_eq_false', Bool.not_true, Bool.not_false, decide_eq_true_eq, decide_eq_false_iff_not] at _h); (try (guard_hyp _h : True; clear _h)); first | done | contradiction | exact absurd ((Eq.symm _h).trans (show _ = true by assumption)) (by decide) | exact absurd ((Eq.symm _h).trans (show _ = false by assumption)) (by decide) | (conv => whnf)))))
    refine Ends.imm rfl (di (fin _ _ 0 T hT2 hy rfl (by omega) ?_))
    rfl
end Go.Proofs.YtniaeiikdgbnfaaGreatDoor.R
namespace Go.Proofs.YtniaeiikdgbnfaaGreatDoor.R
open Go Go.RowKit Go.Proofs Go.Proofs.YtniaeiikdgbnfaaGreatDoor.AW
set_option linter.unusedSectionVars false
variable [Globs]
set_option maxRecDepth 100000
set_option linter.unusedSimpArgs false
set_option linter.unusedVariables false
set_option maxHeartbeats 4000000

theorem val_zero_of : ∀ (xs : List Int), (∀ j, xs.getD j 0 = 0) → val xs = 0
  | [], _ => rfl
  | x :: xs, h => by
    have h0 := h 0
    have ih := val_zero_of xs fun j => by have := h (j + 1); simpa using this
    simp at h0
    simp [val, ih, h0]

/-- The highest limb that isn't 0 says how many bits a number has. -/
theorem val_top (xs : List Int) (hx : wfl xs) (i : Nat) (hi : i < xs.length) (h : ∀ j, i + 1 ≤ j → xs.getD j 0 = 0) (hne : xs.getD i 0 ≠ 0) : blen (val xs).toNat = 32 * i + blen (xs.getD i 0).toNat := by
  have hg := hx.get i
  have e : val xs = val (xs.take i) + pw i * xs.getD i 0 := by
    rw [← val_take_succ hi]
    have := val_ext xs.length xs (xs.take (i + 1)) (Nat.le_refl _) (by simp; omega) fun j => by
      rcases Nat.lt_or_ge j (i + 1) with hj | hj
      · rw [List.getD_eq_getElem?_getD, List.getD_eq_getElem?_getD, List.getElem?_take, if_pos hj]
      · rw [h j hj, List.getD_eq_getElem?_getD, List.getElem?_take, if_neg (by omega)]; rfl
    exact this
  have h1 := val_lt (hx.take i)
  have h2 := val_nonneg (hx.take i)
  rw [List.length_take, Nat.min_eq_left (by omega)] at h1
  have hp := pw_pos i
  obtain ⟨b, hb⟩ : ∃ b : Nat, xs.getD i 0 = b := ⟨(xs.getD i 0).toNat, by omega⟩
  rw [hb] at e hg ⊢
  rw [Int.toNat_natCast]
  obtain ⟨p, hpp⟩ : ∃ p : Nat, pw i = p := ⟨(pw i).toNat, by omega⟩
  obtain ⟨a, ha⟩ : ∃ a : Nat, val (xs.take i) = a := ⟨(val (xs.take i)).toNat, by omega⟩
  have hp2 : p = 2 ^ (32 * i) := by
    have := pw_two i
    rw [hpp] at this
    exact_mod_cast this
  rw [ha, hpp] at e
  rw [ha, hpp] at h1
  have hv : (val xs).toNat = a + p * b := by rw [e]; have : ((a : Int) + p * b) = ((a + p * b : Nat) : Int) := by push_cast; rfl
                                             rw [this, Int.toNat_natCast]
  rw [hv]
  have hb1 : 1 ≤ b := by omega
  have hap : a < p := by omega
  have hle : 2 ^ (32 * i) ≤ a + p * b := by
    rw [← hp2]
    have : p * 1 ≤ p * b := Nat.mul_le_mul_left p hb1
    omega
  rw [blen_div hle, ← hp2, Nat.add_mul_div_left _ _ (by omega), Nat.div_eq_of_lt hap, Nat.zero_add]
  exact Nat.add_comm _ _

def told24 : AW.Told := ⟨fun _ => false, fun r i => if r == 1 && i == 2 then [6] else [], fun _ => .done⟩

theorem f24 (xs : List Int) (hx : wfl xs) : Imm Tryz.prog 37 [.d (nat xs)] (fun r => r = i64 (if bad xs then 0 else blen (val xs).toNat)) := by
  (refine Imm.of_awp told24 [] Tryz.func37 rfl (by decide) (Nat.le_of_ble_eq_true rfl) ?_; intro _w0 _S0 _E0 _B0; ((conv => whnf); repeat' (first | (refine And.intro ?_ ?_; (focus (first | rfl | decide | assumption | omega | decide +kernel | exact ⟨rfl, rfl⟩ | exact ⟨rfl, rfl, rfl, rfl⟩ | exact fun h => Bool.noConfusion h | exact fun _ => rfl | exact Nat.le_of_ble_eq_true rfl | (simp only [List.length_map, List.length_append, List.length_replicate, List.length_take, List.length_drop, List.length_set, List.length_cons, List.length_nil]; omega))); (conv => whnf)) | ((refine And.intro ?_ ?_ <;> intro _h); all_goals ((first | replace _h := of_decide_eq_true _h | replace _h := of_decide_eq_false _h | skip); (try simp only [Bool.not_eq_true', Bool.not_eq_false', Bool.not_true, Bool.not_false, decide_eq_true_eq, decide_eq_false_iff_not] at _h); (try (guard_hyp _h : True; clear _h)); first | done | contradiction | exact absurd ((Eq.symm _h).trans (show _ = true by assumption)) (by decide) | exact absurd ((Eq.symm _h).trans (show _ = false by assumption)) (by decide) | (conv => whnf))) | (intro _h; ((first | replace _h := of_decide_eq_true _h | replace _h := of_decide_eq_false _h | skip); (try simp only [Bool.not_eq_true', Bool.not_eq_false', Bool.not_true, Bool.not_false, decide_eq_true_eq, decide_eq_false_iff_not] at _h); (try (guard_hyp _h : True; clear _h)); first | done | contradiction | exact absurd ((Eq.symm _h).trans (show _ = true by assumption)) (by decide) | exact absurd ((Eq.symm _h).trans (show _ = false by assumption)) (by decide) | (conv => whnf))))))
  refine acallI (f35 [xs]) rfl fun r hr => ?_
  subst hr
  ((conv => whnf); repeat' (first | (refine And.intro ?_ ?_; (focus (first | rfl | decide | assumption | omega | decide +kernel | exact ⟨rfl, rfl⟩ | exact ⟨rfl, rfl, rfl, rfl⟩ | exact fun h => Bool.noConfusion h | exact fun _ => rfl | exact Nat.le_of_ble_eq_true rfl | (simp only [List.length_map, List.length_append, List.length_replicate, List.length_take, List.length_drop, List.length_set, List.length_cons, List.length_nil]; omega))); (conv => whnf)) | ((refine And.intro ?_ ?_ <;> intro _h); all_goals ((first | replace _h := of_decide_eq_true _h | replace _h := of_decide_eq_false _h | skip); (try simp only [Bool.not_eq_true', Bool.not_eq_false', Bool.not_true, Bool.not_false, decide_eq_true_eq, decide_eq_false_iff_not] at _h); (try (guard_hyp _h : True; clear _h)); first | done | contradiction | exact absurd ((Eq.symm _h).trans (show _ = true by assumption)) (by decide) | exact absurd ((Eq.symm _h).trans (show _ = false by assumption)) (by decide) | (conv => whnf))) | (intro _h; ((first | replace _h := of_decide_eq_true _h | replace _h := of_decide_eq_false _h | skip); (try simp only [Bool.not_eq_true', Bool.not_eq_false', Bool.not_true, Bool.not_false, decide_eq_true_eq, decide_eq_false_iff_not] at _h); (try (guard_hyp _h : True; clear _h)); first | done | contradiction | exact absurd ((Eq.symm _h).trans (show _ = true by assumption)) (by decide) | exact absurd ((Eq.symm _h).trans (show _ = false by assumption)) (by decide) | (conv => whnf)))))
  · simp at _h
    exact Ends.imm rfl (by rw [if_pos _h])
  · simp at _h
    have hbx := _h
    unfold bad at hbx
    simp at hbx
    rw [_h]
    refine acallI (f38 xs) rfl fun r hr => ?_
    subst hr
    ((conv => whnf); repeat' (first | (refine And.intro ?_ ?_; (focus (first | rfl | decide | assumption | omega | decide +kernel | exact ⟨rfl, rfl⟩ | exact ⟨rfl, rfl, rfl, rfl⟩ | exact fun h => Bool.noConfusion h | exact fun _ => rfl | exact Nat.le_of_ble_eq_true rfl | (simp only [List.length_map, List.length_append, List.length_replicate, List.length_take, List.length_drop, List.length_set, List.length_cons, List.length_nil]; omega))); (conv => whnf)) | ((refine And.intro ?_ ?_ <;> intro _h); all_goals ((first | replace _h := of_decide_eq_true _h | replace _h := of_decide_eq_false _h | skip); (try simp only [Bool.not_eq_true', Bool.not_eq_false', Bool.not_true, Bool.not_false, decide_eq_true_eq, decide_eq_false_iff_not] at _h); (try (guard_hyp _h : True; clear _h)); first | done | contradiction | exact absurd ((Eq.symm _h).trans (show _ = true by assumption)) (by decide) | exact absurd ((Eq.symm _h).trans (show _ = false by assumption)) (by decide) | (conv => whnf))) | (intro _h; ((first | replace _h := of_decide_eq_true _h | replace _h := of_decide_eq_false _h | skip); (try simp only [Bool.not_eq_true', Bool.not_eq_false', Bool.not_true, Bool.not_false, decide_eq_true_eq, decide_eq_false_iff_not] at _h); (try (guard_hyp _h : True; clear _h)); first | done | contradiction | exact absurd ((Eq.symm _h).trans (show _ = true by assumption)) (by decide) | exact absurd ((Eq.symm _h).trans (show _ = false by assumption)) (by decide) | (conv => whnf)))))
    refine AWp.rangeFunc told24 (ai49 xs) (ι := Int) [(0, .d (nat xs)), (2, .optr 0 0)] (fun v => [(0, .cell 3 [i64 v])]) 20 1 1 (fun k v => v = 0 ∧ ∀ j, xs.length ≤ j + k → xs.getD j 0 = 0)
      (fun e v => match e with
        | .ret => v = blen (val xs).toNat
        | _ => False) rfl rfl rfl (fun k hk => rfl) rfl rfl (Nat.zero_le _) (Nat.le_refl _) rfl
      ⟨0, [0], rfl, ⟨rfl, fun j hj => by rw [List.getD_eq_getElem?_getD, List.getElem?_eq_none (by omega)]; rfl⟩, by (refine ⟨rfl, rfl, ?_, ?_⟩ <;> repeat' (first | exact True.intro | rfl | decide | (refine And.intro ?_ ?_)))⟩ ?_ ?_ ?_ ?_
    · intro k v hk ⟨hv, hz⟩ _ _ _ _ _
      subst hv
      have hg := hx.get (xs.length - 1 - k)
      have hb := (blen_le (xs.getD (xs.length - 1 - k) 0).toNat 32).2 (by omega)
      ((conv => whnf); repeat' (first | (refine And.intro ?_ ?_; (focus (first | rfl | decide | assumption | omega | decide +kernel | exact ⟨rfl, rfl⟩ | exact ⟨rfl, rfl, rfl, rfl⟩ | exact fun h => Bool.noConfusion h | exact fun _ => rfl | exact Nat.le_of_ble_eq_true rfl | (simp only [List.length_map, List.length_append, List.length_replicate, List.length_take, List.length_drop, List.length_set, List.length_cons, List.length_nil]; omega))); (conv => whnf)) | ((refine And.intro ?_ ?_ <;> intro _h); all_goals ((first | replace _h := of_decide_eq_true _h | replace _h := of_decide_eq_false _h | skip); (try simp only [Bool.not_eq_true', Bool.not_eq_false', Bool.not_true, Bool.not_false, decide_eq_true_eq, decide_eq_false_iff_not] at _h); (try (guard_hyp _h : True; clear _h)); first | done | contradiction | exact absurd ((Eq.symm _h).trans (show _ = true by assumption)) (by decide) | exact absurd ((Eq.symm _h).trans (show _ = false by assumption)) (by decide) | (conv => whnf))) | (intro _h; ((first | replace _h := of_decide_eq_true _h | replace _h := of_decide_eq_false _h | skip); (try simp only [Bool.not_eq_true', Bool.not_eq_false', Bool.not_true, Bool.not_false, decide_eq_true_eq, decide_eq_false_iff_not] at _h); (try (guard_hyp _h : True; clear _h)); first | done | contradiction | exact absurd ((Eq.symm _h).trans (show _ = true by assumption)) (by decide) | exact absurd ((Eq.symm _h).trans (show _ = false by assumption)) (by decide) | (conv => whnf)))))
      · refine acallI (f39 _ hg.1 hg.2) rfl fun r hr => ?_
        subst hr
        ((conv => whnf); repeat' (first | (refine And.intro ?_ ?_; (focus (first | rfl | decide | assumption | omega | decide +kernel | exact ⟨rfl, rfl⟩ | exact ⟨rfl, rfl, rfl, rfl⟩ | exact fun h => Bool.noConfusion h | exact fun _ => rfl | exact Nat.le_of_ble_eq_true rfl | (simp only [List.length_map, List.length_append, List.length_replicate, List.length_take, List.length_drop, List.length_set, List.length_cons, List.length_nil]; omega))); (conv => whnf)) | ((refine And.intro ?_ ?_ <;> intro _h); all_goals ((first | replace _h := of_decide_eq_true _h | replace _h := of_decide_eq_false _h | skip); (try simp only [Bool.not_eq_true', Bool.not_eq_false', Bool.not_true, Bool.not_false, decide_eq_true_eq, decide_eq_false_iff_not] at _h); (try (guard_hyp _h : True; clear _h)); first | done | contradiction | exact absurd ((Eq.symm _h).trans (show _ = true by assumption)) (by decide) | exact absurd ((Eq.symm _h).trans (show _ = false by assumption)) (by decide) | (conv => whnf))) | (intro _h; ((first | replace _h := of_decide_eq_true _h | replace _h := of_decide_eq_false _h | skip); (try simp only [Bool.not_eq_true', Bool.not_eq_false', Bool.not_true, Bool.not_false, decide_eq_true_eq, decide_eq_false_iff_not] at _h); (try (guard_hyp _h : True; clear _h)); first | done | contradiction | exact absurd ((Eq.symm _h).trans (show _ = true by assumption)) (by decide) | exact absurd ((Eq.symm _h).trans (show _ = false by assumption)) (by decide) | (conv => whnf)))))
        refine ⟨blen (val xs).toNat, [0], rfl, rfl, rfl, ⟨by decide, ?_⟩, trivial⟩
        show some (Ob.cell 3 [i64 (IntKind.i64.wrap (IntKind.i64.wrap (32 * ((xs.length : Int) - 1 - k)) + blen (xs.getD (xs.length - 1 - k) 0).toNat))]) = some (Ob.cell 3 [i64 (blen (val xs).toNat)])
        rw [wrap_i64 (n := 32 * ((xs.length : Int) - 1 - k)) (by omega) (by omega), wrap_i64 (by omega) (by omega)]
        rw [val_top xs hx (xs.length - 1 - k) (by omega) (fun j hj => hz j (by omega)) _h]
        congr 4
        omega
      · exact ⟨0, [0], rfl, ⟨rfl, fun j hj => by
          rcases Nat.lt_or_ge j (xs.length - k) with h | h
          · have : j = xs.length - 1 - k := by omega
            subst this; exact _h
          · exact hz j (by omega)⟩, rfl, ⟨by decide, rfl⟩, trivial⟩
    · intro v ⟨hv, hz⟩
      subst hv
      ((conv => whnf); repeat' (first | (refine And.intro ?_ ?_; (focus (first | rfl | decide | assumption | omega | decide +kernel | exact ⟨rfl, rfl⟩ | exact ⟨rfl, rfl, rfl, rfl⟩ | exact fun h => Bool.noConfusion h | exact fun _ => rfl | exact Nat.le_of_ble_eq_true rfl | (simp only [List.length_map, List.length_append, List.length_replicate, List.length_take, List.length_drop, List.length_set, List.length_cons, List.length_nil]; omega))); (conv => whnf)) | ((refine And.intro ?_ ?_ <;> intro _h); all_goals ((first | replace _h := of_decide_eq_true _h | replace _h := of_decide_eq_false _h | skip); (try simp only [Bool.not_eq_true', Bool.not_eq_false', Bool.not_true, Bool.not_false, decide_eq_true_eq, decide_eq_false_iff_not] at _h); (try (guard_hyp _h : True; clear _h)); first | done | contradiction | exact absurd ((Eq.symm _h).trans (show _ = true by assumption)) (by decide) | exact absurd ((Eq.symm _h).trans (show _ = false by assumption)) (by decide) | (conv => whnf))) | (intro _h; ((first | replace _h := of_decide_eq_true _h | replace _h := of_decide_eq_false _h | skip); (try simp only [Bool.not_eq_true', Bool.not_eq_false', Bool.not_true, Bool.not_false, decide_eq_true_eq, decide_eq_false_iff_not] at _h); (try (guard_hyp _h : True; clear _h)); first | done | contradiction | exact absurd ((Eq.symm _h).trans (show _ = true by assumption)) (by decide) | exact absurd ((Eq.symm _h).trans (show _ = false by assumption)) (by decide) | (conv => whnf)))))
      refine Ends.imm rfl ?_
      rw [val_zero_of xs fun j => hz j (by omega)]
      rfl
    · intro v hv
      ((conv => whnf); repeat' (first | (refine And.intro ?_ ?_; (focus (first | rfl | decide | assumption | omega | decide +kernel | exact ⟨rfl, rfl⟩ | exact ⟨rfl, rfl, rfl, rfl⟩ | exact fun h => Bool.noConfusion h | exact fun _ => rfl | exact Nat.le_of_ble_eq_true rfl | (simp only [List.length_map, List.length_append, List.length_replicate, List.length_take, List.length_drop, List.length_set, List.length_cons, List.length_nil]; omega))); (conv => whnf)) | ((refine And.intro ?_ ?_ <;> intro _h); all_goals ((first | replace _h := of_decide_eq_true _h | replace _h := of_decide_eq_false _h | skip); (try simp only [Bool.not_eq_true', Bool.not_eq_false', Bool.not_true, Bool.not_false, decide_eq_true_eq, decide_eq_false_iff_not] at _h); (try (guard_hyp _h : True; clear _h)); first | done | contradiction | exact absurd ((Eq.symm _h).trans (show _ = true by assumption)) (by decide) | exact absurd ((Eq.symm _h).trans (show _ = false by assumption)) (by decide) | (conv => whnf))) | (intro _h; ((first | replace _h := of_decide_eq_true _h | replace _h := of_decide_eq_false _h | skip); (try simp only [Bool.not_eq_true', Bool.not_eq_false', Bool.not_true, Bool.not_false, decide_eq_true_eq, decide_eq_false_iff_not] at _h); (try (guard_hyp _h : True; clear _h)); first | done | contradiction | exact absurd ((Eq.symm _h).trans (show _ = true by assumption)) (by decide) | exact absurd ((Eq.symm _h).trans (show _ = false by assumption)) (by decide) | (conv => whnf)))))
      refine Ends.imm rfl ?_
      rw [hv]; rfl
    · intro id v hv
      exact hv.elim

/-- A ring under way, as an object. -/
abbrev ringOb (n : List Int) (n0 : Int) : Ob := .cell 71 [.d (nat n), u32 n0, .nls (nat [])]

def told41o : AW.Told := ⟨fun f => f == 61 || f == 39, fun _ _ => [], fun _ => .done⟩

theorem f41o (n : List Int) (n0 : Int) (x : List Int) (over : Bool) (hn : wfl n) (hx : wfl x) (hbn : bad n = false) (hl : x.length = n.length) :
    CSpec Tryz.prog 61 [.optr 0 0, .d (nat x), bool over] [(0, ringOb n n0)] 1 (fun st nx r => st = [(0, ringOb n n0)] ∧ nx = 1 ∧ ∃ z, r = .d (nat z) ∧ lessS n x over z) := by
  have hbx : bad x = false := by unfold bad at hbn ⊢; rw [hl]; exact hbn
  refine CSpec.ends (CSpec.of_awp told41o [] Tryz.func61 rfl (by decide) (Nat.le_of_ble_eq_true rfl) fun _w0 _S0 _E0 _B0 => ?_)
  ((conv => whnf); repeat' (first | (refine And.intro ?_ ?_; (focus (first | rfl | decide | assumption | omega | decide +kernel | exact ⟨rfl, rfl⟩ | exact ⟨rfl, rfl, rfl, rfl⟩ | exact fun h => Bool.noConfusion h | exact fun _ => rfl | exact Nat.le_of_ble_eq_true rfl | (simp only [List.length_map, List.length_append, List.length_replicate, List.length_take, List.length_drop, List.length_set, List.length_cons, List.length_nil]; omega))); (conv => whnf)) | ((refine And.intro ?_ ?_ <;> intro _h); all_goals ((first | replace _h := of_decide_eq_true _h | replace _h := of_decide_eq_false _h | skip); (try simp only [Bool.not_eq_true', Bool.not_eq_false', Bool.not_true, Bool.not_false, decide_eq_true_eq, decide_eq_false_iff_not] at _h); (try (guard_hyp _h : True; clear _h)); first | done | contradiction | exact absurd ((Eq.symm _h).trans (show _ = true by assumption)) (by decide) | exact absurd ((Eq.symm _h).trans (show _ = false by assumption)) (by decide) | (conv => whnf))) | (intro _h; ((first | replace _h := of_decide_eq_true _h | replace _h := of_decide_eq_false _h | skip); (try simp only [Bool.not_eq_true', Bool.not_eq_false', Bool.not_true, Bool.not_false, decide_eq_true_eq, decide_eq_false_iff_not] at _h); (try (guard_hyp _h : True; clear _h)); first | done | contradiction | exact absurd ((Eq.symm _h).trans (show _ = true by assumption)) (by decide) | exact absurd ((Eq.symm _h).trans (show _ = false by assumption)) (by decide) | (conv => whnf)))))
  refine acallI (f50 x n hx hn) rfl fun r hr => ?_
  rw [if_neg (by simp [hbx, hbn, hl])] at hr
  obtain ⟨zs, c, rfl, hzl, hz, hc, hv⟩ := hr
  ((conv => whnf); repeat' (first | (refine And.intro ?_ ?_; (focus (first | rfl | decide | assumption | omega | decide +kernel | exact ⟨rfl, rfl⟩ | exact ⟨rfl, rfl, rfl, rfl⟩ | exact fun h => Bool.noConfusion h | exact fun _ => rfl | exact Nat.le_of_ble_eq_true rfl | (simp only [List.length_map, List.length_append, List.length_replicate, List.length_take, List.length_drop, List.length_set, List.length_cons, List.length_nil]; omega))); (conv => whnf)) | ((refine And.intro ?_ ?_ <;> intro _h); all_goals ((first | replace _h := of_decide_eq_true _h | replace _h := of_decide_eq_false _h | skip); (try simp only [Bool.not_eq_true', Bool.not_eq_false', Bool.not_true, Bool.not_false, decide_eq_true_eq, decide_eq_false_iff_not] at _h); (try (guard_hyp _h : True; clear _h)); first | done | contradiction | exact absurd ((Eq.symm _h).trans (show _ = true by assumption)) (by decide) | exact absurd ((Eq.symm _h).trans (show _ = false by assumption)) (by decide) | (conv => whnf))) | (intro _h; ((first | replace _h := of_decide_eq_true _h | replace _h := of_decide_eq_false _h | skip); (try simp only [Bool.not_eq_true', Bool.not_eq_false', Bool.not_true, Bool.not_false, decide_eq_true_eq, decide_eq_false_iff_not] at _h); (try (guard_hyp _h : True; clear _h)); first | done | contradiction | exact absurd ((Eq.symm _h).trans (show _ = true by assumption)) (by decide) | exact absurd ((Eq.symm _h).trans (show _ = false by assumption)) (by decide) | (conv => whnf)))))
  · refine ⟨[0], [(0, ringOb n n0)], .d (nat zs), ⟨rfl, ⟨⟨by decide, rfl⟩, trivial⟩, rfl⟩, rfl, rfl, zs, rfl, by rw [hzl, hl], hz, ?_⟩
    have : c = 0 := by omega
    subst this
    rw [if_pos (.inr (by have := val_nonneg hz; omega)), ← hl, mod_of hz hzl hv]
  · refine ⟨[0], [(0, ringOb n n0)], .d (nat x), ⟨rfl, ⟨⟨by decide, rfl⟩, trivial⟩, rfl⟩, rfl, rfl, x, rfl, hl, hx, ?_⟩
    rw [if_neg]
    have h1 := val_lt hz
    rw [hzl] at h1
    have : over = false := by assumption
    subst this
    subst c
    simp; omega
  · refine ⟨[0], [(0, ringOb n n0)], .d (nat zs), ⟨rfl, ⟨⟨by decide, rfl⟩, trivial⟩, rfl⟩, rfl, rfl, zs, rfl, by rw [hzl, hl], hz, ?_⟩
    rw [if_pos (.inl (by assumption)), ← hl, mod_of hz hzl hv]

theorem f28o (n : List Int) (n0 : Int) (x : List Int) (hn : wfl n) (hx : wfl x) (hbn : bad n = false) (hl : x.length = n.length) (hv : val x < val n) :
    CSpec Tryz.prog 39 [.optr 0 0, .d (nat x)] [(0, ringOb n n0)] 1 (fun st nx r => st = [(0, ringOb n n0)] ∧ nx = 1 ∧ ∃ z, r = .d (nat z) ∧ z.length = n.length ∧ wfl z ∧ val z = (2 * val x) % val n) := by
  have hbx : bad x = false := by unfold bad at hbn ⊢; rw [hl]; exact hbn
  refine CSpec.ends (CSpec.of_awp told41o [] Tryz.func39 rfl (by decide) (Nat.le_of_ble_eq_true rfl) fun _w0 _S0 _E0 _B0 => ?_)
  ((conv => whnf); repeat' (first | (refine And.intro ?_ ?_; (focus (first | rfl | decide | assumption | omega | decide +kernel | exact ⟨rfl, rfl⟩ | exact ⟨rfl, rfl, rfl, rfl⟩ | exact fun h => Bool.noConfusion h | exact fun _ => rfl | exact Nat.le_of_ble_eq_true rfl | (simp only [List.length_map, List.length_append, List.length_replicate, List.length_take, List.length_drop, List.length_set, List.length_cons, List.length_nil]; omega))); (conv => whnf)) | ((refine And.intro ?_ ?_ <;> intro _h); all_goals ((first | replace _h := of_decide_eq_true _h | replace _h := of_decide_eq_false _h | skip); (try simp only [Bool.not_eq_true', Bool.not_eq_false', Bool.not_true, Bool.not_false, decide_eq_true_eq, decide_eq_false_iff_not] at _h); (try (guard_hyp _h : True; clear _h)); first | done | contradiction | exact absurd ((Eq.symm _h).trans (show _ = true by assumption)) (by decide) | exact absurd ((Eq.symm _h).trans (show _ = false by assumption)) (by decide) | (conv => whnf))) | (intro _h; ((first | replace _h := of_decide_eq_true _h | replace _h := of_decide_eq_false _h | skip); (try simp only [Bool.not_eq_true', Bool.not_eq_false', Bool.not_true, Bool.not_false, decide_eq_true_eq, decide_eq_false_iff_not] at _h); (try (guard_hyp _h : True; clear _h)); first | done | contradiction | exact absurd ((Eq.symm _h).trans (show _ = true by assumption)) (by decide) | exact absurd ((Eq.symm _h).trans (show _ = false by assumption)) (by decide) | (conv => whnf)))))
  refine acallI (f40 x x hx hx) rfl fun r hr => ?_
  rw [if_neg (by simp [hbx])] at hr
  obtain ⟨zs, c, rfl, hzl, hz, hc, hvz⟩ := hr
  ((conv => whnf); repeat' (first | (refine And.intro ?_ ?_; (focus (first | rfl | decide | assumption | omega | decide +kernel | exact ⟨rfl, rfl⟩ | exact ⟨rfl, rfl, rfl, rfl⟩ | exact fun h => Bool.noConfusion h | exact fun _ => rfl | exact Nat.le_of_ble_eq_true rfl | (simp only [List.length_map, List.length_append, List.length_replicate, List.length_take, List.length_drop, List.length_set, List.length_cons, List.length_nil]; omega))); (conv => whnf)) | ((refine And.intro ?_ ?_ <;> intro _h); all_goals ((first | replace _h := of_decide_eq_true _h | replace _h := of_decide_eq_false _h | skip); (try simp only [Bool.not_eq_true', Bool.not_eq_false', Bool.not_true, Bool.not_false, decide_eq_true_eq, decide_eq_false_iff_not] at _h); (try (guard_hyp _h : True; clear _h)); first | done | contradiction | exact absurd ((Eq.symm _h).trans (show _ = true by assumption)) (by decide) | exact absurd ((Eq.symm _h).trans (show _ = false by assumption)) (by decide) | (conv => whnf))) | (intro _h; ((first | replace _h := of_decide_eq_true _h | replace _h := of_decide_eq_false _h | skip); (try simp only [Bool.not_eq_true', Bool.not_eq_false', Bool.not_true, Bool.not_false, decide_eq_true_eq, decide_eq_false_iff_not] at _h); (try (guard_hyp _h : True; clear _h)); first | done | contradiction | exact absurd ((Eq.symm _h).trans (show _ = true by assumption)) (by decide) | exact absurd ((Eq.symm _h).trans (show _ = false by assumption)) (by decide) | (conv => whnf)))))
  refine acall [0] (f41o n n0 zs (decide (c = 1)) hn hz hbn (by omega)) rfl ⟨⟨by decide, rfl⟩, trivial⟩ rfl (fun h => Bool.noConfusion h) fun st nx r hr => ?_
  obtain ⟨rfl, rfl, z, rfl, hz1, hz2, hz3⟩ := hr
  ((conv => whnf); repeat' (first | (refine And.intro ?_ ?_; (focus (first | rfl | decide | assumption | omega | decide +kernel | exact ⟨rfl, rfl⟩ | exact ⟨rfl, rfl, rfl, rfl⟩ | exact fun h => Bool.noConfusion h | exact fun _ => rfl | exact Nat.le_of_ble_eq_true rfl | (simp only [List.length_map, List.length_append, List.length_replicate, List.length_take, List.length_drop, List.length_set, List.length_cons, List.length_nil]; omega))); (conv => whnf)) | ((refine And.intro ?_ ?_ <;> intro _h); all_goals ((first | replace _h := of_decide_eq_true _h | replace _h := of_decide_eq_false _h | skip); (try simp only [Bool.not_eq_true', Bool.not_eq_false', Bool.not_true, Bool.not_false, decide_eq_true_eq, decide_eq_false_iff_not] at _h); (try (guard_hyp _h : True; clear _h)); first | done | contradiction | exact absurd ((Eq.symm _h).trans (show _ = true by assumption)) (by decide) | exact absurd ((Eq.symm _h).trans (show _ = false by assumption)) (by decide) | (conv => whnf))) | (intro _h; ((first | replace _h := of_decide_eq_true _h | replace _h := of_decide_eq_false _h | skip); (try simp only [Bool.not_eq_true', Bool.not_eq_false', Bool.not_true, Bool.not_false, decide_eq_true_eq, decide_eq_false_iff_not] at _h); (try (guard_hyp _h : True; clear _h)); first | done | contradiction | exact absurd ((Eq.symm _h).trans (show _ = true by assumption)) (by decide) | exact absurd ((Eq.symm _h).trans (show _ = false by assumption)) (by decide) | (conv => whnf)))))
  exact ⟨[0], [(0, ringOb n n0)], .d (nat z), ⟨rfl, ⟨⟨by decide, rfl⟩, trivial⟩, rfl⟩, rfl, rfl, z, rfl, hz1, hz2, dbl hn hx hl hv hzl hz hc hvz hz1 hz2 hz3⟩

/-! ### An odd number's inverse -/
theorem inv_step {m y : Int} (j j' : Nat) (h : (m * y - 1) % 2 ^ j = 0) (h1 : j' ≤ 2 * j) (h2 : j' ≤ 32) :
    (m * ((y * ((2 - (m * y) % 4294967296) % 4294967296)) % 4294967296) - 1) % 2 ^ j' = 0 := by
  have hd : ∀ z : Int, ∃ q, z % 4294967296 = z - 4294967296 * q := fun z => ⟨z / 4294967296, by omega⟩
  obtain ⟨q1, e1⟩ := hd (m * y)
  obtain ⟨q2, e2⟩ := hd (2 - (m * y) % 4294967296)
  obtain ⟨q3, e3⟩ := hd (y * ((2 - (m * y) % 4294967296) % 4294967296))
  obtain ⟨t, ht⟩ : ∃ t, m * y - 1 = 2 ^ j * t := ⟨(m * y - 1) / 2 ^ j, by have := Int.mul_ediv_add_emod (m * y - 1) (2 ^ j); omega⟩
  obtain ⟨a, ha⟩ : ∃ a : Nat, 2 * j = j' + a := ⟨2 * j - j', by omega⟩
  obtain ⟨b, hb⟩ : ∃ b : Nat, 32 = j' + b := ⟨32 - j', by omega⟩
  have p1 : (2 : Int) ^ j * 2 ^ j = 2 ^ j' * 2 ^ a := by rw [← Int.pow_add, ← Int.pow_add, ← ha]; congr 1; omega
  have p2 : (4294967296 : Int) = 2 ^ j' * 2 ^ b := by rw [← Int.pow_add, ← hb]; rfl
  rw [e3, e2, e1]
  generalize (2 : Int) ^ j = P at *
  generalize (2 : Int) ^ j' = R at *
  generalize (2 : Int) ^ a = A at *
  generalize (2 : Int) ^ b = B at *
  generalize (4294967296 : Int) = W at *
  have : m * (y * (2 - (m * y - W * q1) - W * q2) - W * q3) - 1 = R * (-(A * t * t) + B * (m * y * q1 - m * y * q2 - m * q3)) := by
    have hm : m * y = 1 + P * t := by omega
    have e : m * (y * (2 - (m * y - W * q1) - W * q2) - W * q3) - 1 = (m * y) * (2 - (m * y)) - 1 + W * (m * y * q1 - m * y * q2 - m * q3) := by grind
    rw [e, p2, hm]
    have e4 : (1 + P * t) * (2 - (1 + P * t)) - 1 = -(P * P * (t * t)) := by grind
    rw [e4, p1]
    grind
  rw [this, Int.mul_emod_right]

def jj (k : Nat) : Nat := [3, 6, 12, 24, 32, 32].getD k 0
theorem jj_step {k : Nat} (h : k < 5) : jj (k + 1) ≤ 2 * jj k ∧ jj (k + 1) ≤ 32 := by
  have : ∀ k : Fin 5, jj (k.val + 1) ≤ 2 * jj k.val ∧ jj (k.val + 1) ≤ 32 := by decide
  exact this ⟨k, h⟩

def told11 : AW.Told := ⟨fun f => f == 39, fun r i => if r == 10 && i == 4 then [42] else if r == 13 && i == 0 then [6] else [], fun _ => .done⟩

theorem odd_sq {m : Int} (h : m % 2 = 1) : (m * m - 1) % 2 ^ 3 = 0 := by
  obtain ⟨k, rfl⟩ : ∃ k, m = 2 * k + 1 := ⟨m / 2, by omega⟩
  have e : (2 * k + 1) * (2 * k + 1) - 1 = 4 * (k * (k + 1)) := by grind
  obtain ⟨j, hj⟩ : ∃ j, k * (k + 1) = 2 * j := by
    rcases (show k % 2 = 0 ∨ k % 2 = 1 by omega) with h | h
    · exact ⟨(k / 2) * (k + 1), by have : k = 2 * (k / 2) := by omega
                                   generalize k / 2 = q at *; subst this; grind⟩
    · exact ⟨k * ((k + 1) / 2), by have : k + 1 = 2 * ((k + 1) / 2) := by omega
                                   generalize (k + 1) / 2 = q at *; rw [this]; grind⟩
  rw [e, hj]
  omega

theorem two_small {n : List Int} (hn : wfl n) : blen (val n).toNat < 2 ↔ val n < 2 := by
  have := blen_le (val n).toNat 1
  have := val_nonneg hn
  omega

theorem double_pow {x N : Int} {k : Nat} (h : x = 2 ^ k % N) : 2 * x % N = 2 ^ (k + 1) % N := by
  subst h
  rw [Int.pow_succ, Int.mul_comm, Int.mul_emod, Int.emod_emod_of_dvd _ (Int.dvd_refl _), ← Int.mul_emod]

theorem f11 (n : List Int) (hn : wfl n) : Imm Tryz.prog 18 [.d (nat n)] (fun r =>
    if n.length < 1 ∨ 128 < n.length then r = .tup [.d .nilp, i64 24]
    else if n.getD 0 0 % 2 = 0 ∨ val n < 2 then r = .tup [.d .nilp, i64 12]
    else ∃ n0 rr, r = .tup [.d (ringD n n0 rr), i64 0] ∧ Ring n n0 rr) := by
  have h00 := hn.get 0
  have ht : (n.getD 0 0).tmod 2 = n.getD 0 0 % 2 := Int.tmod_eq_emod_of_nonneg h00.1
  (refine Imm.of_awp told11 [5] Tryz.func18 rfl (by decide) (Nat.le_of_ble_eq_true rfl) ?_; intro _w0 _S0 _E0 _B0; ((conv => whnf); repeat' (first | (refine And.intro ?_ ?_; (focus (first | rfl | decide | assumption | omega | decide +kernel | exact ⟨rfl, rfl⟩ | exact ⟨rfl, rfl, rfl, rfl⟩ | exact fun h => Bool.noConfusion h | exact fun _ => rfl | exact Nat.le_of_ble_eq_true rfl | (simp only [List.length_map, List.length_append, List.length_replicate, List.length_take, List.length_drop, List.length_set, List.length_cons, List.length_nil]; omega))); (conv => whnf)) | ((refine And.intro ?_ ?_ <;> intro _h); all_goals ((first | replace _h := of_decide_eq_true _h | replace _h := of_decide_eq_false _h | skip); (try simp only [Bool.not_eq_true', Bool.not_eq_false', Bool.not_true, Bool.not_false, decide_eq_true_eq, decide_eq_false_iff_not] at _h); (try (guard_hyp _h : True; clear _h)); first | done | contradiction | exact absurd ((Eq.symm _h).trans (show _ = true by assumption)) (by decide) | exact absurd ((Eq.symm _h).trans (show _ = false by assumption)) (by decide) | (conv => whnf))) | (intro _h; ((first | replace _h := of_decide_eq_true _h | replace _h := of_decide_eq_false _h | skip); (try simp only [Bool.not_eq_true', Bool.not_eq_false', Bool.not_true, Bool.not_false, decide_eq_true_eq, decide_eq_false_iff_not] at _h); (try (guard_hyp _h : True; clear _h)); first | done | contradiction | exact absurd ((Eq.symm _h).trans (show _ = true by assumption)) (by decide) | exact absurd ((Eq.symm _h).trans (show _ = false by assumption)) (by decide) | (conv => whnf))))))
  · exact Ends.imm rfl (by rw [if_pos (.inr (by omega))])
  · rename_i h1 h2 _ _
    have hlen : ¬ (n.length < 1 ∨ 128 < n.length) := by omega
    have hbn : bad n = false := by unfold bad; rw [Bool.or_eq_false_iff, decide_eq_false_iff_not, decide_eq_false_iff_not]; omega
    have hne : ¬ (n.getD 0 0 % 2 = 0) := by rw [← ht]; exact _h
    refine acallI (f24 n hn) rfl fun r hr => ?_
    rw [if_neg (by simp [hbn])] at hr
    subst hr
    have h2s := two_small hn
    ((conv => whnf); repeat' (first | (refine And.intro ?_ ?_; (focus (first | rfl | decide | assumption | omega | decide +kernel | exact ⟨rfl, rfl⟩ | exact ⟨rfl, rfl, rfl, rfl⟩ | exact fun h => Bool.noConfusion h | exact fun _ => rfl | exact Nat.le_of_ble_eq_true rfl | (simp only [List.length_map, List.length_append, List.length_replicate, List.length_take, List.length_drop, List.length_set, List.length_cons, List.length_nil]; omega))); (conv => whnf)) | ((refine And.intro ?_ ?_ <;> intro _h); all_goals ((first | replace _h := of_decide_eq_true _h | replace _h := of_decide_eq_false _h | skip); (try simp only [Bool.not_eq_true', Bool.not_eq_false', Bool.not_true, Bool.not_false, decide_eq_true_eq, decide_eq_false_iff_not] at _h); (try (guard_hyp _h : True; clear _h)); first | done | contradiction | exact absurd ((Eq.symm _h).trans (show _ = true by assumption)) (by decide) | exact absurd ((Eq.symm _h).trans (show _ = false by assumption)) (by decide) | (conv => whnf))) | (intro _h; ((first | replace _h := of_decide_eq_true _h | replace _h := of_decide_eq_false _h | skip); (try simp only [Bool.not_eq_true', Bool.not_eq_false', Bool.not_true, Bool.not_false, decide_eq_true_eq, decide_eq_false_iff_not] at _h); (try (guard_hyp _h : True; clear _h)); first | done | contradiction | exact absurd ((Eq.symm _h).trans (show _ = true by assumption)) (by decide) | exact absurd ((Eq.symm _h).trans (show _ = false by assumption)) (by decide) | (conv => whnf)))))
    · exact Ends.imm rfl (by rw [if_neg hlen, if_pos (.inr (by omega))])
    · rename_i _ hbl
      have hv : ¬ val n < 2 := by omega
      have hodd : n.getD 0 0 % 2 = 1 := by omega
      refine aloop (T := told11) (ι := Nat × Int) (fun p => [(0, .d (nat n)), (4, u32 p.2), (30, i64 p.1)]) (fun _ => []) 66 0 (fun p => 5 - p.1) (fun p => p.1 ≤ 5 ∧ (0 ≤ p.2 ∧ p.2 < 4294967296) ∧ (n.getD 0 0 * p.2 - 1) % 2 ^ jj p.1 = 0)
        ⟨(0, n.getD 0 0), [], rfl, ⟨by omega, h00, odd_sq hodd⟩, by (refine ⟨rfl, rfl, ?_, ?_⟩ <;> repeat' (first | exact True.intro | rfl | decide | (refine And.intro ?_ ?_)))⟩ ?_
      intro ⟨k, y⟩ ⟨hk, hy, hinv⟩
      dsimp only at hk hy hinv ⊢
      ((conv => whnf); repeat' (first | (refine And.intro ?_ ?_; (focus (first | rfl | decide | assumption | omega | decide +kernel | exact ⟨rfl, rfl⟩ | exact ⟨rfl, rfl, rfl, rfl⟩ | exact fun h => Bool.noConfusion h | exact fun _ => rfl | exact Nat.le_of_ble_eq_true rfl | (simp only [List.length_map, List.length_append, List.length_replicate, List.length_take, List.length_drop, List.length_set, List.length_cons, List.length_nil]; omega))); (conv => whnf)) | ((refine And.intro ?_ ?_ <;> intro _h); all_goals ((first | replace _h := of_decide_eq_true _h | replace _h := of_decide_eq_false _h | skip); (try simp only [Bool.not_eq_true', Bool.not_eq_false', Bool.not_true, Bool.not_false, decide_eq_true_eq, decide_eq_false_iff_not] at _h); (try (guard_hyp _h : True; clear _h)); first | done | contradiction | exact absurd ((Eq.symm _h).trans (show _ = true by assumption)) (by decide) | exact absurd ((Eq.symm _h).trans (show _ = false by assumption)) (by decide) | (conv => whnf))) | (intro _h; ((first | replace _h := of_decide_eq_true _h | replace _h := of_decide_eq_false _h | skip); (try simp only [Bool.not_eq_true', Bool.not_eq_false', Bool.not_true, Bool.not_false, decide_eq_true_eq, decide_eq_false_iff_not] at _h); (try (guard_hyp _h : True; clear _h)); first | done | contradiction | exact absurd ((Eq.symm _h).trans (show _ = true by assumption)) (by decide) | exact absurd ((Eq.symm _h).trans (show _ = false by assumption)) (by decide) | (conv => whnf)))))
      · have hst := inv_step (jj k) (jj (k + 1)) hinv (jj_step (by omega)).1 (jj_step (by omega)).2
        refine ⟨(k + 1, (y * ((2 - (n.getD 0 0 * y) % 4294967296) % 4294967296)) % 4294967296), [], by dsimp only; omega, ⟨by dsimp only; omega, by dsimp only; omega, hst⟩, rfl, ?_⟩
        (refine ⟨rfl, rfl, ?_, ?_⟩ <;> repeat' (first | exact True.intro | rfl | decide | (refine And.intro ?_ ?_)))
        refine di ?_
        rw [wrap_i64 (by omega) (by omega)]; rfl
      · have hk5 : k = 5 := by omega
        subst hk5
        refine acall [] (f27 n (by intro e; subst e; simp at hlen) (by omega)) rfl trivial rfl (fun h => rfl) fun st nx r hr => ?_
        obtain ⟨rfl, rfl, rfl⟩ := hr
        ((conv => whnf); repeat' (first | (refine And.intro ?_ ?_; (focus (first | rfl | decide | assumption | omega | decide +kernel | exact ⟨rfl, rfl⟩ | exact ⟨rfl, rfl, rfl, rfl⟩ | exact fun h => Bool.noConfusion h | exact fun _ => rfl | exact Nat.le_of_ble_eq_true rfl | (simp only [List.length_map, List.length_append, List.length_replicate, List.length_take, List.length_drop, List.length_set, List.length_cons, List.length_nil]; omega))); (conv => whnf)) | ((refine And.intro ?_ ?_ <;> intro _h); all_goals ((first | replace _h := of_decide_eq_true _h | replace _h := of_decide_eq_false _h | skip); (try simp only [Bool.not_eq_true', Bool.not_eq_false', Bool.not_true, Bool.not_false, decide_eq_true_eq, decide_eq_false_iff_not] at _h); (try (guard_hyp _h : True; clear _h)); first | done | contradiction | exact absurd ((Eq.symm _h).trans (show _ = true by assumption)) (by decide) | exact absurd ((Eq.symm _h).trans (show _ = false by assumption)) (by decide) | (conv => whnf))) | (intro _h; ((first | replace _h := of_decide_eq_true _h | replace _h := of_decide_eq_false _h | skip); (try simp only [Bool.not_eq_true', Bool.not_eq_false', Bool.not_true, Bool.not_false, decide_eq_true_eq, decide_eq_false_iff_not] at _h); (try (guard_hyp _h : True; clear _h)); first | done | contradiction | exact absurd ((Eq.symm _h).trans (show _ = true by assumption)) (by decide) | exact absurd ((Eq.symm _h).trans (show _ = false by assumption)) (by decide) | (conv => whnf)))))
        · have hn0 : (0 : Int) ≤ (0 - y) % 4294967296 ∧ (0 - y) % 4294967296 < 4294967296 := by omega
          obtain ⟨n0, en0⟩ : ∃ n0, n0 = (0 - y) % 4294967296 := ⟨_, rfl⟩
          refine aloop (T := told11) (ι := Nat × List Int) (fun p => [(0, .d (nat n)), (5, .optr 0 0), (6, .d (nat p.2)), (54, i64 ((64 * n.length : Nat) : Int)), (55, i64 p.1)]) (fun _ => [(0, ringOb n n0)]) 66 1
            (fun p => 64 * n.length - p.1) (fun p => p.1 ≤ 64 * n.length ∧ p.2.length = n.length ∧ wfl p.2 ∧ val p.2 = 2 ^ p.1 % val n)
            ⟨(0, oneL n.length), [1], rfl, ⟨by omega, oneL_len _, oneL_wf _, by rw [oneL_val (by omega)]; simp; rw [Int.emod_eq_of_lt] <;> omega⟩, by
              (refine ⟨rfl, rfl, ?_, ?_⟩ <;> repeat' (first | exact True.intro | rfl | decide | (refine And.intro ?_ ?_)))
              · refine di ?_
                rw [wrap_i64 (by omega) (by omega)]; simp
              · rw [en0]; rfl⟩ ?_
          intro ⟨k, x⟩ ⟨hk2, hxl, hx, hxv⟩
          dsimp only at hk2 hxl hx hxv ⊢
          have hxlt : val x < val n := by rw [hxv]; exact Int.emod_lt_of_pos _ (by omega)
          ((conv => whnf); repeat' (first | (refine And.intro ?_ ?_; (focus (first | rfl | decide | assumption | omega | decide +kernel | exact ⟨rfl, rfl⟩ | exact ⟨rfl, rfl, rfl, rfl⟩ | exact fun h => Bool.noConfusion h | exact fun _ => rfl | exact Nat.le_of_ble_eq_true rfl | (simp only [List.length_map, List.length_append, List.length_replicate, List.length_take, List.length_drop, List.length_set, List.length_cons, List.length_nil]; omega))); (conv => whnf)) | ((refine And.intro ?_ ?_ <;> intro _h); all_goals ((first | replace _h := of_decide_eq_true _h | replace _h := of_decide_eq_false _h | skip); (try simp only [Bool.not_eq_true', Bool.not_eq_false', Bool.not_true, Bool.not_false, decide_eq_true_eq, decide_eq_false_iff_not] at _h); (try (guard_hyp _h : True; clear _h)); first | done | contradiction | exact absurd ((Eq.symm _h).trans (show _ = true by assumption)) (by decide) | exact absurd ((Eq.symm _h).trans (show _ = false by assumption)) (by decide) | (conv => whnf))) | (intro _h; ((first | replace _h := of_decide_eq_true _h | replace _h := of_decide_eq_false _h | skip); (try simp only [Bool.not_eq_true', Bool.not_eq_false', Bool.not_true, Bool.not_false, decide_eq_true_eq, decide_eq_false_iff_not] at _h); (try (guard_hyp _h : True; clear _h)); first | done | contradiction | exact absurd ((Eq.symm _h).trans (show _ = true by assumption)) (by decide) | exact absurd ((Eq.symm _h).trans (show _ = false by assumption)) (by decide) | (conv => whnf)))))
          · refine acall [0] (f28o n n0 x hn hx hbn hxl hxlt) rfl ⟨⟨by decide, rfl⟩, trivial⟩ rfl (fun h => Bool.noConfusion h) fun st nx r hr => ?_
            obtain ⟨rfl, rfl, z, rfl, hz1, hz2, hz3⟩ := hr
            ((conv => whnf); repeat' (first | (refine And.intro ?_ ?_; (focus (first | rfl | decide | assumption | omega | decide +kernel | exact ⟨rfl, rfl⟩ | exact ⟨rfl, rfl, rfl, rfl⟩ | exact fun h => Bool.noConfusion h | exact fun _ => rfl | exact Nat.le_of_ble_eq_true rfl | (simp only [List.length_map, List.length_append, List.length_replicate, List.length_take, List.length_drop, List.length_set, List.length_cons, List.length_nil]; omega))); (conv => whnf)) | ((refine And.intro ?_ ?_ <;> intro _h); all_goals ((first | replace _h := of_decide_eq_true _h | replace _h := of_decide_eq_false _h | skip); (try simp only [Bool.not_eq_true', Bool.not_eq_false', Bool.not_true, Bool.not_false, decide_eq_true_eq, decide_eq_false_iff_not] at _h); (try (guard_hyp _h : True; clear _h)); first | done | contradiction | exact absurd ((Eq.symm _h).trans (show _ = true by assumption)) (by decide) | exact absurd ((Eq.symm _h).trans (show _ = false by assumption)) (by decide) | (conv => whnf))) | (intro _h; ((first | replace _h := of_decide_eq_true _h | replace _h := of_decide_eq_false _h | skip); (try simp only [Bool.not_eq_true', Bool.not_eq_false', Bool.not_true, Bool.not_false, decide_eq_true_eq, decide_eq_false_iff_not] at _h); (try (guard_hyp _h : True; clear _h)); first | done | contradiction | exact absurd ((Eq.symm _h).trans (show _ = true by assumption)) (by decide) | exact absurd ((Eq.symm _h).trans (show _ = false by assumption)) (by decide) | (conv => whnf)))))
            refine ⟨(k + 1, z), [0], by dsimp only; omega, ⟨by dsimp only; omega, hz1, hz2, by rw [hz3]; exact double_pow hxv⟩, rfl, ?_⟩
            (refine ⟨rfl, rfl, ?_, ?_⟩ <;> repeat' (first | exact True.intro | rfl | decide | (refine And.intro ?_ ?_)))
            refine di ?_
            rw [wrap_i64 (by omega) (by omega)]; rfl
          · have hke : k = 64 * n.length := by omega
            subst hke
            refine Ends.imm rfl ?_
            rw [if_neg hlen, if_neg (by omega)]
            refine ⟨n0, x, rfl, hn, hbn, by omega, ?_, hx, hxl, hxlt, by omega, 2 ^ (64 * n.length) / val n, ?_⟩
            · have e1 : jj 5 = 32 := rfl
              rw [e1] at hinv
              subst en0
              have : (2 : Int) ^ 32 = 4294967296 := rfl
              rw [this] at hinv
              obtain ⟨q, hq⟩ : ∃ q, n.getD 0 0 * y - 1 = 4294967296 * q := ⟨(n.getD 0 0 * y - 1) / 4294967296, by omega⟩
              obtain ⟨p, hp⟩ : ∃ p, (0 - y) % 4294967296 = 0 - y - 4294967296 * p := ⟨(0 - y) / 4294967296, by omega⟩
              rw [hp]
              have : n.getD 0 0 * (0 - y - 4294967296 * p) + 1 = 4294967296 * (-q - n.getD 0 0 * p) := by grind
              rw [this, Int.mul_emod_right]
            · rw [hxv, pw_two, ← Int.pow_add]
              have := Int.emod_add_mul_ediv (2 ^ (64 * n.length)) (val n)
              rw [show 32 * n.length + 32 * n.length = 64 * n.length by omega]
              rw [Int.mul_comm (2 ^ (64 * n.length) / val n)]
              omega
  · exact Ends.imm rfl (by rw [if_neg (by omega), if_pos (.inl (by rw [← ht]; assumption))])
  · exact Ends.imm rfl (by rw [if_pos (.inl (by omega))])
end Go.Proofs.YtniaeiikdgbnfaaGreatDoor.R
