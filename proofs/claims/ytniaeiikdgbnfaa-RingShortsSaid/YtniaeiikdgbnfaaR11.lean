/- The reference's code, part 4: digits. -/
import Derived.Test.YtniaeiikdgbnfaaR10
namespace Go.Proofs.Ytniaeiikdgbnfaa.R
open Go Go.RowKit Go.Proofs Go.Proofs.Ytniaeiikdgbnfaa.AW
set_option maxRecDepth 100000
set_option linter.unusedSimpArgs false
set_option linter.unusedVariables false
set_option maxHeartbeats 4000000

theorem pw_two (n : Nat) : pw n = 2 ^ (32 * n) := by
  unfold pw
  rw [Int.pow_mul]
  rfl
theorem dpw_four (n : Nat) : dpw (4 * n) = pw n := by
  rw [dpw_two, pw_two]; congr 1; omega

theorem val_take_succ {m : List Int} {i : Nat} (h : i < m.length) : val (m.take (i + 1)) = val (m.take i) + pw i * m.getD i 0 := by
  rw [take_snoc h, val_snoc, List.length_take, Nat.min_eq_left (by omega)]

/-- What 'Trim' leaves. -/
theorem f29' (xs : List Int) (hx : wfd xs) (hl : xs.length ≤ 1000000) : Imm Try.prog 29 [.d (digs xs)] (fun r => ∃ zs, r = .d (digs zs) ∧ zs.length ≤ xs.length ∧ wfd zs ∧ trimmed zs ∧ dval zs = dval xs) := by
  refine (f29 xs hl).mono fun r ⟨n, h1, h2, h3, h4⟩ => ⟨xs.take n, h1, by simp; omega, hx.take n, ?_, dval_take h3⟩
  rcases h4 with h4 | h4
  · subst h4; left; simp
  · right
    rw [List.length_take, Nat.min_eq_left h2, List.getD_eq_getElem?_getD, List.getElem?_take]
    rcases Nat.eq_zero_or_pos n with h0 | h0
    · subst h0; exact (h4 (h3 0 (by omega))).elim
    · rw [if_pos (by omega), ← List.getD_eq_getElem?_getD]; exact h4

def told12 : AW.Told := ⟨fun _ => false, fun r i => if r == 11 && i == 1 then [29] else [], fun _ => .done⟩

theorem f12 (n : List Int) (hn : wfl n) (hs : n.length ≤ 100000) : Imm Try.prog 12 [.d (nat n)] (fun r => ∃ zs, r = .d (digs zs) ∧ zs.length ≤ 4 * n.length ∧ wfd zs ∧ trimmed zs ∧ dval zs = val n) := by
  (refine Imm.of_awp told12 [] Try.func12 rfl (by decide) (Nat.le_of_ble_eq_true rfl) ?_; intro _w0 _S0 _E0 _B0; ((conv => whnf); repeat' (first | (refine And.intro ?_ ?_; (focus (first | rfl | decide | assumption | omega | decide +kernel | exact ⟨rfl, rfl⟩ | exact ⟨rfl, rfl, rfl, rfl⟩ | exact fun h => Bool.noConfusion h | exact fun _ => rfl | exact Nat.le_of_ble_eq_true rfl | (simp only [List.length_map, List.length_append, List.length_replicate, List.length_take, List.length_drop, List.length_set, List.length_cons, List.length_nil]; omega))); (conv => whnf)) | ((refine And.intro ?_ ?_ <;> intro _h); all_goals ((first | replace _h := of_decide_eq_true _h | replace _h := of_decide_eq_false _h | skip); (try simp only [Bool.not_eq_true', Bool.not_eq_false', Bool.not_true, Bool.not_false, decide_eq_true_eq, decide_eq_false_iff_not] at _h); (try (guard_hyp _h : True; clear _h)); first | done | contradiction | exact absurd ((Eq.symm _h).trans (show _ = true by assumption)) (by decide) | exact absurd ((Eq.symm _h).trans (show _ = false by assumption)) (by decide) | (conv => whnf))) | (intro _h; ((first | replace _h := of_decide_eq_true _h | replace _h := of_decide_eq_false _h | skip); (try simp only [Bool.not_eq_true', Bool.not_eq_false', Bool.not_true, Bool.not_false, decide_eq_true_eq, decide_eq_false_iff_not] at _h); (try (guard_hyp _h : True; clear _h)); first | done | contradiction | exact absurd ((Eq.symm _h).trans (show _ = true by assumption)) (by decide) | exact absurd ((Eq.symm _h).trans (show _ = false by assumption)) (by decide) | (conv => whnf))))))
  refine AWp.adopt 3 (.row .i64 3 []) rfl rfl ?_
  refine aloop (T := told12) (ι := Nat × List Int) (fun p => [(0, .d (nat n)), (3, .own 0), (4, i64 p.1)]) (fun p => [(0, .row .i64 3 p.2)]) 31 1
    (fun p => n.length - p.1) (fun p => p.1 ≤ n.length ∧ p.2.length = 4 * p.1 ∧ wfd p.2 ∧ dval p.2 = val (n.take p.1))
    ⟨(0, []), [0], rfl, ⟨by omega, rfl, by simp [wfd], by simp [dval, val]⟩, by (refine ⟨rfl, rfl, ?_, ?_⟩ <;> repeat' (first | exact True.intro | rfl | decide | (refine And.intro ?_ ?_)))⟩ ?_
  intro ⟨i, zs⟩ ⟨hi, hzl, hz, hv⟩
  dsimp only at hi hzl hz hv ⊢
  have hni := hn.get i
  ((conv => whnf); repeat' (first | (refine And.intro ?_ ?_; (focus (first | rfl | decide | assumption | omega | decide +kernel | exact ⟨rfl, rfl⟩ | exact ⟨rfl, rfl, rfl, rfl⟩ | exact fun h => Bool.noConfusion h | exact fun _ => rfl | exact Nat.le_of_ble_eq_true rfl | (simp only [List.length_map, List.length_append, List.length_replicate, List.length_take, List.length_drop, List.length_set, List.length_cons, List.length_nil]; omega))); (conv => whnf)) | ((refine And.intro ?_ ?_ <;> intro _h); all_goals ((first | replace _h := of_decide_eq_true _h | replace _h := of_decide_eq_false _h | skip); (try simp only [Bool.not_eq_true', Bool.not_eq_false', Bool.not_true, Bool.not_false, decide_eq_true_eq, decide_eq_false_iff_not] at _h); (try (guard_hyp _h : True; clear _h)); first | done | contradiction | exact absurd ((Eq.symm _h).trans (show _ = true by assumption)) (by decide) | exact absurd ((Eq.symm _h).trans (show _ = false by assumption)) (by decide) | (conv => whnf))) | (intro _h; ((first | replace _h := of_decide_eq_true _h | replace _h := of_decide_eq_false _h | skip); (try simp only [Bool.not_eq_true', Bool.not_eq_false', Bool.not_true, Bool.not_false, decide_eq_true_eq, decide_eq_false_iff_not] at _h); (try (guard_hyp _h : True; clear _h)); first | done | contradiction | exact absurd ((Eq.symm _h).trans (show _ = true by assumption)) (by decide) | exact absurd ((Eq.symm _h).trans (show _ = false by assumption)) (by decide) | (conv => whnf)))))
  · refine aloop (T := told12) (ι := Nat × List Int × Int) (fun p => [(0, .d (nat n)), (3, .own 0), (4, i64 i), (5, u32 p.2.2), (6, i64 p.1)]) (fun p => [(0, .row .i64 3 p.2.1)]) 31 1
      (fun p => 4 - p.1) (fun p => p.1 ≤ 4 ∧ p.2.1.length = 4 * i + p.1 ∧ wfd p.2.1 ∧ (0 ≤ p.2.2 ∧ p.2.2 < 256 ^ (4 - p.1)) ∧ dval p.2.1 + dpw (4 * i + p.1) * p.2.2 = val (n.take (i + 1)))
      ⟨(0, zs, n.getD i 0), [0], rfl, ⟨by omega, hzl, hz, by simpa using hni, ?_⟩, by (refine ⟨rfl, rfl, ?_, ?_⟩ <;> repeat' (first | exact True.intro | rfl | decide | (refine And.intro ?_ ?_)))⟩ ?_
    · dsimp only
      rw [hv, val_take_succ (by omega), Nat.add_zero, dpw_four]
    intro ⟨k, ys, x⟩ ⟨hk, hyl, hy, hx, hw⟩
    dsimp only at hk hyl hy hx hw ⊢
    have hxb : x < 4294967296 := by
      have : ∀ k : Fin 5, (256 : Int) ^ (4 - k.val) ≤ 4294967296 := by decide
      have := this ⟨k, by omega⟩
      dsimp only at this
      omega
    ((conv => whnf); repeat' (first | (refine And.intro ?_ ?_; (focus (first | rfl | decide | assumption | omega | decide +kernel | exact ⟨rfl, rfl⟩ | exact ⟨rfl, rfl, rfl, rfl⟩ | exact fun h => Bool.noConfusion h | exact fun _ => rfl | exact Nat.le_of_ble_eq_true rfl | (simp only [List.length_map, List.length_append, List.length_replicate, List.length_take, List.length_drop, List.length_set, List.length_cons, List.length_nil]; omega))); (conv => whnf)) | ((refine And.intro ?_ ?_ <;> intro _h); all_goals ((first | replace _h := of_decide_eq_true _h | replace _h := of_decide_eq_false _h | skip); (try simp only [Bool.not_eq_true', Bool.not_eq_false', Bool.not_true, Bool.not_false, decide_eq_true_eq, decide_eq_false_iff_not] at _h); (try (guard_hyp _h : True; clear _h)); first | done | contradiction | exact absurd ((Eq.symm _h).trans (show _ = true by assumption)) (by decide) | exact absurd ((Eq.symm _h).trans (show _ = false by assumption)) (by decide) | (conv => whnf))) | (intro _h; ((first | replace _h := of_decide_eq_true _h | replace _h := of_decide_eq_false _h | skip); (try simp only [Bool.not_eq_true', Bool.not_eq_false', Bool.not_true, Bool.not_false, decide_eq_true_eq, decide_eq_false_iff_not] at _h); (try (guard_hyp _h : True; clear _h)); first | done | contradiction | exact absurd ((Eq.symm _h).trans (show _ = true by assumption)) (by decide) | exact absurd ((Eq.symm _h).trans (show _ = false by assumption)) (by decide) | (conv => whnf)))))
    · have e1 : IntKind.i64.wrap (x.tmod 256) = x % 256 := by
        rw [Int.tmod_eq_emod_of_nonneg hx.1, wrap_i64 (by omega) (by omega)]
      have e2 : IntKind.u32.wrap (x.tdiv 256) = x / 256 := by
        rw [Int.tdiv_eq_ediv_of_nonneg hx.1, wrap_u32 (by omega) (by omega)]
      refine ⟨by show (ys.length + 1) * 8 ≤ 140737488355328; omega, ?_⟩
      ((conv => whnf); repeat' (first | (refine And.intro ?_ ?_; (focus (first | rfl | decide | assumption | omega | decide +kernel | exact ⟨rfl, rfl⟩ | exact ⟨rfl, rfl, rfl, rfl⟩ | exact fun h => Bool.noConfusion h | exact fun _ => rfl | exact Nat.le_of_ble_eq_true rfl | (simp only [List.length_map, List.length_append, List.length_replicate, List.length_take, List.length_drop, List.length_set, List.length_cons, List.length_nil]; omega))); (conv => whnf)) | ((refine And.intro ?_ ?_ <;> intro _h); all_goals ((first | replace _h := of_decide_eq_true _h | replace _h := of_decide_eq_false _h | skip); (try simp only [Bool.not_eq_true', Bool.not_eq_false', Bool.not_true, Bool.not_false, decide_eq_true_eq, decide_eq_false_iff_not] at _h); (try (guard_hyp _h : True; clear _h)); first | done | contradiction | exact absurd ((Eq.symm _h).trans (show _ = true by assumption)) (by decide) | exact absurd ((Eq.symm _h).trans (show _ = false by assumption)) (by decide) | (conv => whnf))) | (intro _h; ((first | replace _h := of_decide_eq_true _h | replace _h := of_decide_eq_false _h | skip); (try simp only [Bool.not_eq_true', Bool.not_eq_false', Bool.not_true, Bool.not_false, decide_eq_true_eq, decide_eq_false_iff_not] at _h); (try (guard_hyp _h : True; clear _h)); first | done | contradiction | exact absurd ((Eq.symm _h).trans (show _ = true by assumption)) (by decide) | exact absurd ((Eq.symm _h).trans (show _ = false by assumption)) (by decide) | (conv => whnf)))))
      have e3 : 4 - k = (4 - (k + 1)) + 1 := by omega
      rw [e3, Int.pow_succ] at hx
      refine ⟨(k + 1, ys ++ [x % 256], x / 256), [0], by dsimp only; omega, ⟨by dsimp only; omega, by simp [hyl]; omega, hy.append (wfd.one (by omega)), by dsimp only; omega, ?_⟩, rfl, ?_⟩
      · dsimp only
        rw [dval_snoc, hyl, ← Nat.add_assoc, dpw_succ, ← hw]
        have e : x % 256 = x - 256 * (x / 256) := by omega
        rw [e]
        generalize x / 256 = q
        grind
      · (refine ⟨rfl, rfl, ?_, ?_⟩ <;> repeat' (first | exact True.intro | rfl | decide | (refine And.intro ?_ ?_)))
        · exact di e2
        · refine di ?_
          rw [wrap_i64 (by omega) (by omega)]; rfl
        · show some (Ob.row .i64 3 (ys ++ [_])) = some (Ob.row .i64 3 _)
          rw [e1]
    · have hk4 : k = 4 := by omega
      subst hk4
      have hx0 : x = 0 := by simp at hx; omega
      subst hx0
      refine ⟨(i + 1, ys), [0], by dsimp only; omega, ⟨by dsimp only; omega, by simp [hyl]; omega, hy, by simpa using hw⟩, rfl, ?_⟩
      (refine ⟨rfl, rfl, ?_, ?_⟩ <;> repeat' (first | exact True.intro | rfl | decide | (refine And.intro ?_ ?_)))
      refine di ?_
      rw [wrap_i64 (by omega) (by omega)]; rfl
  · have hin : i = n.length := by omega
    subst hin
    refine acallI (f29' zs hz (by omega)) rfl fun r hr => ?_
    obtain ⟨ds, rfl, h1, h2, h3, h4⟩ := hr
    ((conv => whnf); repeat' (first | (refine And.intro ?_ ?_; (focus (first | rfl | decide | assumption | omega | decide +kernel | exact ⟨rfl, rfl⟩ | exact ⟨rfl, rfl, rfl, rfl⟩ | exact fun h => Bool.noConfusion h | exact fun _ => rfl | exact Nat.le_of_ble_eq_true rfl | (simp only [List.length_map, List.length_append, List.length_replicate, List.length_take, List.length_drop, List.length_set, List.length_cons, List.length_nil]; omega))); (conv => whnf)) | ((refine And.intro ?_ ?_ <;> intro _h); all_goals ((first | replace _h := of_decide_eq_true _h | replace _h := of_decide_eq_false _h | skip); (try simp only [Bool.not_eq_true', Bool.not_eq_false', Bool.not_true, Bool.not_false, decide_eq_true_eq, decide_eq_false_iff_not] at _h); (try (guard_hyp _h : True; clear _h)); first | done | contradiction | exact absurd ((Eq.symm _h).trans (show _ = true by assumption)) (by decide) | exact absurd ((Eq.symm _h).trans (show _ = false by assumption)) (by decide) | (conv => whnf))) | (intro _h; ((first | replace _h := of_decide_eq_true _h | replace _h := of_decide_eq_false _h | skip); (try simp only [Bool.not_eq_true', Bool.not_eq_false', Bool.not_true, Bool.not_false, decide_eq_true_eq, decide_eq_false_iff_not] at _h); (try (guard_hyp _h : True; clear _h)); first | done | contradiction | exact absurd ((Eq.symm _h).trans (show _ = true by assumption)) (by decide) | exact absurd ((Eq.symm _h).trans (show _ = false by assumption)) (by decide) | (conv => whnf)))))
    refine Ends.imm rfl ⟨ds, rfl, by omega, h2, h3, ?_⟩
    rw [h4, hv, List.take_of_length_le (Nat.le_refl _)]

end Go.Proofs.Ytniaeiikdgbnfaa.R
