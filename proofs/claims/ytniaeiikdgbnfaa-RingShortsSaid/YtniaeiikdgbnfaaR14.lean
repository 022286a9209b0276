/- The ring's code, part 14: how many bits a number has. -/
import Derived.Test.YtniaeiikdgbnfaaR13
namespace Go.Proofs.Ytniaeiikdgbnfaa.R
open Go Go.RowKit Go.Proofs Go.Proofs.Ytniaeiikdgbnfaa.AW
set_option maxRecDepth 100000
set_option linter.unusedSimpArgs false
set_option linter.unusedVariables false
set_option maxHeartbeats 4000000

theorem val_zero_of : ∀ (xs : List Int), (∀ j, xs.getD j 0 = 0) → val xs = 0
  | [], _ => rfl
  | x :: xs, h => by
    have h0 := h 0
    have ih := val_zero_of xs fun j => by have := h (j + 1); simpa using this
    simp at h0
    simp [val, ih, h0]

/-- The highest limb that isn't 0 says how many bits a number has. -/
theorem val_top (xs : List Int) (hx : wfl xs) (i : Nat) (hi : i < xs.length) (h : ∀ j, i + 1 ≤ j → xs.getD j 0 = 0) (hne : xs.getD i 0 ≠ 0) : blen (val xs).toNat = 32 * i + blen (xs.getD i 0).toNat := by
  have hg := hx.get i
  have e : val xs = val (xs.take i) + pw i * xs.getD i 0 := by
    rw [← val_take_succ hi]
    have := val_ext xs.length xs (xs.take (i + 1)) (Nat.le_refl _) (by simp; omega) fun j => by
      rcases Nat.lt_or_ge j (i + 1) with hj | hj
      · rw [List.getD_eq_getElem?_getD, List.getD_eq_getElem?_getD, List.getElem?_take, if_pos hj]
      · rw [h j hj, List.getD_eq_getElem?_getD, List.getElem?_take, if_neg (by omega)]; rfl
    exact this
  have h1 := val_lt (hx.take i)
  have h2 := val_nonneg (hx.take i)
  rw [List.length_take, Nat.min_eq_left (by omega)] at h1
  have hp := pw_pos i
  obtain ⟨b, hb⟩ : ∃ b : Nat, xs.getD i 0 = b := ⟨(xs.getD i 0).toNat, by omega⟩
  rw [hb] at e hg ⊢
  rw [Int.toNat_natCast]
  obtain ⟨p, hpp⟩ : ∃ p : Nat, pw i = p := ⟨(pw i).toNat, by omega⟩
  obtain ⟨a, ha⟩ : ∃ a : Nat, val (xs.take i) = a := ⟨(val (xs.take i)).toNat, by omega⟩
  have hp2 : p = 2 ^ (32 * i) := by
    have := pw_two i
    rw [hpp] at this
    exact_mod_cast this
  rw [ha, hpp] at e
  rw [ha, hpp] at h1
  have hv : (val xs).toNat = a + p * b := by rw [e]; have : ((a : Int) + p * b) = ((a + p * b : Nat) : Int) := by push_cast; rfl
                                             rw [this, Int.toNat_natCast]
  rw [hv]
  have hb1 : 1 ≤ b := by omega
  have hap : a < p := by omega
  have hle : 2 ^ (32 * i) ≤ a + p * b := by
    rw [← hp2]
    have : p * 1 ≤ p * b := Nat.mul_le_mul_left p hb1
    omega
  rw [blen_div hle, ← hp2, Nat.add_mul_div_left _ _ (by omega), Nat.div_eq_of_lt hap, Nat.zero_add]
  exact Nat.add_comm _ _

def told24 : AW.Told := ⟨fun _ => false, fun r i => if r == 1 && i == 2 then [6] else [], fun _ => .done⟩

theorem f24 (xs : List Int) (hx : wfl xs) : Imm Try.prog 24 [.d (nat xs)] (fun r => r = i64 (if bad xs then 0 else blen (val xs).toNat)) := by
  (refine Imm.of_awp told24 [] Try.func24 rfl (by decide) (Nat.le_of_ble_eq_true rfl) ?_; intro _w0 _S0 _E0 _B0; ((conv => whnf); repeat' (first | (refine And.intro ?_ ?_; (focus (first | rfl | decide | assumption | omega | decide +kernel | exact ⟨rfl, rfl⟩ | exact ⟨rfl, rfl, rfl, rfl⟩ | exact fun h => Bool.noConfusion h | exact fun _ => rfl | exact Nat.le_of_ble_eq_true rfl | (simp only [List.length_map, List.length_append, List.length_replicate, List.length_take, List.length_drop, List.length_set, List.length_cons, List.length_nil]; omega))); (conv => whnf)) | ((refine And.intro ?_ ?_ <;> intro _h); all_goals ((first | replace _h := of_decide_eq_true _h | replace _h := of_decide_eq_false _h | skip); (try simp only [Bool.not_eq_true', Bool.not_eq_false', Bool.not_true, Bool.not_false, decide_eq_true_eq, decide_eq_false_iff_not] at _h); (try (guard_hyp _h : True; clear _h)); first | done | contradiction | exact absurd ((Eq.symm _h).trans (show _ = true by assumption)) (by decide) | exact absurd ((Eq.symm _h).trans (show _ = false by assumption)) (by decide) | (conv => whnf))) | (intro _h; ((first | replace _h := of_decide_eq_true _h | replace _h := of_decide_eq_false _h | skip); (try simp only [Bool.not_eq_true', Bool.not_eq_false', Bool.not_true, Bool.not_false, decide_eq_true_eq, decide_eq_false_iff_not] at _h); (try (guard_hyp _h : True; clear _h)); first | done | contradiction | exact absurd ((Eq.symm _h).trans (show _ = true by assumption)) (by decide) | exact absurd ((Eq.symm _h).trans (show _ = false by assumption)) (by decide) | (conv => whnf))))))
  refine acallI (f35 [xs]) rfl fun r hr => ?_
  subst hr
  ((conv => whnf); repeat' (first | (refine And.intro ?_ ?_; (focus (first | rfl | decide | assumption | omega | decide +kernel | exact ⟨rfl, rfl⟩ | exact ⟨rfl, rfl, rfl, rfl⟩ | exact fun h => Bool.noConfusion h | exact fun _ => rfl | exact Nat.le_of_ble_eq_true rfl | (simp only [List.length_map, List.length_append, List.length_replicate, List.length_take, List.length_drop, List.length_set, List.length_cons, List.length_nil]; omega))); (conv => whnf)) | ((refine And.intro ?_ ?_ <;> intro _h); all_goals ((first | replace _h := of_decide_eq_true _h | replace _h := of_decide_eq_false _h | skip); (try simp only [Bool.not_eq_true', Bool.not_eq_false', Bool.not_true, Bool.not_false, decide_eq_true_eq, decide_eq_false_iff_not] at _h); (try (guard_hyp _h : True; clear _h)); first | done | contradiction | exact absurd ((Eq.symm _h).trans (show _ = true by assumption)) (by decide) | exact absurd ((Eq.symm _h).trans (show _ = false by assumption)) (by decide) | (conv => whnf))) | (intro _h; ((first | replace _h := of_decide_eq_true _h | replace _h := of_decide_eq_false _h | skip); (try simp only [Bool.not_eq_true', Bool.not_eq_false', Bool.not_true, Bool.not_false, decide_eq_true_eq, decide_eq_false_iff_not] at _h); (try (guard_hyp _h : True; clear _h)); first | done | contradiction | exact absurd ((Eq.symm _h).trans (show _ = true by assumption)) (by decide) | exact absurd ((Eq.symm _h).trans (show _ = false by assumption)) (by decide) | (conv => whnf)))))
  · simp at _h
    exact Ends.imm rfl (by rw [if_pos _h])
  · simp at _h
    have hbx := _h
    unfold bad at hbx
    simp at hbx
    rw [_h]
    refine acallI (f38 xs) rfl fun r hr => ?_
    subst hr
    ((conv => whnf); repeat' (first | (refine And.intro ?_ ?_; (focus (first | rfl | decide | assumption | omega | decide +kernel | exact ⟨rfl, rfl⟩ | exact ⟨rfl, rfl, rfl, rfl⟩ | exact fun h => Bool.noConfusion h | exact fun _ => rfl | exact Nat.le_of_ble_eq_true rfl | (simp only [List.length_map, List.length_append, List.length_replicate, List.length_take, List.length_drop, List.length_set, List.length_cons, List.length_nil]; omega))); (conv => whnf)) | ((refine And.intro ?_ ?_ <;> intro _h); all_goals ((first | replace _h := of_decide_eq_true _h | replace _h := of_decide_eq_false _h | skip); (try simp only [Bool.not_eq_true', Bool.not_eq_false', Bool.not_true, Bool.not_false, decide_eq_true_eq, decide_eq_false_iff_not] at _h); (try (guard_hyp _h : True; clear _h)); first | done | contradiction | exact absurd ((Eq.symm _h).trans (show _ = true by assumption)) (by decide) | exact absurd ((Eq.symm _h).trans (show _ = false by assumption)) (by decide) | (conv => whnf))) | (intro _h; ((first | replace _h := of_decide_eq_true _h | replace _h := of_decide_eq_false _h | skip); (try simp only [Bool.not_eq_true', Bool.not_eq_false', Bool.not_true, Bool.not_false, decide_eq_true_eq, decide_eq_false_iff_not] at _h); (try (guard_hyp _h : True; clear _h)); first | done | contradiction | exact absurd ((Eq.symm _h).trans (show _ = true by assumption)) (by decide) | exact absurd ((Eq.symm _h).trans (show _ = false by assumption)) (by decide) | (conv => whnf)))))
    refine AWp.rangeFunc told24 (ai49 xs) (ι := Int) [(0, .d (nat xs)), (2, .optr 0 0)] (fun v => [(0, .cell 3 [i64 v])]) 20 1 1 (fun k v => v = 0 ∧ ∀ j, xs.length ≤ j + k → xs.getD j 0 = 0)
      (fun e v => match e with
        | .ret => v = blen (val xs).toNat
        | _ => False) rfl rfl rfl (fun k hk => rfl) rfl rfl (Nat.zero_le _) (Nat.le_refl _) rfl
      ⟨0, [0], rfl, ⟨rfl, fun j hj => by rw [List.getD_eq_getElem?_getD, List.getElem?_eq_none (by omega)]; rfl⟩, by (refine ⟨rfl, rfl, ?_, ?_⟩ <;> repeat' (first | exact True.intro | rfl | decide | (refine And.intro ?_ ?_)))⟩ ?_ ?_ ?_ ?_
    · intro k v hk ⟨hv, hz⟩ _ _ _ _ _
      subst hv
      have hg := hx.get (xs.length - 1 - k)
      have hb := (blen_le (xs.getD (xs.length - 1 - k) 0).toNat 32).2 (by omega)
      ((conv => whnf); repeat' (first | (refine And.intro ?_ ?_; (focus (first | rfl | decide | assumption | omega | decide +kernel | exact ⟨rfl, rfl⟩ | exact ⟨rfl, rfl, rfl, rfl⟩ | exact fun h => Bool.noConfusion h | exact fun _ => rfl | exact Nat.le_of_ble_eq_true rfl | (simp only [List.length_map, List.length_append, List.length_replicate, List.length_take, List.length_drop, List.length_set, List.length_cons, List.length_nil]; omega))); (conv => whnf)) | ((refine And.intro ?_ ?_ <;> intro _h); all_goals ((first | replace _h := of_decide_eq_true _h | replace _h := of_decide_eq_false _h | skip); (try simp only [Bool.not_eq_true', Bool.not_eq_false', Bool.not_true, Bool.not_false, decide_eq_true_eq, decide_eq_false_iff_not] at _h); (try (guard_hyp _h : True; clear _h)); first | done | contradiction | exact absurd ((Eq.symm _h).trans (show _ = true by assumption)) (by decide) | exact absurd ((Eq.symm _h).trans (show _ = false by assumption)) (by decide) | (conv => whnf))) | (intro _h; ((first | replace _h := of_decide_eq_true _h | replace _h := of_decide_eq_false _h | skip); (try simp only [Bool.not_eq_true', Bool.not_eq_false', Bool.not_true, Bool.not_false, decide_eq_true_eq, decide_eq_false_iff_not] at _h); (try (guard_hyp _h : True; clear _h)); first | done | contradiction | exact absurd ((Eq.symm _h).trans (show _ = true by assumption)) (by decide) | exact absurd ((Eq.symm _h).trans (show _ = false by assumption)) (by decide) | (conv => whnf)))))
      · refine acallI (f39 _ hg.1 hg.2) rfl fun r hr => ?_
        subst hr
        ((conv => whnf); repeat' (first | (refine And.intro ?_ ?_; (focus (first | rfl | decide | assumption | omega | decide +kernel | exact ⟨rfl, rfl⟩ | exact ⟨rfl, rfl, rfl, rfl⟩ | exact fun h => Bool.noConfusion h | exact fun _ => rfl | exact Nat.le_of_ble_eq_true rfl | (simp only [List.length_map, List.length_append, List.length_replicate, List.length_take, List.length_drop, List.length_set, List.length_cons, List.length_nil]; omega))); (conv => whnf)) | ((refine And.intro ?_ ?_ <;> intro _h); all_goals ((first | replace _h := of_decide_eq_true _h | replace _h := of_decide_eq_false _h | skip); (try simp only [Bool.not_eq_true', Bool.not_eq_false', Bool.not_true, Bool.not_false, decide_eq_true_eq, decide_eq_false_iff_not] at _h); (try (guard_hyp _h : True; clear _h)); first | done | contradiction | exact absurd ((Eq.symm _h).trans (show _ = true by assumption)) (by decide) | exact absurd ((Eq.symm _h).trans (show _ = false by assumption)) (by decide) | (conv => whnf))) | (intro _h; ((first | replace _h := of_decide_eq_true _h | replace _h := of_decide_eq_false _h | skip); (try simp only [Bool.not_eq_true', Bool.not_eq_false', Bool.not_true, Bool.not_false, decide_eq_true_eq, decide_eq_false_iff_not] at _h); (try (guard_hyp _h : True; clear _h)); first | done | contradiction | exact absurd ((Eq.symm _h).trans (show _ = true by assumption)) (by decide) | exact absurd ((Eq.symm _h).trans (show _ = false by assumption)) (by decide) | (conv => whnf)))))
        refine ⟨blen (val xs).toNat, [0], rfl, rfl, rfl, ⟨by decide, ?_⟩, trivial⟩
        show some (Ob.cell 3 [i64 (IntKind.i64.wrap (IntKind.i64.wrap (32 * ((xs.length : Int) - 1 - k)) + blen (xs.getD (xs.length - 1 - k) 0).toNat))]) = some (Ob.cell 3 [i64 (blen (val xs).toNat)])
        rw [wrap_i64 (n := 32 * ((xs.length : Int) - 1 - k)) (by omega) (by omega), wrap_i64 (by omega) (by omega)]
        rw [val_top xs hx (xs.length - 1 - k) (by omega) (fun j hj => hz j (by omega)) _h]
        congr 4
        omega
      · exact ⟨0, [0], rfl, ⟨rfl, fun j hj => by
          rcases Nat.lt_or_ge j (xs.length - k) with h | h
          · have : j = xs.length - 1 - k := by omega
            subst this; exact _h
          · exact hz j (by omega)⟩, rfl, ⟨by decide, rfl⟩, trivial⟩
    · intro v ⟨hv, hz⟩
      subst hv
      ((conv => whnf); repeat' (first | (refine And.intro ?_ ?_; (focus (first | rfl | decide | assumption | omega | decide +kernel | exact ⟨rfl, rfl⟩ | exact ⟨rfl, rfl, rfl, rfl⟩ | exact fun h => Bool.noConfusion h | exact fun _ => rfl | exact Nat.le_of_ble_eq_true rfl | (simp only [List.length_map, List.length_append, List.length_replicate, List.length_take, List.length_drop, List.length_set, List.length_cons, List.length_nil]; omega))); (conv => whnf)) | ((refine And.intro ?_ ?_ <;> intro _h); all_goals ((first | replace _h := of_decide_eq_true _h | replace _h := of_decide_eq_false _h | skip); (try simp only [Bool.not_eq_true', Bool.not_eq_false', Bool.not_true, Bool.not_false, decide_eq_true_eq, decide_eq_false_iff_not] at _h); (try (guard_hyp _h : True; clear _h)); first | done | contradiction | exact absurd ((Eq.symm _h).trans (show _ = true by assumption)) (by decide) | exact absurd ((Eq.symm _h).trans (show _ = false by assumption)) (by decide) | (conv => whnf))) | (intro _h; ((first | replace _h := of_decide_eq_true _h | replace _h := of_decide_eq_false _h | skip); (try simp only [Bool.not_eq_true', Bool.not_eq_false', Bool.not_true, Bool.not_false, decide_eq_true_eq, decide_eq_false_iff_not] at _h); (try (guard_hyp _h : True; clear _h)); first | done | contradiction | exact absurd ((Eq.symm _h).trans (show _ = true by assumption)) (by decide) | exact absurd ((Eq.symm _h).trans (show _ = false by assumption)) (by decide) | (conv => whnf)))))
      refine Ends.imm rfl ?_
      rw [val_zero_of xs fun j => hz j (by omega)]
      rfl
    · intro v hv
      ((conv => whnf); repeat' (first | (refine And.intro ?_ ?_; (focus (first | rfl | decide | assumption | omega | decide +kernel | exact ⟨rfl, rfl⟩ | exact ⟨rfl, rfl, rfl, rfl⟩ | exact fun h => Bool.noConfusion h | exact fun _ => rfl | exact Nat.le_of_ble_eq_true rfl | (simp only [List.length_map, List.length_append, List.length_replicate, List.length_take, List.length_drop, List.length_set, List.length_cons, List.length_nil]; omega))); (conv => whnf)) | ((refine And.intro ?_ ?_ <;> intro _h); all_goals ((first | replace _h := of_decide_eq_true _h | replace _h := of_decide_eq_false _h | skip); (try simp only [Bool.not_eq_true', Bool.not_eq_false', Bool.not_true, Bool.not_false, decide_eq_true_eq, decide_eq_false_iff_not] at _h); (try (guard_hyp _h : True; clear _h)); first | done | contradiction | exact absurd ((Eq.symm _h).trans (show _ = true by assumption)) (by decide) | exact absurd ((Eq.symm _h).trans (show _ = false by assumption)) (by decide) | (conv => whnf))) | (intro _h; ((first | replace _h := of_decide_eq_true _h | replace _h := of_decide_eq_false _h | skip); (try simp only [Bool.not_eq_true', Bool.not_eq_false', Bool.not_true, Bool.not_false, decide_eq_true_eq, decide_eq_false_iff_not] at _h); (try (guard_hyp _h : True; clear _h)); first | done | contradiction | exact absurd ((Eq.symm _h).trans (show _ = true by assumption)) (by decide) | exact absurd ((Eq.symm _h).trans (show _ = false by assumption)) (by decide) | (conv => whnf)))))
      refine Ends.imm rfl ?_
      rw [hv]; rfl
    · intro id v hv
      exact hv.elim
end Go.Proofs.Ytniaeiikdgbnfaa.R
