/- The ring's code, part 7: powers. -/
import Derived.Test.YtniaeiikdgbnfaaR6
namespace Go.Proofs.Ytniaeiikdgbnfaa.R
open Go Go.RowKit Go.Proofs Go.Proofs.Ytniaeiikdgbnfaa.AW
set_option maxRecDepth 100000
set_option linter.unusedSimpArgs false
set_option linter.unusedVariables false
set_option maxHeartbeats 4000000

/-- A big-endian number. -/
def ev (bs : List Int) : Nat := bs.foldl (fun acc b => acc * 256 + b.toNat) 0
theorem ev_snoc (bs : List Int) (b : Int) : ev (bs ++ [b]) = ev bs * 256 + b.toNat := by simp [ev]

/-- 'o' stands for 'v' times the width's power. -/
def rep (n o : List Int) (v : Int) : Prop := o.length = n.length ∧ wfl o ∧ val o < val n ∧ ∃ Q, val o = pw n.length * v + Q * val n

theorem rep_short {n : List Int} {n0 : Int} (hinv : (n.getD 0 0 * n0 + 1) % 4294967296 = 0) {a b z : List Int} {x y : Int} (ha : rep n a x) (hb : rep n b y) (hz : shortS n a b z) : rep n z (x * y) := by
  obtain ⟨_, _, _, Q1, h1⟩ := ha
  obtain ⟨_, _, _, Q2, h2⟩ := hb
  obtain ⟨h3, h4, h5, Q3, h6⟩ := hz
  refine ⟨h3, h4, h5, ?_⟩
  have : pw n.length * val z = pw n.length * (pw n.length * (x * y)) + (pw n.length * x * Q2 + Q1 * val b + Q3) * val n := by rw [h6, h1, h2]; grind
  exact cancel hinv this

theorem rep_in {n : List Int} {n0 : Int} (hinv : (n.getD 0 0 * n0 + 1) % 4294967296 = 0) {a rr z : List Int} {Q0 : Int} (h0 : pw n.length * pw n.length = val rr + Q0 * val n) (hz : shortS n a rr z) : rep n z (val a) := by
  obtain ⟨h3, h4, h5, Q3, h6⟩ := hz
  refine ⟨h3, h4, h5, ?_⟩
  have : pw n.length * val z = pw n.length * (pw n.length * val a) + (Q3 - val a * Q0) * val n := by rw [h6]; grind
  exact cancel hinv this

theorem rep_out {n : List Int} {n0 : Int} (hinv : (n.getD 0 0 * n0 + 1) % 4294967296 = 0) {a one z : List Int} {x : Int} (ha : rep n a x) (h1 : val one = 1) (hz : shortS n a one z) : val z = x % val n := by
  obtain ⟨_, _, _, Q1, h2⟩ := ha
  obtain ⟨h3, h4, h5, Q3, h6⟩ := hz
  have : pw n.length * val z = pw n.length * x + (Q1 + Q3) * val n := by rw [h6, h1, h2]; grind
  obtain ⟨Q, hQ⟩ := cancel hinv this
  exact mod_eq hQ (val_nonneg h4) h5

/-- A 1, in limbs. -/
def oneL (w : Nat) : List Int := (List.replicate w 0).set 0 1
theorem oneL_len (w : Nat) : (oneL w).length = w := by simp [oneL]
theorem oneL_val {w : Nat} (h : 0 < w) : val (oneL w) = 1 := by
  cases w with
  | zero => omega
  | succ w => simp [oneL, List.replicate_succ, val, val_zero]
theorem oneL_wf (w : Nat) : wfl (oneL w) := by
  unfold oneL
  refine wfl.set (fun x hx => ?_) 0 (by omega)
  simp at hx; omega

theorem bit_u8 {c : Int} (h0 : 0 ≤ c) (h1 : c < 256) (m : Nat) (hm : m ≤ 7) : bitsK .and .u8 (c / 2 ^ (min (m : Int).toNat (IntKind.bits .u8))) 1 = (c / 2 ^ m) % 2 := by
  rw [Int.toNat_natCast, Nat.min_eq_left (by simp [IntKind.bits]; omega)]
  have hd : 0 ≤ c / 2 ^ m := Int.ediv_nonneg h0 (by exact Int.le_of_lt (Int.pow_pos (by omega)))
  have hd2 : c / 2 ^ m ≤ c := Int.ediv_le_self _ h0
  generalize c / 2 ^ m = d at *
  obtain ⟨k, rfl⟩ : ∃ k : Nat, d = k := ⟨d.toNat, by omega⟩
  have hk : k < 256 := by omega
  have : ∀ k : Fin 256, bitsK .and .u8 ((k.val : Nat) : Int) 1 = ((k.val : Nat) : Int) % 2 := by decide +kernel
  exact this ⟨k, hk⟩

theorem exp_step (e c m : Nat) (hm : m + 1 ≤ 8) : e * 2 ^ (8 - m) + c / 2 ^ m = 2 * (e * 2 ^ (8 - (m + 1)) + c / 2 ^ (m + 1)) + c / 2 ^ m % 2 := by
  have e1 : 8 - m = (8 - (m + 1)) + 1 := by omega
  have e2 : c / 2 ^ (m + 1) = c / 2 ^ m / 2 := by rw [Nat.pow_succ, Nat.div_div_eq_div_mul]
  rw [e2, e1, Nat.pow_succ, ← Nat.mul_assoc]
  omega

def told18 : AW.Told := ⟨fun _ => false, fun r i => if r == 1 && i == 3 then [17] else if r == 8 && i == 6 then [40] else [], fun _ => .done⟩

theorem f18 (n : List Int) (n0 : Int) (rr a exp : List Int) (h : Ring n n0 rr) (ha : wfl a) (he : ∀ b ∈ exp, 0 ≤ b ∧ b < 256) :
    Imm Try.prog 18 [.d (ringD n n0 rr), .d (nat a), .d (.ints .u8 exp)] (fun r => if notEl n a then r = .tup [.nls (nat []), i64 13] else if 1024 < exp.length then r = .tup [.nls (nat []), i64 11] else ∃ z, r = .tup [.d (nat z), i64 0] ∧ z.length = n.length ∧ wfl z ∧ val z = (val a ^ ev exp) % val n) := by
  have hbl := h.hbn
  unfold bad at hbl
  simp at hbl
  have hnp : 0 < n.length := List.length_pos_iff.2 hbl.1
  (refine Imm.of_awp told18 [] Try.func18 rfl (by decide) (Nat.le_of_ble_eq_true rfl) ?_; intro _w0 _S0 _E0 _B0; ((conv => whnf); repeat' (first | (refine And.intro ?_ ?_; (focus (first | rfl | decide | assumption | omega | decide +kernel | exact ⟨rfl, rfl⟩ | exact ⟨rfl, rfl, rfl, rfl⟩ | exact fun h => Bool.noConfusion h | exact fun _ => rfl | exact Nat.le_of_ble_eq_true rfl | (simp only [List.length_map, List.length_append, List.length_replicate, List.length_take, List.length_drop, List.length_set, List.length_cons, List.length_nil]; omega))); (conv => whnf)) | ((refine And.intro ?_ ?_ <;> intro _h); all_goals ((first | replace _h := of_decide_eq_true _h | replace _h := of_decide_eq_false _h | skip); (try simp only [Bool.not_eq_true', Bool.not_eq_false', Bool.not_true, Bool.not_false, decide_eq_true_eq, decide_eq_false_iff_not] at _h); (try (guard_hyp _h : True; clear _h)); first | done | contradiction | exact absurd ((Eq.symm _h).trans (show _ = true by assumption)) (by decide) | exact absurd ((Eq.symm _h).trans (show _ = false by assumption)) (by decide) | (conv => whnf))) | (intro _h; ((first | replace _h := of_decide_eq_true _h | replace _h := of_decide_eq_false _h | skip); (try simp only [Bool.not_eq_true', Bool.not_eq_false', Bool.not_true, Bool.not_false, decide_eq_true_eq, decide_eq_false_iff_not] at _h); (try (guard_hyp _h : True; clear _h)); first | done | contradiction | exact absurd ((Eq.symm _h).trans (show _ = true by assumption)) (by decide) | exact absurd ((Eq.symm _h).trans (show _ = false by assumption)) (by decide) | (conv => whnf))))))
  refine acallI (f33 n n0 rr [a] h.hn (by intro x hx; simp at hx; subst hx; assumption) h.hbn) rfl fun r hr => ?_
  subst hr
  ((conv => whnf); repeat' (first | (refine And.intro ?_ ?_; (focus (first | rfl | decide | assumption | omega | decide +kernel | exact ⟨rfl, rfl⟩ | exact ⟨rfl, rfl, rfl, rfl⟩ | exact fun h => Bool.noConfusion h | exact fun _ => rfl | exact Nat.le_of_ble_eq_true rfl | (simp only [List.length_map, List.length_append, List.length_replicate, List.length_take, List.length_drop, List.length_set, List.length_cons, List.length_nil]; omega))); (conv => whnf)) | ((refine And.intro ?_ ?_ <;> intro _h); all_goals ((first | replace _h := of_decide_eq_true _h | replace _h := of_decide_eq_false _h | skip); (try simp only [Bool.not_eq_true', Bool.not_eq_false', Bool.not_true, Bool.not_false, decide_eq_true_eq, decide_eq_false_iff_not] at _h); (try (guard_hyp _h : True; clear _h)); first | done | contradiction | exact absurd ((Eq.symm _h).trans (show _ = true by assumption)) (by decide) | exact absurd ((Eq.symm _h).trans (show _ = false by assumption)) (by decide) | (conv => whnf))) | (intro _h; ((first | replace _h := of_decide_eq_true _h | replace _h := of_decide_eq_false _h | skip); (try simp only [Bool.not_eq_true', Bool.not_eq_false', Bool.not_true, Bool.not_false, decide_eq_true_eq, decide_eq_false_iff_not] at _h); (try (guard_hyp _h : True; clear _h)); first | done | contradiction | exact absurd ((Eq.symm _h).trans (show _ = true by assumption)) (by decide) | exact absurd ((Eq.symm _h).trans (show _ = false by assumption)) (by decide) | (conv => whnf)))))
  · refine Ends.imm rfl ?_
    simp at _h
    rw [if_pos _h]
  · refine Ends.imm rfl ?_
    rename_i h1
    simp at h1
    rw [if_neg (by simp [h1]), if_pos (by omega)]
  · rename_i h1
    simp at h1
    obtain ⟨ha1, ha2⟩ := el_of h1
    obtain ⟨Q0, hQ0⟩ := h.hrr
    refine acallI (h.short ha h.hr ha1 h.hrl h.hrv) rfl fun r hr => ?_
    obtain ⟨base, rfl, hb⟩ := hr
    have rb := rep_in h.hinv hQ0 hb
    ((conv => whnf); repeat' (first | (refine And.intro ?_ ?_; (focus (first | rfl | decide | assumption | omega | decide +kernel | exact ⟨rfl, rfl⟩ | exact ⟨rfl, rfl, rfl, rfl⟩ | exact fun h => Bool.noConfusion h | exact fun _ => rfl | exact Nat.le_of_ble_eq_true rfl | (simp only [List.length_map, List.length_append, List.length_replicate, List.length_take, List.length_drop, List.length_set, List.length_cons, List.length_nil]; omega))); (conv => whnf)) | ((refine And.intro ?_ ?_ <;> intro _h); all_goals ((first | replace _h := of_decide_eq_true _h | replace _h := of_decide_eq_false _h | skip); (try simp only [Bool.not_eq_true', Bool.not_eq_false', Bool.not_true, Bool.not_false, decide_eq_true_eq, decide_eq_false_iff_not] at _h); (try (guard_hyp _h : True; clear _h)); first | done | contradiction | exact absurd ((Eq.symm _h).trans (show _ = true by assumption)) (by decide) | exact absurd ((Eq.symm _h).trans (show _ = false by assumption)) (by decide) | (conv => whnf))) | (intro _h; ((first | replace _h := of_decide_eq_true _h | replace _h := of_decide_eq_false _h | skip); (try simp only [Bool.not_eq_true', Bool.not_eq_false', Bool.not_true, Bool.not_false, decide_eq_true_eq, decide_eq_false_iff_not] at _h); (try (guard_hyp _h : True; clear _h)); first | done | contradiction | exact absurd ((Eq.symm _h).trans (show _ = true by assumption)) (by decide) | exact absurd ((Eq.symm _h).trans (show _ = false by assumption)) (by decide) | (conv => whnf)))))
    refine acallI (h.short (oneL_wf n.length) h.hr (oneL_len _) h.hrl h.hrv) rfl fun r hr => ?_
    obtain ⟨out, rfl, ho⟩ := hr
    have ro := rep_in h.hinv hQ0 ho
    rw [oneL_val hnp] at ro
    ((conv => whnf); repeat' (first | (refine And.intro ?_ ?_; (focus (first | rfl | decide | assumption | omega | decide +kernel | exact ⟨rfl, rfl⟩ | exact ⟨rfl, rfl, rfl, rfl⟩ | exact fun h => Bool.noConfusion h | exact fun _ => rfl | exact Nat.le_of_ble_eq_true rfl | (simp only [List.length_map, List.length_append, List.length_replicate, List.length_take, List.length_drop, List.length_set, List.length_cons, List.length_nil]; omega))); (conv => whnf)) | ((refine And.intro ?_ ?_ <;> intro _h); all_goals ((first | replace _h := of_decide_eq_true _h | replace _h := of_decide_eq_false _h | skip); (try simp only [Bool.not_eq_true', Bool.not_eq_false', Bool.not_true, Bool.not_false, decide_eq_true_eq, decide_eq_false_iff_not] at _h); (try (guard_hyp _h : True; clear _h)); first | done | contradiction | exact absurd ((Eq.symm _h).trans (show _ = true by assumption)) (by decide) | exact absurd ((Eq.symm _h).trans (show _ = false by assumption)) (by decide) | (conv => whnf))) | (intro _h; ((first | replace _h := of_decide_eq_true _h | replace _h := of_decide_eq_false _h | skip); (try simp only [Bool.not_eq_true', Bool.not_eq_false', Bool.not_true, Bool.not_false, decide_eq_true_eq, decide_eq_false_iff_not] at _h); (try (guard_hyp _h : True; clear _h)); first | done | contradiction | exact absurd ((Eq.symm _h).trans (show _ = true by assumption)) (by decide) | exact absurd ((Eq.symm _h).trans (show _ = false by assumption)) (by decide) | (conv => whnf)))))
    refine aloop (T := told18) (ι := Nat × List Int) (fun x => [(0, .d (ringD n n0 rr)), (8, .d (nat (oneL n.length))), (9, .d (nat base)), (10, .d (nat x.2)), (46, .d (.ints .u8 exp)), (47, i64 exp.length), (48, i64 x.1)]) (fun x => []) 74 0
      (fun x => exp.length - x.1) (fun x => x.1 ≤ exp.length ∧ rep n x.2 (val a ^ ev (exp.take x.1))) ⟨(0, out), [], rfl, ⟨by omega, by simpa [ev] using ro⟩, by (refine ⟨rfl, rfl, ?_, ?_⟩ <;> repeat' (first | exact True.intro | rfl | decide | (refine And.intro ?_ ?_)))⟩ ?_
    intro ⟨i, o⟩ ⟨hi, hro⟩
    dsimp only at hi hro ⊢
    ((conv => whnf); repeat' (first | (refine And.intro ?_ ?_; (focus (first | rfl | decide | assumption | omega | decide +kernel | exact ⟨rfl, rfl⟩ | exact ⟨rfl, rfl, rfl, rfl⟩ | exact fun h => Bool.noConfusion h | exact fun _ => rfl | exact Nat.le_of_ble_eq_true rfl | (simp only [List.length_map, List.length_append, List.length_replicate, List.length_take, List.length_drop, List.length_set, List.length_cons, List.length_nil]; omega))); (conv => whnf)) | ((refine And.intro ?_ ?_ <;> intro _h); all_goals ((first | replace _h := of_decide_eq_true _h | replace _h := of_decide_eq_false _h | skip); (try simp only [Bool.not_eq_true', Bool.not_eq_false', Bool.not_true, Bool.not_false, decide_eq_true_eq, decide_eq_false_iff_not] at _h); (try (guard_hyp _h : True; clear _h)); first | done | contradiction | exact absurd ((Eq.symm _h).trans (show _ = true by assumption)) (by decide) | exact absurd ((Eq.symm _h).trans (show _ = false by assumption)) (by decide) | (conv => whnf))) | (intro _h; ((first | replace _h := of_decide_eq_true _h | replace _h := of_decide_eq_false _h | skip); (try simp only [Bool.not_eq_true', Bool.not_eq_false', Bool.not_true, Bool.not_false, decide_eq_true_eq, decide_eq_false_iff_not] at _h); (try (guard_hyp _h : True; clear _h)); first | done | contradiction | exact absurd ((Eq.symm _h).trans (show _ = true by assumption)) (by decide) | exact absurd ((Eq.symm _h).trans (show _ = false by assumption)) (by decide) | (conv => whnf)))))
    · obtain ⟨c, hc⟩ : ∃ c, exp.getD (i : Int).toNat 0 = c := ⟨_, rfl⟩
      have hcm : c ∈ exp := by
        rw [← hc, Int.toNat_natCast, List.getD_eq_getElem?_getD, List.getElem?_eq_getElem (by omega)]
        exact List.getElem_mem _
      have hcb := he c hcm
      rw [hc]
      refine aloop (T := told18) (ι := Nat × List Int) (fun x => [(0, .d (ringD n n0 rr)), (8, .d (nat (oneL n.length))), (9, .d (nat base)), (10, .d (nat x.2)), (46, .d (.ints .u8 exp)), (47, i64 exp.length), (48, i64 i), (12, .d (.int .u8 c)), (13, i64 ((x.1 : Int) - 1))]) (fun x => []) 74 0
        (fun x => x.1) (fun x => x.1 ≤ 8 ∧ rep n x.2 (val a ^ (ev (exp.take i) * 2 ^ (8 - x.1) + c.toNat / 2 ^ x.1))) ⟨(8, o), [], rfl, ⟨by omega, ?_⟩, by (refine ⟨rfl, rfl, ?_, ?_⟩ <;> repeat' (first | exact True.intro | rfl | decide | (refine And.intro ?_ ?_)))⟩ ?_
      · have : c.toNat / 2 ^ 8 = 0 := Nat.div_eq_of_lt (by omega)
        simpa [this] using hro
      intro ⟨m, o2⟩ ⟨hm, hro2⟩
      dsimp only at hm hro2 ⊢
      ((conv => whnf); repeat' (first | (refine And.intro ?_ ?_; (focus (first | rfl | decide | assumption | omega | decide +kernel | exact ⟨rfl, rfl⟩ | exact ⟨rfl, rfl, rfl, rfl⟩ | exact fun h => Bool.noConfusion h | exact fun _ => rfl | exact Nat.le_of_ble_eq_true rfl | (simp only [List.length_map, List.length_append, List.length_replicate, List.length_take, List.length_drop, List.length_set, List.length_cons, List.length_nil]; omega))); (conv => whnf)) | ((refine And.intro ?_ ?_ <;> intro _h); all_goals ((first | replace _h := of_decide_eq_true _h | replace _h := of_decide_eq_false _h | skip); (try simp only [Bool.not_eq_true', Bool.not_eq_false', Bool.not_true, Bool.not_false, decide_eq_true_eq, decide_eq_false_iff_not] at _h); (try (guard_hyp _h : True; clear _h)); first | done | contradiction | exact absurd ((Eq.symm _h).trans (show _ = true by assumption)) (by decide) | exact absurd ((Eq.symm _h).trans (show _ = false by assumption)) (by decide) | (conv => whnf))) | (intro _h; ((first | replace _h := of_decide_eq_true _h | replace _h := of_decide_eq_false _h | skip); (try simp only [Bool.not_eq_true', Bool.not_eq_false', Bool.not_true, Bool.not_false, decide_eq_true_eq, decide_eq_false_iff_not] at _h); (try (guard_hyp _h : True; clear _h)); first | done | contradiction | exact absurd ((Eq.symm _h).trans (show _ = true by assumption)) (by decide) | exact absurd ((Eq.symm _h).trans (show _ = false by assumption)) (by decide) | (conv => whnf)))))
      · obtain ⟨m', rfl⟩ : ∃ k, m = k + 1 := ⟨m - 1, by omega⟩
        have em : ((m' + 1 : Nat) : Int) - 1 = m' := by omega
        rw [em]
        refine acallI (h.short hro2.2.1 hro2.2.1 hro2.1 hro2.1 hro2.2.2.1) rfl fun r hr => ?_
        obtain ⟨sq, rfl, hsq⟩ := hr
        have rsq := rep_short h.hinv hro2 hro2 hsq
        have hes := exp_step (ev (exp.take i)) c.toNat m' hm
        have hbit : (c / 2 ^ m') % 2 = ((c.toNat / 2 ^ m' % 2 : Nat) : Int) := by
          obtain ⟨k, rfl⟩ : ∃ k : Nat, c = k := ⟨c.toNat, by omega⟩
          simp
        have hpp : val a ^ (ev (exp.take i) * 2 ^ (8 - (m' + 1)) + c.toNat / 2 ^ (m' + 1)) * val a ^ (ev (exp.take i) * 2 ^ (8 - (m' + 1)) + c.toNat / 2 ^ (m' + 1)) = val a ^ (2 * (ev (exp.take i) * 2 ^ (8 - (m' + 1)) + c.toNat / 2 ^ (m' + 1))) := by
          rw [← Int.pow_add]; congr 1; omega
        rw [hpp] at rsq
        ((conv => whnf); repeat' (first | (refine And.intro ?_ ?_; (focus (first | rfl | decide | assumption | omega | decide +kernel | exact ⟨rfl, rfl⟩ | exact ⟨rfl, rfl, rfl, rfl⟩ | exact fun h => Bool.noConfusion h | exact fun _ => rfl | exact Nat.le_of_ble_eq_true rfl | (simp only [List.length_map, List.length_append, List.length_replicate, List.length_take, List.length_drop, List.length_set, List.length_cons, List.length_nil]; omega))); (conv => whnf)) | ((refine And.intro ?_ ?_ <;> intro _h); all_goals ((first | replace _h := of_decide_eq_true _h | replace _h := of_decide_eq_false _h | skip); (try simp only [Bool.not_eq_true', Bool.not_eq_false', Bool.not_true, Bool.not_false, decide_eq_true_eq, decide_eq_false_iff_not] at _h); (try (guard_hyp _h : True; clear _h)); first | done | contradiction | exact absurd ((Eq.symm _h).trans (show _ = true by assumption)) (by decide) | exact absurd ((Eq.symm _h).trans (show _ = false by assumption)) (by decide) | (conv => whnf))) | (intro _h; ((first | replace _h := of_decide_eq_true _h | replace _h := of_decide_eq_false _h | skip); (try simp only [Bool.not_eq_true', Bool.not_eq_false', Bool.not_true, Bool.not_false, decide_eq_true_eq, decide_eq_false_iff_not] at _h); (try (guard_hyp _h : True; clear _h)); first | done | contradiction | exact absurd ((Eq.symm _h).trans (show _ = true by assumption)) (by decide) | exact absurd ((Eq.symm _h).trans (show _ = false by assumption)) (by decide) | (conv => whnf)))))
        · rw [bit_u8 hcb.1 hcb.2 m' (by omega), hbit] at _h
          refine acallI (h.short rsq.2.1 rb.2.1 rsq.1 rb.1 rb.2.2.1) rfl fun r hr => ?_
          obtain ⟨z, rfl, hz⟩ := hr
          have rz := rep_short h.hinv rsq rb hz
          ((conv => whnf); repeat' (first | (refine And.intro ?_ ?_; (focus (first | rfl | decide | assumption | omega | decide +kernel | exact ⟨rfl, rfl⟩ | exact ⟨rfl, rfl, rfl, rfl⟩ | exact fun h => Bool.noConfusion h | exact fun _ => rfl | exact Nat.le_of_ble_eq_true rfl | (simp only [List.length_map, List.length_append, List.length_replicate, List.length_take, List.length_drop, List.length_set, List.length_cons, List.length_nil]; omega))); (conv => whnf)) | ((refine And.intro ?_ ?_ <;> intro _h); all_goals ((first | replace _h := of_decide_eq_true _h | replace _h := of_decide_eq_false _h | skip); (try simp only [Bool.not_eq_true', Bool.not_eq_false', Bool.not_true, Bool.not_false, decide_eq_true_eq, decide_eq_false_iff_not] at _h); (try (guard_hyp _h : True; clear _h)); first | done | contradiction | exact absurd ((Eq.symm _h).trans (show _ = true by assumption)) (by decide) | exact absurd ((Eq.symm _h).trans (show _ = false by assumption)) (by decide) | (conv => whnf))) | (intro _h; ((first | replace _h := of_decide_eq_true _h | replace _h := of_decide_eq_false _h | skip); (try simp only [Bool.not_eq_true', Bool.not_eq_false', Bool.not_true, Bool.not_false, decide_eq_true_eq, decide_eq_false_iff_not] at _h); (try (guard_hyp _h : True; clear _h)); first | done | contradiction | exact absurd ((Eq.symm _h).trans (show _ = true by assumption)) (by decide) | exact absurd ((Eq.symm _h).trans (show _ = false by assumption)) (by decide) | (conv => whnf)))))
          refine ⟨(m', z), [], by dsimp only; omega, ⟨by dsimp only; omega, ?_⟩, rfl, ?_⟩
          · dsimp only
            rw [hes, show c.toNat / 2 ^ m' % 2 = 1 by omega, Int.pow_succ]
            exact rz
          · (refine ⟨rfl, rfl, ?_, ?_⟩ <;> repeat' (first | exact True.intro | rfl | decide | (refine And.intro ?_ ?_)))
            refine di ?_
            rw [wrap_i64 (by omega) (by omega)]
        · rw [bit_u8 hcb.1 hcb.2 m' (by omega), hbit] at _h
          refine ⟨(m', sq), [], by dsimp only; omega, ⟨by dsimp only; omega, ?_⟩, rfl, ?_⟩
          · dsimp only
            rw [hes, show c.toNat / 2 ^ m' % 2 = 0 by omega, Nat.add_zero]
            exact rsq
          · (refine ⟨rfl, rfl, ?_, ?_⟩ <;> repeat' (first | exact True.intro | rfl | decide | (refine And.intro ?_ ?_)))
            refine di ?_
            rw [wrap_i64 (by omega) (by omega)]
      · have hm0 : m = 0 := by omega
        subst hm0
        refine ⟨(i + 1, o2), [], by dsimp only; omega, ⟨by dsimp only; omega, ?_⟩, rfl, ?_⟩
        · dsimp only
          have hc' : exp.getD i 0 = c := hc
          rw [take_snoc (by omega), ev_snoc, hc']
          simpa using hro2
        · (refine ⟨rfl, rfl, ?_, ?_⟩ <;> repeat' (first | exact True.intro | rfl | decide | (refine And.intro ?_ ?_)))
          refine di ?_
          rw [wrap_i64 (by omega) (by omega)]; rfl
    · have hie : i = exp.length := by omega
      subst hie
      have h1v : val (oneL n.length) < val n := by
        rw [oneL_val hnp]
        exact h.h1
      refine acallI (h.short hro.2.1 (oneL_wf n.length) hro.1 (oneL_len _) h1v) rfl fun r hr => ?_
      obtain ⟨z, rfl, hz⟩ := hr
      ((conv => whnf); repeat' (first | (refine And.intro ?_ ?_; (focus (first | rfl | decide | assumption | omega | decide +kernel | exact ⟨rfl, rfl⟩ | exact ⟨rfl, rfl, rfl, rfl⟩ | exact fun h => Bool.noConfusion h | exact fun _ => rfl | exact Nat.le_of_ble_eq_true rfl | (simp only [List.length_map, List.length_append, List.length_replicate, List.length_take, List.length_drop, List.length_set, List.length_cons, List.length_nil]; omega))); (conv => whnf)) | ((refine And.intro ?_ ?_ <;> intro _h); all_goals ((first | replace _h := of_decide_eq_true _h | replace _h := of_decide_eq_false _h | skip); (try simp only [Bool.not_eq_true', Bool.not_eq_false', Bool.not_true, Bool.not_false, decide_eq_true_eq, decide_eq_false_iff_not] at _h); (try (guard_hyp _h : True; clear _h)); first | done | contradiction | exact absurd ((Eq.symm _h).trans (show _ = true by assumption)) (by decide) | exact absurd ((Eq.symm _h).trans (show _ = false by assumption)) (by decide) | (conv => whnf))) | (intro _h; ((first | replace _h := of_decide_eq_true _h | replace _h := of_decide_eq_false _h | skip); (try simp only [Bool.not_eq_true', Bool.not_eq_false', Bool.not_true, Bool.not_false, decide_eq_true_eq, decide_eq_false_iff_not] at _h); (try (guard_hyp _h : True; clear _h)); first | done | contradiction | exact absurd ((Eq.symm _h).trans (show _ = true by assumption)) (by decide) | exact absurd ((Eq.symm _h).trans (show _ = false by assumption)) (by decide) | (conv => whnf)))))
      refine Ends.imm rfl ?_
      rw [if_neg (by simp [h1]), if_neg (by omega)]
      refine ⟨z, rfl, hz.1, hz.2.1, ?_⟩
      have := rep_out h.hinv hro (oneL_val hnp) hz
      rwa [List.take_of_length_le (Nat.le_refl _)] at this

end Go.Proofs.Ytniaeiikdgbnfaa.R
