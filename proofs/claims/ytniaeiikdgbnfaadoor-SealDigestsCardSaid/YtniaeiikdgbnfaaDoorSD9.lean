/- Parts R6, R7, M3, R8, R9, R10, R11, R12, R13, R14. No condition of its own. -/
import Derived.Test.YtniaeiikdgbnfaaDoorSD8
import Derived.Test.YtniaeiikdgbnfaaDoorSD5
import Derived.Test.YtniaeiikdgbnfaaDoorSD6
import Derived.Shelf.RegionOpen
import Derived.WalkKit
import Derived.TacticsInMore
import Derived.LoopIn
import Derived.OwnWalkIn

namespace Go.Proofs.YtniaeiikdgbnfaaDoor.R
open Go Go.RowKit Go.Proofs Go.Proofs.YtniaeiikdgbnfaaDoor.AW
set_option linter.unusedSectionVars false
variable [Globs]
set_option maxRecDepth 100000
set_option linter.unusedSimpArgs false
set_option linter.unusedVariables false
set_option maxHeartbeats 4000000

/-- What is no element. -/
def notEl (n x : List Int) : Bool := decide (x.length ≠ n.length) || decide (val n ≤ val x)

theorem sgn_nonneg (x y : Int) : 0 ≤ sgn x y ↔ y ≤ x := by
  unfold sgn
  split
  · omega
  · split <;> omega

theorem f43 (n : List Int) (n0 : Int) (rr x : List Int) (hn : wfl n) (hx : wfl x) (hbn : bad n = false) : Imm Tryd.prog 90 [.d (nat x), .d (.ptr (ringD n n0 rr))] (fun r => r = bool (notEl n x)) := by
  (refine Imm.of_awp told0 [] Tryd.func90 rfl (by decide) (Nat.le_of_ble_eq_true rfl) ?_; intro _w0 _S0 _E0 _B0; ((conv => whnf); repeat' (first | (refine And.intro ?_ ?_; (focus (first | rfl | decide | assumption | omega | decide +kernel | exact ⟨rfl, rfl⟩ | exact ⟨rfl, rfl, rfl, rfl⟩ | exact fun h => Bool.noConfusion h | exact fun _ => rfl | exact Nat.le_of_ble_eq_true rfl | (simp only [List.length_map, List.length_append, List.length_replicate, List.length_take, List.length_drop, List.length_set, List.length_cons, List.length_nil]; omega))); (conv => whnf)) | ((refine And.intro ?_ ?_ <;> intro _h); all_goals ((first | replace _h := of_decide_eq_true _h | replace _h := of_decide_eq_false _h | skip); (try simp only [Bool.not_eq_true', Bool.not_eq_false', Bool.not_true, Bool.not_false, decide_eq_true_eq, decide_eq_false_iff_not] at _h); (try (guard_hyp _h : True; clear _h)); first | done | contradiction | exact absurd ((Eq.symm _h).trans (show _ = true by assumption)) (by decide) | exact absurd ((Eq.symm _h).trans (show _ = false by assumption)) (by decide) | (conv => whnf))) | (intro _h; ((first | replace _h := of_decide_eq_true _h | replace _h := of_decide_eq_false _h | skip); (try simp only [Bool.not_eq_true', Bool.not_eq_false', Bool.not_true, Bool.not_false, decide_eq_true_eq, decide_eq_false_iff_not] at _h); (try (guard_hyp _h : True; clear _h)); first | done | contradiction | exact absurd ((Eq.symm _h).trans (show _ = true by assumption)) (by decide) | exact absurd ((Eq.symm _h).trans (show _ = false by assumption)) (by decide) | (conv => whnf))))))
  · have hl : x.length = n.length := by omega
    refine acallI (f23 x n hx hn (by unfold bad at hbn ⊢; rw [hl]; exact hbn) hbn) rfl fun r hr => ?_
    subst hr
    ((conv => whnf); repeat' (first | (refine And.intro ?_ ?_; (focus (first | rfl | decide | assumption | omega | decide +kernel | exact ⟨rfl, rfl⟩ | exact ⟨rfl, rfl, rfl, rfl⟩ | exact fun h => Bool.noConfusion h | exact fun _ => rfl | exact Nat.le_of_ble_eq_true rfl | (simp only [List.length_map, List.length_append, List.length_replicate, List.length_take, List.length_drop, List.length_set, List.length_cons, List.length_nil]; omega))); (conv => whnf)) | ((refine And.intro ?_ ?_ <;> intro _h); all_goals ((first | replace _h := of_decide_eq_true _h | replace _h := of_decide_eq_false _h | skip); (try simp only [Bool.not_eq_true', Bool.not_eq_false', Bool.not_true, Bool.not_false, decide_eq_true_eq, decide_eq_false_iff_not] at _h); (try (guard_hyp _h : True; clear _h)); first | done | contradiction | exact absurd ((Eq.symm _h).trans (show _ = true by assumption)) (by decide) | exact absurd ((Eq.symm _h).trans (show _ = false by assumption)) (by decide) | (conv => whnf))) | (intro _h; ((first | replace _h := of_decide_eq_true _h | replace _h := of_decide_eq_false _h | skip); (try simp only [Bool.not_eq_true', Bool.not_eq_false', Bool.not_true, Bool.not_false, decide_eq_true_eq, decide_eq_false_iff_not] at _h); (try (guard_hyp _h : True; clear _h)); first | done | contradiction | exact absurd ((Eq.symm _h).trans (show _ = true by assumption)) (by decide) | exact absurd ((Eq.symm _h).trans (show _ = false by assumption)) (by decide) | (conv => whnf)))))
    refine Ends.imm rfl ?_
    unfold bool notEl
    congr 2
    rw [show decide (x.length ≠ n.length) = false by simp [hl], Bool.false_or, decide_eq_decide]
    exact sgn_nonneg _ _
  · refine Ends.imm rfl ?_
    unfold bool notEl
    congr 2
    rw [show decide (x.length ≠ n.length) = true by simp; omega, Bool.true_or]

def told33 : AW.Told := ⟨fun _ => false, fun r i => if r == 1 && i == 1 then [2] else [], fun _ => .done⟩

theorem f33 (n : List Int) (n0 : Int) (rr : List Int) (xss : List (List Int)) (hn : wfl n) (hxs : ∀ x ∈ xss, wfl x) (hbn : bad n = false) :
    Imm Tryd.prog 59 [.d (ringD n n0 rr), .d (.sl 1 (xss.map nat))] (fun r => r = bool (!xss.any (notEl n))) := by
  (refine Imm.of_awp told33 [] Tryd.func59 rfl (by decide) (Nat.le_of_ble_eq_true rfl) ?_; intro _w0 _S0 _E0 _B0; ((conv => whnf); repeat' (first | (refine And.intro ?_ ?_; (focus (first | rfl | decide | assumption | omega | decide +kernel | exact ⟨rfl, rfl⟩ | exact ⟨rfl, rfl, rfl, rfl⟩ | exact fun h => Bool.noConfusion h | exact fun _ => rfl | exact Nat.le_of_ble_eq_true rfl | (simp only [List.length_map, List.length_append, List.length_replicate, List.length_take, List.length_drop, List.length_set, List.length_cons, List.length_nil]; omega))); (conv => whnf)) | ((refine And.intro ?_ ?_ <;> intro _h); all_goals ((first | replace _h := of_decide_eq_true _h | replace _h := of_decide_eq_false _h | skip); (try simp only [Bool.not_eq_true', Bool.not_eq_false', Bool.not_true, Bool.not_false, decide_eq_true_eq, decide_eq_false_iff_not] at _h); (try (guard_hyp _h : True; clear _h)); first | done | contradiction | exact absurd ((Eq.symm _h).trans (show _ = true by assumption)) (by decide) | exact absurd ((Eq.symm _h).trans (show _ = false by assumption)) (by decide) | (conv => whnf))) | (intro _h; ((first | replace _h := of_decide_eq_true _h | replace _h := of_decide_eq_false _h | skip); (try simp only [Bool.not_eq_true', Bool.not_eq_false', Bool.not_true, Bool.not_false, decide_eq_true_eq, decide_eq_false_iff_not] at _h); (try (guard_hyp _h : True; clear _h)); first | done | contradiction | exact absurd ((Eq.symm _h).trans (show _ = true by assumption)) (by decide) | exact absurd ((Eq.symm _h).trans (show _ = false by assumption)) (by decide) | (conv => whnf))))))
  refine acallI (f42 90 [.ptr (ringD n n0 rr)] (notEl n) xss rfl fun x hx => f43 n n0 rr x hn (hxs x hx) hbn) rfl fun r hr => ?_
  subst hr
  ((conv => whnf); repeat' (first | (refine And.intro ?_ ?_; (focus (first | rfl | decide | assumption | omega | decide +kernel | exact ⟨rfl, rfl⟩ | exact ⟨rfl, rfl, rfl, rfl⟩ | exact fun h => Bool.noConfusion h | exact fun _ => rfl | exact Nat.le_of_ble_eq_true rfl | (simp only [List.length_map, List.length_append, List.length_replicate, List.length_take, List.length_drop, List.length_set, List.length_cons, List.length_nil]; omega))); (conv => whnf)) | ((refine And.intro ?_ ?_ <;> intro _h); all_goals ((first | replace _h := of_decide_eq_true _h | replace _h := of_decide_eq_false _h | skip); (try simp only [Bool.not_eq_true', Bool.not_eq_false', Bool.not_true, Bool.not_false, decide_eq_true_eq, decide_eq_false_iff_not] at _h); (try (guard_hyp _h : True; clear _h)); first | done | contradiction | exact absurd ((Eq.symm _h).trans (show _ = true by assumption)) (by decide) | exact absurd ((Eq.symm _h).trans (show _ = false by assumption)) (by decide) | (conv => whnf))) | (intro _h; ((first | replace _h := of_decide_eq_true _h | replace _h := of_decide_eq_false _h | skip); (try simp only [Bool.not_eq_true', Bool.not_eq_false', Bool.not_true, Bool.not_false, decide_eq_true_eq, decide_eq_false_iff_not] at _h); (try (guard_hyp _h : True; clear _h)); first | done | contradiction | exact absurd ((Eq.symm _h).trans (show _ = true by assumption)) (by decide) | exact absurd ((Eq.symm _h).trans (show _ = false by assumption)) (by decide) | (conv => whnf)))))
  exact Ends.imm rfl rfl

/-- What is odd divides no power of 2 out. -/
theorem odd_cancel {n : List Int} {n0 : Int} (hinv : (n.getD 0 0 * n0 + 1) % 4294967296 = 0) : ∃ u v : Int, u * 4294967296 + v * val n = 1 := by
  have e3 := val_step n
  generalize n.getD 0 0 = m at *
  have e5 : m * n0 + 1 = 4294967296 * ((m * n0 + 1) / 4294967296) := by omega
  generalize (m * n0 + 1) / 4294967296 = e at *
  refine ⟨e + n0 * val n.tail, -n0, ?_⟩
  rw [e3]
  grind

theorem pw_cancel {n : List Int} {n0 : Int} (hinv : (n.getD 0 0 * n0 + 1) % 4294967296 = 0) : ∀ w, ∃ u v : Int, u * pw w + v * val n = 1
  | 0 => ⟨1, 0, by simp [pw_zero]⟩
  | w + 1 => by
    obtain ⟨u, v, h⟩ := pw_cancel hinv w
    obtain ⟨u', v', h'⟩ := odd_cancel hinv
    refine ⟨u * u', v + u * pw w * v', ?_⟩
    rw [pw_succ]
    grind

/-- Equal by a power of 2, equal. -/
theorem cancel {n : List Int} {n0 : Int} (hinv : (n.getD 0 0 * n0 + 1) % 4294967296 = 0) {w : Nat} {x y Q : Int} (h : pw w * x = pw w * y + Q * val n) : ∃ Q', x = y + Q' * val n := by
  obtain ⟨u, v, e⟩ := pw_cancel hinv w
  refine ⟨u * Q + v * (x - y), ?_⟩
  grind

theorem mod_eq {N x y Q : Int} (h : x = y + Q * N) (h0 : 0 ≤ x) (h1 : x < N) : x = y % N := by
  have : y = x + -Q * N := by grind
  rw [this, Int.add_mul_emod_self_right, Int.emod_eq_of_lt h0 h1]

/-- A ring that is right. -/
structure Ring (n : List Int) (n0 : Int) (rr : List Int) : Prop where
  hn : wfl n
  hbn : bad n = false
  hn0 : 0 ≤ n0 ∧ n0 < 4294967296
  hinv : (n.getD 0 0 * n0 + 1) % 4294967296 = 0
  hr : wfl rr
  hrl : rr.length = n.length
  hrv : val rr < val n
  h1 : 1 < val n
  hrr : ∃ Q, pw n.length * pw n.length = val rr + Q * val n

def told25 : AW.Told := ⟨fun _ => false, fun r i => if r == 1 && i == 4 then [11] else [], fun _ => .done⟩

theorem el_of {n x : List Int} (h : notEl n x = false) : x.length = n.length ∧ val x < val n := by
  unfold notEl at h
  simp at h
  omega

/-- What a product short of a factor is. -/
def shortS (n a b z : List Int) : Prop := z.length = n.length ∧ wfl z ∧ val z < val n ∧ ∃ Q, pw n.length * val z = val a * val b + Q * val n

theorem Ring.short {n : List Int} {n0 : Int} {rr a b : List Int} (h : Ring n n0 rr) (ha : wfl a) (hb : wfl b) (hla : a.length = n.length) (hlb : b.length = n.length) (hbv : val b < val n) :
    Imm Tryd.prog 60 [.d (ringD n n0 rr), .d (nat a), .d (nat b)] (fun r => ∃ z, r = .d (nat z) ∧ shortS n a b z) :=
  f34 n n0 rr a b h.hn h.hn0 ha hb h.hbn hla hlb h.hinv hbv


/-- A big-endian number. -/
def ev (bs : List Int) : Nat := bs.foldl (fun acc b => acc * 256 + b.toNat) 0
theorem ev_snoc (bs : List Int) (b : Int) : ev (bs ++ [b]) = ev bs * 256 + b.toNat := by simp [ev]

/-- 'o' stands for 'v' times the width's power. -/
def rep (n o : List Int) (v : Int) : Prop := o.length = n.length ∧ wfl o ∧ val o < val n ∧ ∃ Q, val o = pw n.length * v + Q * val n

theorem rep_short {n : List Int} {n0 : Int} (hinv : (n.getD 0 0 * n0 + 1) % 4294967296 = 0) {a b z : List Int} {x y : Int} (ha : rep n a x) (hb : rep n b y) (hz : shortS n a b z) : rep n z (x * y) := by
  obtain ⟨_, _, _, Q1, h1⟩ := ha
  obtain ⟨_, _, _, Q2, h2⟩ := hb
  obtain ⟨h3, h4, h5, Q3, h6⟩ := hz
  refine ⟨h3, h4, h5, ?_⟩
  have : pw n.length * val z = pw n.length * (pw n.length * (x * y)) + (pw n.length * x * Q2 + Q1 * val b + Q3) * val n := by rw [h6, h1, h2]; grind
  exact cancel hinv this

theorem rep_in {n : List Int} {n0 : Int} (hinv : (n.getD 0 0 * n0 + 1) % 4294967296 = 0) {a rr z : List Int} {Q0 : Int} (h0 : pw n.length * pw n.length = val rr + Q0 * val n) (hz : shortS n a rr z) : rep n z (val a) := by
  obtain ⟨h3, h4, h5, Q3, h6⟩ := hz
  refine ⟨h3, h4, h5, ?_⟩
  have : pw n.length * val z = pw n.length * (pw n.length * val a) + (Q3 - val a * Q0) * val n := by rw [h6]; grind
  exact cancel hinv this

theorem rep_out {n : List Int} {n0 : Int} (hinv : (n.getD 0 0 * n0 + 1) % 4294967296 = 0) {a one z : List Int} {x : Int} (ha : rep n a x) (h1 : val one = 1) (hz : shortS n a one z) : val z = x % val n := by
  obtain ⟨_, _, _, Q1, h2⟩ := ha
  obtain ⟨h3, h4, h5, Q3, h6⟩ := hz
  have : pw n.length * val z = pw n.length * x + (Q1 + Q3) * val n := by rw [h6, h1, h2]; grind
  obtain ⟨Q, hQ⟩ := cancel hinv this
  exact mod_eq hQ (val_nonneg h4) h5

/-- A 1, in limbs. -/
def oneL (w : Nat) : List Int := (List.replicate w 0).set 0 1
theorem oneL_len (w : Nat) : (oneL w).length = w := by simp [oneL]
theorem oneL_val {w : Nat} (h : 0 < w) : val (oneL w) = 1 := by
  cases w with
  | zero => omega
  | succ w => simp [oneL, List.replicate_succ, val, val_zero]
theorem oneL_wf (w : Nat) : wfl (oneL w) := by
  unfold oneL
  refine wfl.set (fun x hx => ?_) 0 (by omega)
  simp at hx; omega

theorem bit_u8 {c : Int} (h0 : 0 ≤ c) (h1 : c < 256) (m : Nat) (hm : m ≤ 7) : bitsK .and .u8 (c / 2 ^ (min (m : Int).toNat (IntKind.bits .u8))) 1 = (c / 2 ^ m) % 2 := by
  rw [Int.toNat_natCast, Nat.min_eq_left (by simp [IntKind.bits]; omega)]
  have hd : 0 ≤ c / 2 ^ m := Int.ediv_nonneg h0 (by exact Int.le_of_lt (Int.pow_pos (by omega)))
  have hd2 : c / 2 ^ m ≤ c := Int.ediv_le_self _ h0
  generalize c / 2 ^ m = d at *
  obtain ⟨k, rfl⟩ : ∃ k : Nat, d = k := ⟨d.toNat, by omega⟩
  have hk : k < 256 := by omega
  have : ∀ k : Fin 256, bitsK .and .u8 ((k.val : Nat) : Int) 1 = ((k.val : Nat) : Int) % 2 := by decide +kernel
  exact this ⟨k, hk⟩

theorem exp_step (e c m : Nat) (hm : m + 1 ≤ 8) : e * 2 ^ (8 - m) + c / 2 ^ m = 2 * (e * 2 ^ (8 - (m + 1)) + c / 2 ^ (m + 1)) + c / 2 ^ m % 2 := by
  have e1 : 8 - m = (8 - (m + 1)) + 1 := by omega
  have e2 : c / 2 ^ (m + 1) = c / 2 ^ m / 2 := by rw [Nat.pow_succ, Nat.div_div_eq_div_mul]
  rw [e2, e1, Nat.pow_succ, ← Nat.mul_assoc]
  omega

def told18 : AW.Told := ⟨fun _ => false, fun r i => if r == 1 && i == 3 then [17] else if r == 8 && i == 6 then [40] else [], fun _ => .done⟩

theorem f18 (n : List Int) (n0 : Int) (rr a exp : List Int) (h : Ring n n0 rr) (ha : wfl a) (he : ∀ b ∈ exp, 0 ≤ b ∧ b < 256) :
    Imm Tryd.prog 79 [.d (ringD n n0 rr), .d (nat a), .d (.ints .u8 exp)] (fun r => if notEl n a then r = .tup [.nls (nat []), i64 13] else if 1024 < exp.length then r = .tup [.nls (nat []), i64 11] else ∃ z, r = .tup [.d (nat z), i64 0] ∧ z.length = n.length ∧ wfl z ∧ val z = (val a ^ ev exp) % val n) := by
  have hbl := h.hbn
  unfold bad at hbl
  simp at hbl
  have hnp : 0 < n.length := List.length_pos_iff.2 hbl.1
  (refine Imm.of_awp told18 [] Tryd.func79 rfl (by decide) (Nat.le_of_ble_eq_true rfl) ?_; intro _w0 _S0 _E0 _B0; ((conv => whnf); repeat' (first | (refine And.intro ?_ ?_; (focus (first | rfl | decide | assumption | omega | decide +kernel | exact ⟨rfl, rfl⟩ | exact ⟨rfl, rfl, rfl, rfl⟩ | exact fun h => Bool.noConfusion h | exact fun _ => rfl | exact Nat.le_of_ble_eq_true rfl | (simp only [List.length_map, List.length_append, List.length_replicate, List.length_take, List.length_drop, List.length_set, List.length_cons, List.length_nil]; omega))); (conv => whnf)) | ((refine And.intro ?_ ?_ <;> intro _h); all_goals ((first | replace _h := of_decide_eq_true _h | replace _h := of_decide_eq_false _h | skip); (try simp only [Bool.not_eq_true', Bool.not_eq_false', Bool.not_true, Bool.not_false, decide_eq_true_eq, decide_eq_false_iff_not] at _h); (try (guard_hyp _h : True; clear _h)); first | done | contradiction | exact absurd ((Eq.symm _h).trans (show _ = true by assumption)) (by decide) | exact absurd ((Eq.symm _h).trans (show _ = false by assumption)) (by decide) | (conv => whnf))) | (intro _h; ((first | replace _h := of_decide_eq_true _h | replace _h := of_decide_eq_false _h | skip); (try simp only [Bool.not_eq_true', Bool.not_eq_false', Bool.not_true, Bool.not_false, decide_eq_true_eq, decide_eq_false_iff_not] at _h); (try (guard_hyp _h : True; clear _h)); first | done | contradiction | exact absurd ((Eq.symm _h).trans (show _ = true by assumption)) (by decide) | exact absurd ((Eq.symm _h).trans (show _ = false by assumption)) (by decide) | (conv => whnf))))))
  refine acallI (f33 n n0 rr [a] h.hn (by intro x hx; simp at hx; subst hx; assumption) h.hbn) rfl fun r hr => ?_
  subst hr
  ((conv => whnf); repeat' (first | (refine And.intro ?_ ?_; (focus (first | rfl | decide | assumption | omega | decide +kernel | exact ⟨rfl, rfl⟩ | exact ⟨rfl, rfl, rfl, rfl⟩ | exact fun h => Bool.noConfusion h | exact fun _ => rfl | exact Nat.le_of_ble_eq_true rfl | (simp only [List.length_map, List.length_append, List.length_replicate, List.length_take, List.length_drop, List.length_set, List.length_cons, List.length_nil]; omega))); (conv => whnf)) | ((refine And.intro ?_ ?_ <;> intro _h); all_goals ((first | replace _h := of_decide_eq_true _h | replace _h := of_decide_eq_false _h | skip); (try simp only [Bool.not_eq_true', Bool.not_eq_false', Bool.not_true, Bool.not_false, decide_eq_true_eq, decide_eq_false_iff_not] at _h); (try (guard_hyp _h : True; clear _h)); first | done | contradiction | exact absurd ((Eq.symm _h).trans (show _ = true by assumption)) (by decide) | exact absurd ((Eq.symm _h).trans (show _ = false by assumption)) (by decide) | (conv => whnf))) | (intro _h; ((first | replace _h := of_decide_eq_true _h | replace _h := of_decide_eq_false _h | skip); (try simp only [Bool.not_eq_true', Bool.not_eq_false', Bool.not_true, Bool.not_false, decide_eq_true_eq, decide_eq_false_iff_not] at _h); (try (guard_hyp _h : True; clear _h)); first | done | contradiction | exact absurd ((Eq.symm _h).trans (show _ = true by assumption)) (by decide) | exact absurd ((Eq.symm _h).trans (show _ = false by assumption)) (by decide) | (conv => whnf)))))
  · refine Ends.imm rfl ?_
    simp at _h
    rw [if_pos _h]
  · refine Ends.imm rfl ?_
    rename_i h1
    simp at h1
    rw [if_neg (by simp [h1]), if_pos (by omega)]
  · rename_i h1
    simp at h1
    obtain ⟨ha1, ha2⟩ := el_of h1
    obtain ⟨Q0, hQ0⟩ := h.hrr
    refine acallI (h.short ha h.hr ha1 h.hrl h.hrv) rfl fun r hr => ?_
    obtain ⟨base, rfl, hb⟩ := hr
    have rb := rep_in h.hinv hQ0 hb
    ((conv => whnf); repeat' (first | (refine And.intro ?_ ?_; (focus (first | rfl | decide | assumption | omega | decide +kernel | exact ⟨rfl, rfl⟩ | exact ⟨rfl, rfl, rfl, rfl⟩ | exact fun h => Bool.noConfusion h | exact fun _ => rfl | exact Nat.le_of_ble_eq_true rfl | (simp only [List.length_map, List.length_append, List.length_replicate, List.length_take, List.length_drop, List.length_set, List.length_cons, List.length_nil]; omega))); (conv => whnf)) | ((refine And.intro ?_ ?_ <;> intro _h); all_goals ((first | replace _h := of_decide_eq_true _h | replace _h := of_decide_eq_false _h | skip); (try simp only [Bool.not_eq_true', Bool.not_eq_false', Bool.not_true, Bool.not_false, decide_eq_true_eq, decide_eq_false_iff_not] at _h); (try (guard_hyp _h : True; clear _h)); first | done | contradiction | exact absurd ((Eq.symm _h).trans (show _ = true by assumption)) (by decide) | exact absurd ((Eq.symm _h).trans (show _ = false by assumption)) (by decide) | (conv => whnf))) | (intro _h; ((first | replace _h := of_decide_eq_true _h | replace _h := of_decide_eq_false _h | skip); (try simp only [Bool.not_eq_true', Bool.not_eq_false', Bool.not_true, Bool.not_false, decide_eq_true_eq, decide_eq_false_iff_not] at _h); (try (guard_hyp _h : True; clear _h)); first | done | contradiction | exact absurd ((Eq.symm _h).trans (show _ = true by assumption)) (by decide) | exact absurd ((Eq.symm _h).trans (show _ = false by assumption)) (by decide) | (conv => whnf)))))
    refine acallI (h.short (oneL_wf n.length) h.hr (oneL_len _) h.hrl h.hrv) rfl fun r hr => ?_
    obtain ⟨out, rfl, ho⟩ := hr
    have ro := rep_in h.hinv hQ0 ho
    rw [oneL_val hnp] at ro
    ((conv => whnf); repeat' (first | (refine And.intro ?_ ?_; (focus (first | rfl | decide | assumption | omega | decide +kernel | exact ⟨rfl, rfl⟩ | exact ⟨rfl, rfl, rfl, rfl⟩ | exact fun h => Bool.noConfusion h | exact fun _ => rfl | exact Nat.le_of_ble_eq_true rfl | (simp only [List.length_map, List.length_append, List.length_replicate, List.length_take, List.length_drop, List.length_set, List.length_cons, List.length_nil]; omega))); (conv => whnf)) | ((refine And.intro ?_ ?_ <;> intro _h); all_goals ((first | replace _h := of_decide_eq_true _h | replace _h := of_decide_eq_false _h | skip); (try simp only [Bool.not_eq_true', Bool.not_eq_false', Bool.not_true, Bool.not_false, decide_eq_true_eq, decide_eq_false_iff_not] at _h); (try (guard_hyp _h : True; clear _h)); first | done | contradiction | exact absurd ((Eq.symm _h).trans (show _ = true by assumption)) (by decide) | exact absurd ((Eq.symm _h).trans (show _ = false by assumption)) (by decide) | (conv => whnf))) | (intro _h; ((first | replace _h := of_decide_eq_true _h | replace _h := of_decide_eq_false _h | skip); (try simp only [Bool.not_eq_true', Bool.not_eq_false', Bool.not_true, Bool.not_false, decide_eq_true_eq, decide_eq_false_iff_not] at _h); (try (guard_hyp _h : True; clear _h)); first | done | contradiction | exact absurd ((Eq.symm _h).trans (show _ = true by assumption)) (by decide) | exact absurd ((Eq.symm _h).trans (show _ = false by assumption)) (by decide) | (conv => whnf)))))
    refine aloop (T := told18) (ι := Nat × List Int) (fun x => [(0, .d (ringD n n0 rr)), (8, .d (nat (oneL n.length))), (9, .d (nat base)), (10, .d (nat x.2)), (46, .d (.ints .u8 exp)), (47, i64 exp.length), (48, i64 x.1)]) (fun x => []) 74 0
      (fun x => exp.length - x.1) (fun x => x.1 ≤ exp.length ∧ rep n x.2 (val a ^ ev (exp.take x.1))) ⟨(0, out), [], rfl, ⟨by omega, by simpa [ev] using ro⟩, by (refine ⟨rfl, rfl, ?_, ?_⟩ <;> repeat' (first | exact True.intro | rfl | decide | (refine And.intro ?_ ?_)))⟩ ?_
    intro ⟨i, o⟩ ⟨hi, hro⟩
    dsimp only at hi hro ⊢
    ((conv => whnf); repeat' (first | (refine And.intro ?_ ?_; (focus (first | rfl | decide | assumption | omega | decide +kernel | exact ⟨rfl, rfl⟩ | exact ⟨rfl, rfl, rfl, rfl⟩ | exact fun h => Bool.noConfusion h | exact fun _ => rfl | exact Nat.le_of_ble_eq_true rfl | (simp only [List.length_map, List.length_append, List.length_replicate, List.length_take, List.length_drop, List.length_set, List.length_cons, List.length_nil]; omega))); (conv => whnf)) | ((refine And.intro ?_ ?_ <;> intro _h); all_goals ((first | replace _h := of_decide_eq_true _h | replace _h := of_decide_eq_false _h | skip); (try simp only [Bool.not_eq_true', Bool.not_eq_false', Bool.not_true, Bool.not_false, decide_eq_true_eq, decide_eq_false_iff_not] at _h); (try (guard_hyp _h : True; clear _h)); first | done | contradiction | exact absurd ((Eq.symm _h).trans (show _ = true by assumption)) (by decide) | exact absurd ((Eq.symm _h).trans (show _ = false by assumption)) (by decide) | (conv => whnf))) | (intro _h; ((first | replace _h := of_decide_eq_true _h | replace _h := of_decide_eq_false _h | skip); (try simp only [Bool.not_eq_true', Bool.not_eq_false', Bool.not_true, Bool.not_false, decide_eq_true_eq, decide_eq_false_iff_not] at _h); (try (guard_hyp _h : True; clear _h)); first | done | contradiction | exact absurd ((Eq.symm _h).trans (show _ = true by assumption)) (by decide) | exact absurd ((Eq.symm _h).trans (show _ = false by assumption)) (by decide) | (conv => whnf)))))
    · obtain ⟨c, hc⟩ : ∃ c, exp.getD (i : Int).toNat 0 = c := ⟨_, rfl⟩
      have hcm : c ∈ exp := by
        rw [← hc, Int.toNat_natCast, List.getD_eq_getElem?_getD, List.getElem?_eq_getElem (by omega)]
        exact List.getElem_mem _
      have hcb := he c hcm
      rw [hc]
      refine aloop (T := told18) (ι := Nat × List Int) (fun x => [(0, .d (ringD n n0 rr)), (8, .d (nat (oneL n.length))), (9, .d (nat base)), (10, .d (nat x.2)), (46, .d (.ints .u8 exp)), (47, i64 exp.length), (48, i64 i), (12, .d (.int .u8 c)), (13, i64 ((x.1 : Int) - 1))]) (fun x => []) 74 0
        (fun x => x.1) (fun x => x.1 ≤ 8 ∧ rep n x.2 (val a ^ (ev (exp.take i) * 2 ^ (8 - x.1) + c.toNat / 2 ^ x.1))) ⟨(8, o), [], rfl, ⟨by omega, ?_⟩, by (refine ⟨rfl, rfl, ?_, ?_⟩ <;> repeat' (first | exact True.intro | rfl | decide | (refine And.intro ?_ ?_)))⟩ ?_
      · have : c.toNat / 2 ^ 8 = 0 := Nat.div_eq_of_lt (by omega)
        simpa [this] using hro
      intro ⟨m, o2⟩ ⟨hm, hro2⟩
      dsimp only at hm hro2 ⊢
      ((conv => whnf); repeat' (first | (refine And.intro ?_ ?_; (focus (first | rfl | decide | assumption | omega | decide +kernel | exact ⟨rfl, rfl⟩ | exact ⟨rfl, rfl, rfl, rfl⟩ | exact fun h => Bool.noConfusion h | exact fun _ => rfl | exact Nat.le_of_ble_eq_true rfl | (simp only [List.length_map, List.length_append, List.length_replicate, List.length_take, List.length_drop, List.length_set, List.length_cons, List.length_nil]; omega))); (conv => whnf)) | ((refine And.intro ?_ ?_ <;> intro _h); all_goals ((first | replace _h := of_decide_eq_true _h | replace _h := of_decide_eq_false _h | skip); (try simp only [Bool.not_eq_true', Bool.not_eq_false', Bool.not_true, Bool.not_false, decide_eq_true_eq, decide_eq_false_iff_not] at _h); (try (guard_hyp _h : True; clear _h)); first | done | contradiction | exact absurd ((Eq.symm _h).trans (show _ = true by assumption)) (by decide) | exact absurd ((Eq.symm _h).trans (show _ = false by assumption)) (by decide) | (conv => whnf))) | (intro _h; ((first | replace _h := of_decide_eq_true _h | replace _h := of_decide_eq_false _h | skip); (try simp only [Bool.not_eq_true', Bool.not_eq_false', Bool.not_true, Bool.not_false, decide_eq_true_eq, decide_eq_false_iff_not] at _h); (try (guard_hyp _h : True; clear _h)); first | done | contradiction | exact absurd ((Eq.symm _h).trans (show _ = true by assumption)) (by decide) | exact absurd ((Eq.symm _h).trans (show _ = false by assumption)) (by decide) | (conv => whnf)))))
      · obtain ⟨m', rfl⟩ : ∃ k, m = k + 1 := ⟨m - 1, by omega⟩
        have em : ((m' + 1 : Nat) : Int) - 1 = m' := by omega
        rw [em]
        refine acallI (h.short hro2.2.1 hro2.2.1 hro2.1 hro2.1 hro2.2.2.1) rfl fun r hr => ?_
        obtain ⟨sq, rfl, hsq⟩ := hr
        have rsq := rep_short h.hinv hro2 hro2 hsq
        have hes := exp_step (ev (exp.take i)) c.toNat m' hm
        have hbit : (c / 2 ^ m') % 2 = ((c.toNat / 2 ^ m' % 2 : Nat) : Int) := by
          obtain ⟨k, rfl⟩ : ∃ k : Nat, c = k := ⟨c.toNat, by omega⟩
          simp
        have hpp : val a ^ (ev (exp.take i) * 2 ^ (8 - (m' + 1)) + c.toNat / 2 ^ (m' + 1)) * val a ^ (ev (exp.take i) * 2 ^ (8 - (m' + 1)) + c.toNat / 2 ^ (m' + 1)) = val a ^ (2 * (ev (exp.take i) * 2 ^ (8 - (m' + 1)) + c.toNat / 2 ^ (m' + 1))) := by
          rw [← Int.pow_add]; congr 1; omega
        rw [hpp] at rsq
        ((conv => whnf); repeat' (first | (refine And.intro ?_ ?_; (focus (first | rfl | decide | assumption | omega | decide +kernel | exact ⟨rfl, rfl⟩ | exact ⟨rfl, rfl, rfl, rfl⟩ | exact fun h => Bool.noConfusion h | exact fun _ => rfl | exact Nat.le_of_ble_eq_true rfl | (simp only [List.length_map, List.length_append, List.length_replicate, List.length_take, List.length_drop, List.length_set, List.length_cons, List.length_nil]; omega))); (conv => whnf)) | ((refine And.intro ?_ ?_ <;> intro _h); all_goals ((first | replace _h := of_decide_eq_true _h | replace _h := of_decide_eq_false _h | skip); (try simp only [Bool.not_eq_true', Bool.not_eq_false', Bool.not_true, Bool.not_false, decide_eq_true_eq, decide_eq_false_iff_not] at _h); (try (guard_hyp _h : True; clear _h)); first | done | contradiction | exact absurd ((Eq.symm _h).trans (show _ = true by assumption)) (by decide) | exact absurd ((Eq.symm _h).trans (show _ = false by assumption)) (by decide) | (conv => whnf))) | (intro _h; ((first | replace _h := of_decide_eq_true _h | replace _h := of_decide_eq_false _h | skip); (try simp only [Bool.not_eq_true', Bool.not_eq_false', Bool.not_true, Bool.not_false, decide_eq_true_eq, decide_eq_false_iff_not] at _h); (try (guard_hyp _h : True; clear _h)); first | done | contradiction | exact absurd ((Eq.symm _h).trans (show _ = true by assumption)) (by decide) | exact absurd ((Eq.symm _h).trans (show _ = false by assumption)) (by decide) | (conv => whnf)))))
        · rw [bit_u8 hcb.1 hcb.2 m' (by omega), hbit] at _h
          refine acallI (h.short rsq.2.1 rb.2.1 rsq.1 rb.1 rb.2.2.1) rfl fun r hr => ?_
          obtain ⟨z, rfl, hz⟩ := hr
          have rz := rep_short h.hinv rsq rb hz
          ((conv => whnf); repeat' (first | (refine And.intro ?_ ?_; (focus (first | rfl | decide | assumption | omega | decide +kernel | exact ⟨rfl, rfl⟩ | exact ⟨rfl, rfl, rfl, rfl⟩ | exact fun h => Bool.noConfusion h | exact fun _ => rfl | exact Nat.le_of_ble_eq_true rfl | (simp only [List.length_map, List.length_append, List.length_replicate, List.length_take, List.length_drop, List.length_set, List.length_cons, List.length_nil]; omega))); (conv => whnf)) | ((refine And.intro ?_ ?_ <;> intro _h); all_goals ((first | replace _h := of_decide_eq_true _h | replace _h := of_decide_eq_false _h | skip); (try simp only [Bool.not_eq_true', Bool.not_eq_false', Bool.not_true, Bool.not_false, decide_eq_true_eq, decide_eq_false_iff_not] at _h); (try (guard_hyp _h : True; clear _h)); first | done | contradiction | exact absurd ((Eq.symm _h).trans (show _ = true by assumption)) (by decide) | exact absurd ((Eq.symm _h).trans (show _ = false by assumption)) (by decide) | (conv => whnf))) | (intro _h; ((first | replace _h := of_decide_eq_true _h | replace _h := of_decide_eq_false _h | skip); (try simp only [Bool.not_eq_true', Bool.not_eq_false', Bool.not_true, Bool.not_false, decide_eq_true_eq, decide_eq_false_iff_not] at _h); (try (guard_hyp _h : True; clear _h)); first | done | contradiction | exact absurd ((Eq.symm _h).trans (show _ = true by assumption)) (by decide) | exact absurd ((Eq.symm _h).trans (show _ = false by assumption)) (by decide) | (conv => whnf)))))
          refine ⟨(m', z), [], by dsimp only; omega, ⟨by dsimp only; omega, ?_⟩, rfl, ?_⟩
          · dsimp only
            rw [hes, show c.toNat / 2 ^ m' % 2 = 1 by omega, Int.pow_succ]
            exact rz
          · (refine ⟨rfl, rfl, ?_, ?_⟩ <;> repeat' (first | exact True.intro | rfl | decide | (refine And.intro ?_ ?_)))
            refine di ?_
            rw [wrap_i64 (by omega) (by omega)]
        · rw [bit_u8 hcb.1 hcb.2 m' (by omega), hbit] at _h
          refine ⟨(m', sq), [], by dsimp only; omega, ⟨by dsimp only; omega, ?_⟩, rfl, ?_⟩
          · dsimp only
            rw [hes, show c.toNat / 2 ^ m' % 2 = 0 by omega, Nat.add_zero]
            exact rsq
          · (refine ⟨rfl, rfl, ?_, ?_⟩ <;> repeat' (first | exact True.intro | rfl | decide | (refine And.intro ?_ ?_)))
            refine di ?_
            rw [wrap_i64 (by omega) (by omega)]
      · have hm0 : m = 0 := by omega
        subst hm0
        refine ⟨(i + 1, o2), [], by dsimp only; omega, ⟨by dsimp only; omega, ?_⟩, rfl, ?_⟩
        · dsimp only
          have hc' : exp.getD i 0 = c := hc
          rw [take_snoc (by omega), ev_snoc, hc']
          simpa using hro2
        · (refine ⟨rfl, rfl, ?_, ?_⟩ <;> repeat' (first | exact True.intro | rfl | decide | (refine And.intro ?_ ?_)))
          refine di ?_
          rw [wrap_i64 (by omega) (by omega)]; rfl
    · have hie : i = exp.length := by omega
      subst hie
      have h1v : val (oneL n.length) < val n := by
        rw [oneL_val hnp]
        exact h.h1
      refine acallI (h.short hro.2.1 (oneL_wf n.length) hro.1 (oneL_len _) h1v) rfl fun r hr => ?_
      obtain ⟨z, rfl, hz⟩ := hr
      ((conv => whnf); repeat' (first | (refine And.intro ?_ ?_; (focus (first | rfl | decide | assumption | omega | decide +kernel | exact ⟨rfl, rfl⟩ | exact ⟨rfl, rfl, rfl, rfl⟩ | exact fun h => Bool.noConfusion h | exact fun _ => rfl | exact Nat.le_of_ble_eq_true rfl | (simp only [List.length_map, List.length_append, List.length_replicate, List.length_take, List.length_drop, List.length_set, List.length_cons, List.length_nil]; omega))); (conv => whnf)) | ((refine And.intro ?_ ?_ <;> intro _h); all_goals ((first | replace _h := of_decide_eq_true _h | replace _h := of_decide_eq_false _h | skip); (try simp only [Bool.not_eq_true', Bool.not_eq_false', Bool.not_true, Bool.not_false, decide_eq_true_eq, decide_eq_false_iff_not] at _h); (try (guard_hyp _h : True; clear _h)); first | done | contradiction | exact absurd ((Eq.symm _h).trans (show _ = true by assumption)) (by decide) | exact absurd ((Eq.symm _h).trans (show _ = false by assumption)) (by decide) | (conv => whnf))) | (intro _h; ((first | replace _h := of_decide_eq_true _h | replace _h := of_decide_eq_false _h | skip); (try simp only [Bool.not_eq_true', Bool.not_eq_false', Bool.not_true, Bool.not_false, decide_eq_true_eq, decide_eq_false_iff_not] at _h); (try (guard_hyp _h : True; clear _h)); first | done | contradiction | exact absurd ((Eq.symm _h).trans (show _ = true by assumption)) (by decide) | exact absurd ((Eq.symm _h).trans (show _ = false by assumption)) (by decide) | (conv => whnf)))))
      refine Ends.imm rfl ?_
      rw [if_neg (by simp [h1]), if_neg (by omega)]
      refine ⟨z, rfl, hz.1, hz.2.1, ?_⟩
      have := rep_out h.hinv hro (oneL_val hnp) hz
      rwa [List.take_of_length_le (Nat.le_refl _)] at this

end Go.Proofs.YtniaeiikdgbnfaaDoor.R
namespace Go.Proofs.YtniaeiikdgbnfaaDoor.R

/-- What digits are worth: the lowest first. -/
def dval : List Int → Int
  | [] => 0
  | x :: xs => x + 256 * dval xs

def wfd (xs : List Int) : Prop := ∀ x ∈ xs, 0 ≤ x ∧ x < 256

theorem wfd.cons {x : Int} {xs : List Int} (h : wfd (x :: xs)) : (0 ≤ x ∧ x < 256) ∧ wfd xs := ⟨h x (by simp), fun y hy => h y (by simp [hy])⟩
theorem wfd.append {xs ys : List Int} (h1 : wfd xs) (h2 : wfd ys) : wfd (xs ++ ys) := fun x hx => by
  rcases List.mem_append.1 hx with h | h
  · exact h1 x h
  · exact h2 x h
theorem wfd.take {xs : List Int} (h : wfd xs) (n : Nat) : wfd (xs.take n) := fun x hx => h x (List.mem_of_mem_take hx)
theorem wfd.drop {xs : List Int} (h : wfd xs) (n : Nat) : wfd (xs.drop n) := fun x hx => h x (List.mem_of_mem_drop hx)
theorem wfd.get {xs : List Int} (h : wfd xs) (i : Nat) : 0 ≤ xs.getD i 0 ∧ xs.getD i 0 < 256 := by
  rw [List.getD_eq_getElem?_getD]
  rcases Nat.lt_or_ge i xs.length with hi | hi
  · rw [List.getElem?_eq_getElem hi]; exact h _ (List.getElem_mem hi)
  · rw [List.getElem?_eq_none hi]; simp
theorem wfd.one {x : Int} (h : 0 ≤ x ∧ x < 256) : wfd [x] := fun y hy => by simp at hy; subst hy; exact h
theorem wfd.set {xs : List Int} (h : wfd xs) (i : Nat) {x : Int} (hx : 0 ≤ x ∧ x < 256) : wfd (xs.set i x) := fun y hy => by
  rcases List.mem_or_eq_of_mem_set hy with h' | h'
  · exact h y h'
  · subst h'; exact hx

/-- The weight of digit number n. -/
def dpw (n : Nat) : Int := 256 ^ n
theorem dpw_zero : dpw 0 = 1 := rfl
theorem dpw_succ (n : Nat) : dpw (n + 1) = dpw n * 256 := Int.pow_succ ..
theorem dpw_pos (n : Nat) : 0 < dpw n := Int.pow_pos (by omega)
theorem dval_append : ∀ (xs ys : List Int), dval (xs ++ ys) = dval xs + dpw xs.length * dval ys
  | [], ys => by simp [dval, dpw_zero]
  | x :: xs, ys => by
    simp only [List.cons_append, dval, dval_append xs ys, List.length_cons, dpw_succ, Int.mul_add, Int.add_assoc]
    rw [Int.mul_comm (dpw xs.length) 256, Int.mul_assoc]
theorem dval_snoc (xs : List Int) (x : Int) : dval (xs ++ [x]) = dval xs + dpw xs.length * x := by
  rw [dval_append]; simp [dval]

theorem dval_nonneg : ∀ {xs : List Int}, wfd xs → 0 ≤ dval xs
  | [], _ => by simp [dval]
  | x :: xs, h => by
    have := dval_nonneg h.cons.2
    have := h.cons.1
    simp only [dval]; omega
theorem dval_lt : ∀ {xs : List Int}, wfd xs → dval xs < dpw xs.length
  | [], _ => by simp [dval, dpw_zero]
  | x :: xs, h => by
    have := dval_lt h.cons.2
    have := h.cons.1
    simp only [dval, List.length_cons, dpw_succ]; omega

theorem dval_inj : ∀ {xs ys : List Int}, wfd xs → wfd ys → xs.length = ys.length → dval xs = dval ys → xs = ys
  | [], [], _, _, _, _ => rfl
  | x :: xs, y :: ys, hx, hy, hl, hv => by
    simp only [dval] at hv
    have h1 := hx.cons.1
    have h2 := hy.cons.1
    have e1 : x = y := by omega
    have e2 : dval xs = dval ys := by omega
    rw [e1, dval_inj hx.cons.2 hy.cons.2 (by simpa using hl) e2]

/-- Without noughts at its upper end. -/
def trimmed (xs : List Int) : Prop := xs = [] ∨ xs.getD (xs.length - 1) 0 ≠ 0

end Go.Proofs.YtniaeiikdgbnfaaDoor.R
namespace Go.Proofs.YtniaeiikdgbnfaaDoor.R
open Go Go.RowKit Go.Proofs Go.Proofs.YtniaeiikdgbnfaaDoor.AW
set_option linter.unusedSectionVars false
variable [Globs]
set_option maxRecDepth 100000
set_option linter.unusedSimpArgs false
set_option linter.unusedVariables false
set_option maxHeartbeats 4000000

abbrev digs (xs : List Int) : D := .ints .i64 xs

/-- Is the one not less than the other, from above? -/
theorem dvstep (xs : List Int) : dval xs = xs.getD 0 0 + 256 * dval xs.tail := by
  cases xs with
  | nil => simp [dval]
  | cons x xs => simp [dval]
theorem wfd.tail {xs : List Int} (h : wfd xs) : wfd xs.tail := fun x hx => h x (List.mem_of_mem_tail hx)
def told31 : AW.Told := ⟨fun _ => false, fun _ _ => [], fun r => if r == 4 then .take 0 (.take 1 (.take 2 (.take 3 (.take 4 (.take 5 (.take 6 (.take 7 (.take 8 .done))))))))
  else if r == 5 then .take 0 (.take 1 (.take 2 (.take 3 (.take 4 (.take 5 (.take 6 (.take 7 (.take 8 (.take 9 .done))))))))) else .done⟩

def told32 : AW.Told := ⟨fun _ => false, fun _ _ => [], fun r => if r == 4 then .take 0 (.take 1 (.take 2 (.take 3 (.take 4 (.take 5 (.take 6 (.take 7 (.take 8 (.take 9 (.take 10 (.take 11 .done))))))))))) else .done⟩



def told26 : AW.Told := ⟨fun _ => false, fun _ _ => [], fun r => if r == 8 || r == 10 then .take 0 (.take 1 (.take 2 (.take 3 (.take 4 (.take 5 (.take 6 (.take 7 (.take 8 .done)))))))) else .done⟩


theorem pw_two (n : Nat) : pw n = 2 ^ (32 * n) := by
  unfold pw
  rw [Int.pow_mul]
  rfl
theorem val_take_succ {m : List Int} {i : Nat} (h : i < m.length) : val (m.take (i + 1)) = val (m.take i) + pw i * m.getD i 0 := by
  rw [take_snoc h, val_snoc, List.length_take, Nat.min_eq_left (by omega)]

def told12 : AW.Told := ⟨fun _ => false, fun r i => if r == 11 && i == 1 then [29] else [], fun _ => .done⟩

def told20 : AW.Told := ⟨fun _ => false, fun r i => if r == 14 && i == 1 then [65] else [], fun r => if r == 11 then .take 0 (.take 1 (.take 2 (.take 3 (.take 4 (.take 5 (.take 6 (.take 7 (.take 8 (.take 9 (.take 10 (.take 11 .done))))))))))) else .done⟩

end Go.Proofs.YtniaeiikdgbnfaaDoor.R
namespace Go.Proofs.YtniaeiikdgbnfaaDoor.R
open Go Go.RowKit Go.Proofs Go.Proofs.YtniaeiikdgbnfaaDoor.AW
set_option linter.unusedSectionVars false
variable [Globs]
attribute [local go_sem] Oper.semAt_some
set_option maxRecDepth 100000
set_option linter.unusedSimpArgs false
set_option linter.unusedVariables false
set_option maxHeartbeats 4000000

theorem it49 (l b o b2 o2 c : Nat) (A : Option Addr) (xs : List Int) (J : Nat → World → Prop) (Jx : World → Prop) (W : World) (hl : xs.length ≤ LIM) (hA : 0 < xs.length → A = some ⟨b2, o2, none⟩)
   (hG : ∀ k W, J k W → W.cell? ⟨b, o, none⟩ = some (.slice A xs.length c) ∧ ∀ i, i < xs.length → W.cell? ⟨b2, o2 + i, none⟩ = some (.int .u32 (xs.getD i 0)))
   (hY : ∀ k W, k < xs.length → J k W → YieldAt (fence none) 0 Tryd.prog l #[.int .i64 ((xs.length : Int) - 1 - k), .int .u32 (xs.getD (xs.length - 1 - k) 0)] W fun e W' => (e = .returned (.bool true) ∧ J (k + 1) W') ∨ (e = .returned (.bool false) ∧ Jx W'))
   (h0 : J 0 W) : CallsIn Fence.wide 0 Tryd.prog 110 #[.func (.yield l) #[] #[], .pointer (some ⟨b, o, none⟩)] W fun e W' => (∃ v, e = .returned v) ∧ (J xs.length W' ∨ Jx W') := by
  unfold LIM at hl
  have hc := (hG 0 W h0).1
  refine callsIn_of_wp Tryd.func110 rfl trivial ?_ rfl
  simp only [Tryd.ntmps110, List.size_toArray, List.length_cons, List.length_nil, Nat.reduceAdd, Nat.reduceSub, Array.replicate_succ, Array.replicate_zero, List.push_toArray, List.append_toArray, List.nil_append, List.cons_append]
  gi_wp2
  clear hc
  gi_loopw [3] (fun i wr => ∃ k : Nat, k ≤ xs.length ∧ i = .int .i64 ((xs.length : Int) - 1 - k) ∧ J k wr) (fun i _ => (intOf i + 1).toNat)
  case atStart => exact ⟨0, Nat.zero_le _, by simp, h0⟩
  case round =>
    obtain ⟨k, hk, rfl, hJ⟩ := hrel
    by_cases hlt : k < xs.length
    · have hA' := hA (by omega)
      subst hA'
      have hc := (hG k _ hJ).1
      have hc2 := (hG k _ hJ).2 (xs.length - 1 - k) (by omega)
      obtain ⟨fn, tmps, assign, body, hy, hR⟩ := hY k _ hlt hJ
      have hn : ((xs.length : Int) - 1 - k).toNat = xs.length - 1 - k := by omega
      clear hG hY hA
      rw [List.getD_eq_getElem?_getD] at hc2 hy
      gi_wp2
      refine ⟨rfl, RoundIn.mono hR ?_⟩
      rintro e W' (⟨rfl, hJ'⟩ | ⟨rfl, hJ'⟩)
      · gi_wp2
        go_roundw
        case rel => exact ⟨k + 1, by omega, by simp; omega, hJ'⟩
        case measure => simp [intOf]; omega
      · gi_wp2
        exact bodyPost_ret (results_none rfl _ _ _) rfl ⟨⟨_, rfl⟩, .inr hJ'⟩
    · have : k = xs.length := by omega
      subst this
      gi_wp2
      go_end0
      exact ⟨⟨_, rfl⟩, .inl hJ⟩

/-- A range from the end to the beginning. -/
theorem ai49 (xs : List Int) : AIter Tryd.prog 110 [.ptr (nat xs)] xs.length (fun k => [.int .i64 ((xs.length : Int) - 1 - k), .int .u32 (xs.getD (xs.length - 1 - k) 0)]) := by
  refine ⟨⟨_, Tryd.func110, rfl, by decide⟩, fun w S lb h => ?_⟩
  simp only [RepAll, Rep] at h
  obtain ⟨c1, c2, e, ⟨b, o, rfl, hSb, vs, hcb, A, c, rfl, hle, hL, hwf, hne⟩, rfl⟩ := h
  have hlb : lb = #[.pointer (some ⟨b, o, none⟩)] := by apply Array.ext'; simpa using e
  subst hlb
  refine ⟨fun k => #[.int .i64 ((xs.length : Int) - 1 - k), .int .u32 (xs.getD (xs.length - 1 - k) 0)], fun k hk => ?_, fun l J Jx W hJg hJxg hG hY h0 => ?_⟩
  · have hm : xs.getD (xs.length - 1 - k) 0 ∈ xs := by
      rw [List.getD_eq_getElem?_getD, List.getElem?_eq_getElem (by omega)]
      exact List.getElem_mem _
    unfold LIM at hL
    simp only [List.map_cons, List.map_nil, VAll, VRel, Rep]
    exact ⟨_, _, rfl, ⟨_, ⟨rfl, wrap_i64 (by omega) (by omega)⟩, rfl⟩, _, _, rfl, ⟨_, ⟨rfl, hwf _ hm⟩, rfl⟩, rfl⟩
  · have hcell : ∀ W : World, (∀ b, S b → W.heap[b]? = w.heap[b]?) → W.cell? ⟨b, o, none⟩ = some (.slice A xs.length c) := fun W hW => by
      have := (Cells.keep hcb (hW b hSb)) 0 _ rfl
      simpa using this
    refine callsIn_fence.1 (?_ : CallsIn Fence.wide 0 _ _ _ _ _)
    by_cases h0' : xs = []
    · subst h0'
      exact it49 l b o 0 0 c A [] J Jx W (Nat.zero_le _) (fun h => by simp at h) (fun k W hJ => ⟨hcell W (hG k W hJ), fun i hi => by simp at hi⟩) hY h0
    · obtain ⟨b2, o2, rfl, hS2, hc2⟩ := hne h0'
      exact it49 l b o b2 o2 c _ xs J Jx W hL (fun _ => rfl) (fun k W hJ => ⟨hcell W (hG k W hJ), fun i hi => by
        refine (Cells.keep hc2 (hG k W hJ b2 hS2)) i _ ?_
        rw [List.getElem?_map, List.getElem?_eq_getElem hi, List.getD_eq_getElem?_getD, List.getElem?_eq_getElem hi]; rfl⟩) hY h0

theorem f38 (xs : List Int) : Imm Tryd.prog 85 [.d (nat xs)] (fun r => r = .d (.fn 110 [.ptr (nat xs)])) := by
  (refine Imm.of_awp (⟨fun _ => false, fun r i => if r == 1 && i == 0 then [1] else [], fun _ => .done⟩ : AW.Told) [] Tryd.func85 rfl (by decide) (Nat.le_of_ble_eq_true rfl) ?_; intro _w0 _S0 _E0 _B0; ((conv => whnf); repeat' (first | (refine And.intro ?_ ?_; (focus (first | rfl | decide | assumption | omega | decide +kernel | exact ⟨rfl, rfl⟩ | exact ⟨rfl, rfl, rfl, rfl⟩ | exact fun h => Bool.noConfusion h | exact fun _ => rfl | exact Nat.le_of_ble_eq_true rfl | (simp only [List.length_map, List.length_append, List.length_replicate, List.length_take, List.length_drop, List.length_set, List.length_cons, List.length_nil]; omega))); (conv => whnf)) | ((refine And.intro ?_ ?_ <;> intro _h); all_goals ((first | replace _h := of_decide_eq_true _h | replace _h := of_decide_eq_false _h | skip); (try simp only [Bool.not_eq_true', Bool.not_eq_false', Bool.not_true, Bool.not_false, decide_eq_true_eq, decide_eq_false_iff_not] at _h); (try (guard_hyp _h : True; clear _h)); first | done | contradiction | exact absurd ((Eq.symm _h).trans (show _ = true by assumption)) (by decide) | exact absurd ((Eq.symm _h).trans (show _ = false by assumption)) (by decide) | (conv => whnf))) | (intro _h; ((first | replace _h := of_decide_eq_true _h | replace _h := of_decide_eq_false _h | skip); (try simp only [Bool.not_eq_true', Bool.not_eq_false', Bool.not_true, Bool.not_false, decide_eq_true_eq, decide_eq_false_iff_not] at _h); (try (guard_hyp _h : True; clear _h)); first | done | contradiction | exact absurd ((Eq.symm _h).trans (show _ = true by assumption)) (by decide) | exact absurd ((Eq.symm _h).trans (show _ = false by assumption)) (by decide) | (conv => whnf))))))
  exact Ends.imm rfl rfl

/-- How many bits a number has. -/
def blen (v : Nat) : Nat := if v = 0 then 0 else Nat.log2 v + 1

theorem blen_le (v k : Nat) : blen v ≤ k ↔ v < 2 ^ k := by
  unfold blen
  split
  · rename_i h; subst h; simp; exact Nat.pow_pos (by omega)
  · rename_i h
    rw [Nat.add_one_le_iff]
    exact Nat.log2_lt h

theorem blen_eq {v k : Nat} (h1 : v < 2 ^ k) (h2 : ∀ j, k = j + 1 → 2 ^ j ≤ v) : blen v = k := by
  have := (blen_le v k).2 h1
  cases k with
  | zero => omega
  | succ j =>
    have h4 := h2 j rfl
    have : ¬ blen v ≤ j := fun h => by have := (blen_le v j).1 h; omega
    omega

theorem blen_spec {v : Nat} (h : 0 < v) : v < 2 ^ blen v ∧ 2 ^ (blen v - 1) ≤ v := by
  refine ⟨(blen_le v _).1 (Nat.le_refl _), ?_⟩
  have h1 : ¬ blen v = 0 := fun e => by have := (blen_le v 0).1 (by omega); simp at this; omega
  have h2 : ¬ blen v ≤ blen v - 1 := by omega
  rw [blen_le] at h2
  omega

theorem blen_div {v k : Nat} (h : 2 ^ k ≤ v) : blen v = blen (v / 2 ^ k) + k := by
  have hp : 0 < 2 ^ k := Nat.pow_pos (by omega)
  have hu : 0 < v / 2 ^ k := Nat.div_pos h hp
  obtain ⟨h1, h2⟩ := blen_spec hu
  have hb : blen (v / 2 ^ k) ≠ 0 := fun e => by rw [e] at h1; simp at h1; omega
  refine blen_eq ?_ fun j hj => ?_
  · rw [Nat.pow_add]
    exact (Nat.div_lt_iff_lt_mul hp).1 h1
  · have e : j = (blen (v / 2 ^ k) - 1) + k := by omega
    rw [e, Nat.pow_add]
    exact (Nat.le_div_iff_mul_le hp).1 h2

def tab8 : List Int := (List.range 256).map fun v => (blen v : Int)
theorem tab8_get {x : Int} (h0 : 0 ≤ x) (h1 : x < 256) : tab8.getD x.toNat 0 = blen x.toNat := by
  unfold tab8
  rw [List.getD_eq_getElem?_getD, List.getElem?_map, List.getElem?_range (by omega)]; rfl

theorem shr_at (x : Int) (h0 : 0 ≤ x) (h1 : x < 4294967296) (m : Int) (k : Nat) (hm : m = k) (hk : k ≤ 32) : x / 2 ^ min m.toNat (IntKind.bits .u32) = ((x.toNat / 2 ^ k : Nat) : Int) := by
  subst hm
  obtain ⟨n, rfl⟩ : ∃ n : Nat, x = n := ⟨x.toNat, by omega⟩
  rw [Int.toNat_natCast, Int.toNat_natCast, Nat.min_eq_left (by simp [IntKind.bits]; omega)]
  simp

theorem f39 (x : Int) (h0 : 0 ≤ x) (h1 : x < 4294967296) : Imm Tryd.prog 86 [u32 x] (fun r => r = i64 (blen x.toNat)) := by
  have e16 := shr_at x h0 h1 16 16 rfl (by omega)
  have e8 := shr_at x h0 h1 8 8 rfl (by omega)
  have e24 := shr_at (x.toNat / 2 ^ 16 : Nat) (by omega) (by omega) 8 8 rfl (by omega)
  have e0 : x = (x.toNat : Int) := by omega
  have fin : ∀ (y : Nat) (s : Int) (n : Nat) (T : List Int), T = tab8 → y < 256 → s = n → n ≤ 24 → blen x.toNat = blen y + n →
      IntKind.i64.wrap (s + IntKind.i64.wrap (T.getD (IntKind.u8.wrap (y : Int)).toNat 0)) = blen x.toNat := fun y s n T hT hy hs hn he => by
    have hw : IntKind.u8.wrap (y : Int) = y := wrap_in.2 ⟨by simp [loK], by simp [hiK]; omega⟩
    have hb := (blen_le y 8).2 (by omega)
    rw [hw, hT, tab8_get (by omega) (by omega), Int.toNat_natCast, wrap_i64 (n := (blen y : Int)) (by omega) (by omega), wrap_i64 (by omega) (by omega), he]
    omega
  have hw : ∀ y : Nat, y < 256 → IntKind.u8.wrap (y : Int) = y := fun y hy => wrap_in.2 ⟨by simp [loK], by simp [hiK]; omega⟩
  (refine Imm.of_awp told0 [] Tryd.func86 rfl (by decide) (Nat.le_of_ble_eq_true rfl) ?_; intro _w0 _S0 _E0 _B0; ((conv => whnf); repeat' (first | (refine And.intro ?_ ?_; (focus (first | rfl | decide | assumption | omega | decide +kernel | exact ⟨rfl, rfl⟩ | exact ⟨rfl, rfl, rfl, rfl⟩ | exact fun h => Bool.noConfusion h | exact fun _ => rfl | exact Nat.le_of_ble_eq_true rfl | (simp only [List.length_map, List.length_append, List.length_replicate, List.length_take, List.length_drop, List.length_set, List.length_cons, List.length_nil]; omega))); (conv => whnf)) | ((refine And.intro ?_ ?_ <;> intro _h); all_goals ((first | replace _h := of_decide_eq_true _h | replace _h := of_decide_eq_false _h | skip); (try simp only [Bool.not_eq_true', Bool.not_eq_false', Bool.not_true, Bool.not_false, decide_eq_true_eq, decide_eq_false_iff_not] at _h); (try (guard_hyp _h : True; clear _h)); first | done | contradiction | exact absurd ((Eq.symm _h).trans (show _ = true by assumption)) (by decide) | exact absurd ((Eq.symm _h).trans (show _ = false by assumption)) (by decide) | (conv => whnf))) | (intro _h; ((first | replace _h := of_decide_eq_true _h | replace _h := of_decide_eq_false _h | skip); (try simp only [Bool.not_eq_true', Bool.not_eq_false', Bool.not_true, Bool.not_false, decide_eq_true_eq, decide_eq_false_iff_not] at _h); (try (guard_hyp _h : True; clear _h)); first | done | contradiction | exact absurd ((Eq.symm _h).trans (show _ = true by assumption)) (by decide) | exact absurd ((Eq.symm _h).trans (show _ = false by assumption)) (by decide) | (conv => whnf))))))
  all_goals
    generalize hT : bytesOf _ = T
    have hT2 : T = tab8 := by rw [← hT]; decide +kernel
    clear hT
    have hTl : T.length = 256 := by rw [hT2]; decide +kernel
    have w1 : IntKind.i64.wrap (16 + 8) = 24 := by decide
    have w2 : IntKind.i64.wrap (0 + 8) = 8 := by decide
    rw [hTl]
  · rename_i h16
    simp only [e16, e24, Int.toNat_natCast] at _h ⊢
    have hy : x.toNat / 2 ^ 16 / 2 ^ 8 < 256 := by omega
    refine ⟨by rw [hw _ hy]; omega, by rw [hw _ hy]; omega, ?_⟩
    ((conv => whnf); repeat' (first | (refine And.intro ?_ ?_; (focus (first | rfl | decide | assumption | omega | decide +kernel | exact ⟨rfl, rfl⟩ | exact ⟨rfl, rfl, rfl, rfl⟩ | exact fun h => Bool.noConfusion h | exact fun _ => rfl | exact Nat.le_of_ble_eq_true rfl | (simp only [List.length_map, List.length_append, List.length_replicate, List.length_take, List.length_drop, List.length_set, List.length_cons, List.length_nil]; omega))); (conv => whnf)) | ((refine And.intro ?_ ?_ <;> intro _h); all_goals ((first | replace _h := of_decide_eq_true _h | replace _h := of_decide_eq_false _h | skip); (try simp only [Bool.not_eq_true', Bool.not_eq_false', Bool.not_true, Bool.not_false, decide_eq_true_eq, decide_eq_false_iff_not] at _h); (try (guard_hyp _h : True; clear _h)); first | done | contradiction | exact absurd ((Eq.symm _h).trans (show _ = true by assumption)) (by decide) | exact absurd ((Eq.symm _h).trans (show _ = false by assumption)) (by decide) | (conv => whnf))) | (intro _h; ((first | replace _h := of_decide_eq_true _h | replace _h := of_decide_eq_false _h | skip); (try simp only [Bool.not_eq_true', Bool.not_eq_false', Bool.not_true, Bool.not_false, decide_eq_true_eq, decide_eq_false_iff_not] at _h); (try (guard_hyp _h : True; clear _h)); first | done | contradiction | exact absurd ((Eq.symm _h).trans (show _ = true by assumption)) (by decide) | exact absurd ((Eq.symm _h).trans (show _ = false by assumption)) (by decide) | (conv => whnf)))))
    refine Ends.imm rfl (di (fin _ _ 24 T hT2 hy w1 (by omega) ?_))
    rw [blen_div (k := 16) (by omega), blen_div (k := 8) (v := x.toNat / 2 ^ 16) (by omega)]
  · rename_i h16
    simp only [e16, e24, Int.toNat_natCast] at _h ⊢
    have hy : x.toNat / 2 ^ 16 < 256 := by omega
    refine ⟨by rw [hw _ hy]; omega, by rw [hw _ hy]; omega, ?_⟩
    ((conv => whnf); repeat' (first | (refine And.intro ?_ ?_; (focus (first | rfl | decide | assumption | omega | decide +kernel | exact ⟨rfl, rfl⟩ | exact ⟨rfl, rfl, rfl, rfl⟩ | exact fun h => Bool.noConfusion h | exact fun _ => rfl | exact Nat.le_of_ble_eq_true rfl | (simp only [List.length_map, List.length_append, List.length_replicate, List.length_take, List.length_drop, List.length_set, List.length_cons, List.length_nil]; omega))); (conv => whnf)) | ((refine And.intro ?_ ?_ <;> intro _h); all_goals ((first | replace _h := of_decide_eq_true _h | replace _h := of_decide_eq_false _h | skip); (try simp only [Bool.not_eq_true', Bool.not_eq_false', Bool.not_true, Bool.not_false, decide_eq_true_eq, decide_eq_false_iff_not] at _h); (try (guard_hyp _h : True; clear _h)); first | done | contradiction | exact absurd ((Eq.symm _h).trans (show _ = true by assumption)) (by decide) | exact absurd ((Eq.symm _h).trans (show _ = false by assumption)) (by decide) | (conv => whnf))) | (intro _h; ((first | replace _h := of_decide_eq_true _h | replace _h := of_decide_eq_false _h | skip); (try simp only [Bool.not_eq_true', Bool.not_eq_false', Bool.not_true, Bool.not_false, decide_eq_true_eq, decide_eq_false_iff_not] at _h); (try (guard_hyp _h : True; clear _h)); first | done | contradiction | exact absurd ((Eq.symm _h).trans (show _ = true by assumption)) (by decide) | exact absurd ((Eq.symm _h).trans (show _ = false by assumption)) (by decide) | (conv => whnf)))))
    refine Ends.imm rfl (di (fin _ _ 16 T hT2 hy rfl (by omega) ?_))
    rw [blen_div (k := 16) (by omega)]
  · rename_i h16
    simp only [e8, Int.toNat_natCast] at _h ⊢
    have hy : x.toNat / 2 ^ 8 < 256 := by omega
    refine ⟨by rw [hw _ hy]; omega, by rw [hw _ hy]; omega, ?_⟩
    ((conv => whnf); repeat' (first | (refine And.intro ?_ ?_; (focus (first | rfl | decide | assumption | omega | decide +kernel | exact ⟨rfl, rfl⟩ | exact ⟨rfl, rfl, rfl, rfl⟩ | exact fun h => Bool.noConfusion h | exact fun _ => rfl | exact Nat.le_of_ble_eq_true rfl | (simp only [List.length_map, List.length_append, List.length_replicate, List.length_take, List.length_drop, List.length_set, List.length_cons, List.length_nil]; omega))); (conv => whnf)) | ((refine And.intro ?_ ?_ <;> intro _h); all_goals ((first | replace _h := of_decide_eq_true _h | replace _h := of_decide_eq_false _h | skip); (try simp only [Bool.not_eq_true', Bool.not_eq_false', Bool.not_true, Bool.not_false, decide_eq_true_eq, decide_eq_false_iff_not] at _h); (try (guard_hyp _h : True; clear _h)); first | done | contradiction | exact absurd ((Eq.symm _h).trans (show _ = true by assumption)) (by decide) | exact absurd ((Eq.symm _h).trans (show _ = false by assumption)) (by decide) | (conv => whnf))) | (intro _h; ((first | replace _h := of_decide_eq_true _h | replace _h := of_decide_eq_false _h | skip); (try simp only [Bool.not_eq_true', Bool.not_eq_false', Bool.not_true, Bool.not_false, decide_eq_true_eq, decide_eq_false_iff_not] at _h); (try (guard_hyp _h : True; clear _h)); first | done | contradiction | exact absurd ((Eq.symm _h).trans (show _ = true by assumption)) (by decide) | exact absurd ((Eq.symm _h).trans (show _ = false by assumption)) (by decide) | (conv => whnf)))))
    refine Ends.imm rfl (di (fin _ _ 8 T hT2 hy w2 (by omega) ?_))
    rw [blen_div (k := 8) (by omega)]
  · rename_i h16
    have hy : x.toNat < 256 := by omega
    rw [e0]
    refine ⟨by rw [hw _ hy]; omega, by rw [hw _ hy]; omega, ?_⟩
    ((conv => whnf); repeat' (first | (refine And.intro ?_ ?_; (focus (first | rfl | decide | assumption | omega | decide +kernel | exact ⟨rfl, rfl⟩ | exact ⟨rfl, rfl, rfl, rfl⟩ | exact fun h => Bool.noConfusion h | exact fun _ => rfl | exact Nat.le_of_ble_eq_true rfl | (simp only [List.length_map, List.length_append, List.length_replicate, List.length_take, List.length_drop, List.length_set, List.length_cons, List.length_nil]; omega))); (conv => whnf)) | ((refine And.intro ?_ ?_ <;> intro _h); all_goals ((first | replace _h := of_decide_eq_true _h | replace _h := of_decide_eq_false _h | skip); (try simp only [Bool.not_eq_true', Bool.not_eq_false', Bool.not_true, Bool.not_false, decide_eq_true_eq, decide_eq_false_iff_not] at _h); (try (guard_hyp _h : True; clear _h)); first | done | contradiction | exact absurd ((Eq.symm _h).trans (show _ = true by assumption)) (by decide) | exact absurd ((Eq.symm _h).trans (show _ = false by assumption)) (by decide) | (conv => whnf))) | (intro _h; ((first | replace _h := of_decide_eq_true _h | replace _h := of_decide_eq_false _h | skip); (try simp only [Bool.not_eq_true', Bool.not_eq_false', Bool.not_true, Bool.not_false, decide_eq_true_eq, decide_eq_false_iff_not] at _h); (try (guard_hyp _h : True; clear _h)); first | done | contradiction | exact absurd ((Eq.symm _h).trans (show _ = true by assumption)) (by decide) | exact absurd ((Eq.symm _h).trans (show _ = false by assumption)) (by decide) | (conv => whnf)))))
    refine Ends.imm rfl (di (fin _ _ 0 T hT2 hy rfl (by omega) ?_))
    rfl
end Go.Proofs.YtniaeiikdgbnfaaDoor.R
namespace Go.Proofs.YtniaeiikdgbnfaaDoor.R
open Go Go.RowKit Go.Proofs Go.Proofs.YtniaeiikdgbnfaaDoor.AW
set_option linter.unusedSectionVars false
variable [Globs]
set_option maxRecDepth 100000
set_option linter.unusedSimpArgs false
set_option linter.unusedVariables false
set_option maxHeartbeats 4000000

theorem val_zero_of : ∀ (xs : List Int), (∀ j, xs.getD j 0 = 0) → val xs = 0
  | [], _ => rfl
  | x :: xs, h => by
    have h0 := h 0
    have ih := val_zero_of xs fun j => by have := h (j + 1); simpa using this
    simp at h0
    simp [val, ih, h0]

/-- The highest limb that isn't 0 says how many bits a number has. -/
theorem val_top (xs : List Int) (hx : wfl xs) (i : Nat) (hi : i < xs.length) (h : ∀ j, i + 1 ≤ j → xs.getD j 0 = 0) (hne : xs.getD i 0 ≠ 0) : blen (val xs).toNat = 32 * i + blen (xs.getD i 0).toNat := by
  have hg := hx.get i
  have e : val xs = val (xs.take i) + pw i * xs.getD i 0 := by
    rw [← val_take_succ hi]
    have := val_ext xs.length xs (xs.take (i + 1)) (Nat.le_refl _) (by simp; omega) fun j => by
      rcases Nat.lt_or_ge j (i + 1) with hj | hj
      · rw [List.getD_eq_getElem?_getD, List.getD_eq_getElem?_getD, List.getElem?_take, if_pos hj]
      · rw [h j hj, List.getD_eq_getElem?_getD, List.getElem?_take, if_neg (by omega)]; rfl
    exact this
  have h1 := val_lt (hx.take i)
  have h2 := val_nonneg (hx.take i)
  rw [List.length_take, Nat.min_eq_left (by omega)] at h1
  have hp := pw_pos i
  obtain ⟨b, hb⟩ : ∃ b : Nat, xs.getD i 0 = b := ⟨(xs.getD i 0).toNat, by omega⟩
  rw [hb] at e hg ⊢
  rw [Int.toNat_natCast]
  obtain ⟨p, hpp⟩ : ∃ p : Nat, pw i = p := ⟨(pw i).toNat, by omega⟩
  obtain ⟨a, ha⟩ : ∃ a : Nat, val (xs.take i) = a := ⟨(val (xs.take i)).toNat, by omega⟩
  have hp2 : p = 2 ^ (32 * i) := by
    have := pw_two i
    rw [hpp] at this
    exact_mod_cast this
  rw [ha, hpp] at e
  rw [ha, hpp] at h1
  have hv : (val xs).toNat = a + p * b := by rw [e]; have : ((a : Int) + p * b) = ((a + p * b : Nat) : Int) := by push_cast; rfl
                                             rw [this, Int.toNat_natCast]
  rw [hv]
  have hb1 : 1 ≤ b := by omega
  have hap : a < p := by omega
  have hle : 2 ^ (32 * i) ≤ a + p * b := by
    rw [← hp2]
    have : p * 1 ≤ p * b := Nat.mul_le_mul_left p hb1
    omega
  rw [blen_div hle, ← hp2, Nat.add_mul_div_left _ _ (by omega), Nat.div_eq_of_lt hap, Nat.zero_add]
  exact Nat.add_comm _ _

def told24 : AW.Told := ⟨fun _ => false, fun r i => if r == 1 && i == 2 then [6] else [], fun _ => .done⟩

theorem f24 (xs : List Int) (hx : wfl xs) : Imm Tryd.prog 56 [.d (nat xs)] (fun r => r = i64 (if bad xs then 0 else blen (val xs).toNat)) := by
  (refine Imm.of_awp told24 [] Tryd.func56 rfl (by decide) (Nat.le_of_ble_eq_true rfl) ?_; intro _w0 _S0 _E0 _B0; ((conv => whnf); repeat' (first | (refine And.intro ?_ ?_; (focus (first | rfl | decide | assumption | omega | decide +kernel | exact ⟨rfl, rfl⟩ | exact ⟨rfl, rfl, rfl, rfl⟩ | exact fun h => Bool.noConfusion h | exact fun _ => rfl | exact Nat.le_of_ble_eq_true rfl | (simp only [List.length_map, List.length_append, List.length_replicate, List.length_take, List.length_drop, List.length_set, List.length_cons, List.length_nil]; omega))); (conv => whnf)) | ((refine And.intro ?_ ?_ <;> intro _h); all_goals ((first | replace _h := of_decide_eq_true _h | replace _h := of_decide_eq_false _h | skip); (try simp only [Bool.not_eq_true', Bool.not_eq_false', Bool.not_true, Bool.not_false, decide_eq_true_eq, decide_eq_false_iff_not] at _h); (try (guard_hyp _h : True; clear _h)); first | done | contradiction | exact absurd ((Eq.symm _h).trans (show _ = true by assumption)) (by decide) | exact absurd ((Eq.symm _h).trans (show _ = false by assumption)) (by decide) | (conv => whnf))) | (intro _h; ((first | replace _h := of_decide_eq_true _h | replace _h := of_decide_eq_false _h | skip); (try simp only [Bool.not_eq_true', Bool.not_eq_false', Bool.not_true, Bool.not_false, decide_eq_true_eq, decide_eq_false_iff_not] at _h); (try (guard_hyp _h : True; clear _h)); first | done | contradiction | exact absurd ((Eq.symm _h).trans (show _ = true by assumption)) (by decide) | exact absurd ((Eq.symm _h).trans (show _ = false by assumption)) (by decide) | (conv => whnf))))))
  refine acallI (f35 [xs]) rfl fun r hr => ?_
  subst hr
  ((conv => whnf); repeat' (first | (refine And.intro ?_ ?_; (focus (first | rfl | decide | assumption | omega | decide +kernel | exact ⟨rfl, rfl⟩ | exact ⟨rfl, rfl, rfl, rfl⟩ | exact fun h => Bool.noConfusion h | exact fun _ => rfl | exact Nat.le_of_ble_eq_true rfl | (simp only [List.length_map, List.length_append, List.length_replicate, List.length_take, List.length_drop, List.length_set, List.length_cons, List.length_nil]; omega))); (conv => whnf)) | ((refine And.intro ?_ ?_ <;> intro _h); all_goals ((first | replace _h := of_decide_eq_true _h | replace _h := of_decide_eq_false _h | skip); (try simp only [Bool.not_eq_true', Bool.not_eq_false', Bool.not_true, Bool.not_false, decide_eq_true_eq, decide_eq_false_iff_not] at _h); (try (guard_hyp _h : True; clear _h)); first | done | contradiction | exact absurd ((Eq.symm _h).trans (show _ = true by assumption)) (by decide) | exact absurd ((Eq.symm _h).trans (show _ = false by assumption)) (by decide) | (conv => whnf))) | (intro _h; ((first | replace _h := of_decide_eq_true _h | replace _h := of_decide_eq_false _h | skip); (try simp only [Bool.not_eq_true', Bool.not_eq_false', Bool.not_true, Bool.not_false, decide_eq_true_eq, decide_eq_false_iff_not] at _h); (try (guard_hyp _h : True; clear _h)); first | done | contradiction | exact absurd ((Eq.symm _h).trans (show _ = true by assumption)) (by decide) | exact absurd ((Eq.symm _h).trans (show _ = false by assumption)) (by decide) | (conv => whnf)))))
  · simp at _h
    exact Ends.imm rfl (by rw [if_pos _h])
  · simp at _h
    have hbx := _h
    unfold bad at hbx
    simp at hbx
    rw [_h]
    refine acallI (f38 xs) rfl fun r hr => ?_
    subst hr
    ((conv => whnf); repeat' (first | (refine And.intro ?_ ?_; (focus (first | rfl | decide | assumption | omega | decide +kernel | exact ⟨rfl, rfl⟩ | exact ⟨rfl, rfl, rfl, rfl⟩ | exact fun h => Bool.noConfusion h | exact fun _ => rfl | exact Nat.le_of_ble_eq_true rfl | (simp only [List.length_map, List.length_append, List.length_replicate, List.length_take, List.length_drop, List.length_set, List.length_cons, List.length_nil]; omega))); (conv => whnf)) | ((refine And.intro ?_ ?_ <;> intro _h); all_goals ((first | replace _h := of_decide_eq_true _h | replace _h := of_decide_eq_false _h | skip); (try simp only [Bool.not_eq_true', Bool.not_eq_false', Bool.not_true, Bool.not_false, decide_eq_true_eq, decide_eq_false_iff_not] at _h); (try (guard_hyp _h : True; clear _h)); first | done | contradiction | exact absurd ((Eq.symm _h).trans (show _ = true by assumption)) (by decide) | exact absurd ((Eq.symm _h).trans (show _ = false by assumption)) (by decide) | (conv => whnf))) | (intro _h; ((first | replace _h := of_decide_eq_true _h | replace _h := of_decide_eq_false _h | skip); (try simp only [Bool.not_eq_true', Bool.not_eq_false', Bool.not_true, Bool.not_false, decide_eq_true_eq, decide_eq_false_iff_not] at _h); (try (guard_hyp _h : True; clear _h)); first | done | contradiction | exact absurd ((Eq.symm _h).trans (show _ = true by assumption)) (by decide) | exact absurd ((Eq.symm _h).trans (show _ = false by assumption)) (by decide) | (conv => whnf)))))
    refine AWp.rangeFunc told24 (ai49 xs) (ι := Int) [(0, .d (nat xs)), (2, .optr 0 0)] (fun v => [(0, .cell 3 [i64 v])]) 20 1 1 (fun k v => v = 0 ∧ ∀ j, xs.length ≤ j + k → xs.getD j 0 = 0)
      (fun e v => match e with
        | .ret => v = blen (val xs).toNat
        | _ => False) rfl rfl rfl (fun k hk => rfl) rfl rfl (Nat.zero_le _) (Nat.le_refl _) rfl
      ⟨0, [0], rfl, ⟨rfl, fun j hj => by rw [List.getD_eq_getElem?_getD, List.getElem?_eq_none (by omega)]; rfl⟩, by (refine ⟨rfl, rfl, ?_, ?_⟩ <;> repeat' (first | exact True.intro | rfl | decide | (refine And.intro ?_ ?_)))⟩ ?_ ?_ ?_ ?_
    · intro k v hk ⟨hv, hz⟩ _ _ _ _ _
      subst hv
      have hg := hx.get (xs.length - 1 - k)
      have hb := (blen_le (xs.getD (xs.length - 1 - k) 0).toNat 32).2 (by omega)
      ((conv => whnf); repeat' (first | (refine And.intro ?_ ?_; (focus (first | rfl | decide | assumption | omega | decide +kernel | exact ⟨rfl, rfl⟩ | exact ⟨rfl, rfl, rfl, rfl⟩ | exact fun h => Bool.noConfusion h | exact fun _ => rfl | exact Nat.le_of_ble_eq_true rfl | (simp only [List.length_map, List.length_append, List.length_replicate, List.length_take, List.length_drop, List.length_set, List.length_cons, List.length_nil]; omega))); (conv => whnf)) | ((refine And.intro ?_ ?_ <;> intro _h); all_goals ((first | replace _h := of_decide_eq_true _h | replace _h := of_decide_eq_false _h | skip); (try simp only [Bool.not_eq_true', Bool.not_eq_false', Bool.not_true, Bool.not_false, decide_eq_true_eq, decide_eq_false_iff_not] at _h); (try (guard_hyp _h : True; clear _h)); first | done | contradiction | exact absurd ((Eq.symm _h).trans (show _ = true by assumption)) (by decide) | exact absurd ((Eq.symm _h).trans (show _ = false by assumption)) (by decide) | (conv => whnf))) | (intro _h; ((first | replace _h := of_decide_eq_true _h | replace _h := of_decide_eq_false _h | skip); (try simp only [Bool.not_eq_true', Bool.not_eq_false', Bool.not_true, Bool.not_false, decide_eq_true_eq, decide_eq_false_iff_not] at _h); (try (guard_hyp _h : True; clear _h)); first | done | contradiction | exact absurd ((Eq.symm _h).trans (show _ = true by assumption)) (by decide) | exact absurd ((Eq.symm _h).trans (show _ = false by assumption)) (by decide) | (conv => whnf)))))
      · refine acallI (f39 _ hg.1 hg.2) rfl fun r hr => ?_
        subst hr
        ((conv => whnf); repeat' (first | (refine And.intro ?_ ?_; (focus (first | rfl | decide | assumption | omega | decide +kernel | exact ⟨rfl, rfl⟩ | exact ⟨rfl, rfl, rfl, rfl⟩ | exact fun h => Bool.noConfusion h | exact fun _ => rfl | exact Nat.le_of_ble_eq_true rfl | (simp only [List.length_map, List.length_append, List.length_replicate, List.length_take, List.length_drop, List.length_set, List.length_cons, List.length_nil]; omega))); (conv => whnf)) | ((refine And.intro ?_ ?_ <;> intro _h); all_goals ((first | replace _h := of_decide_eq_true _h | replace _h := of_decide_eq_false _h | skip); (try simp only [Bool.not_eq_true', Bool.not_eq_false', Bool.not_true, Bool.not_false, decide_eq_true_eq, decide_eq_false_iff_not] at _h); (try (guard_hyp _h : True; clear _h)); first | done | contradiction | exact absurd ((Eq.symm _h).trans (show _ = true by assumption)) (by decide) | exact absurd ((Eq.symm _h).trans (show _ = false by assumption)) (by decide) | (conv => whnf))) | (intro _h; ((first | replace _h := of_decide_eq_true _h | replace _h := of_decide_eq_false _h | skip); (try simp only [Bool.not_eq_true', Bool.not_eq_false', Bool.not_true, Bool.not_false, decide_eq_true_eq, decide_eq_false_iff_not] at _h); (try (guard_hyp _h : True; clear _h)); first | done | contradiction | exact absurd ((Eq.symm _h).trans (show _ = true by assumption)) (by decide) | exact absurd ((Eq.symm _h).trans (show _ = false by assumption)) (by decide) | (conv => whnf)))))
        refine ⟨blen (val xs).toNat, [0], rfl, rfl, rfl, ⟨by decide, ?_⟩, trivial⟩
        show some (Ob.cell 3 [i64 (IntKind.i64.wrap (IntKind.i64.wrap (32 * ((xs.length : Int) - 1 - k)) + blen (xs.getD (xs.length - 1 - k) 0).toNat))]) = some (Ob.cell 3 [i64 (blen (val xs).toNat)])
        rw [wrap_i64 (n := 32 * ((xs.length : Int) - 1 - k)) (by omega) (by omega), wrap_i64 (by omega) (by omega)]
        rw [val_top xs hx (xs.length - 1 - k) (by omega) (fun j hj => hz j (by omega)) _h]
        congr 4
        omega
      · exact ⟨0, [0], rfl, ⟨rfl, fun j hj => by
          rcases Nat.lt_or_ge j (xs.length - k) with h | h
          · have : j = xs.length - 1 - k := by omega
            subst this; exact _h
          · exact hz j (by omega)⟩, rfl, ⟨by decide, rfl⟩, trivial⟩
    · intro v ⟨hv, hz⟩
      subst hv
      ((conv => whnf); repeat' (first | (refine And.intro ?_ ?_; (focus (first | rfl | decide | assumption | omega | decide +kernel | exact ⟨rfl, rfl⟩ | exact ⟨rfl, rfl, rfl, rfl⟩ | exact fun h => Bool.noConfusion h | exact fun _ => rfl | exact Nat.le_of_ble_eq_true rfl | (simp only [List.length_map, List.length_append, List.length_replicate, List.length_take, List.length_drop, List.length_set, List.length_cons, List.length_nil]; omega))); (conv => whnf)) | ((refine And.intro ?_ ?_ <;> intro _h); all_goals ((first | replace _h := of_decide_eq_true _h | replace _h := of_decide_eq_false _h | skip); (try simp only [Bool.not_eq_true', Bool.not_eq_false', Bool.not_true, Bool.not_false, decide_eq_true_eq, decide_eq_false_iff_not] at _h); (try (guard_hyp _h : True; clear _h)); first | done | contradiction | exact absurd ((Eq.symm _h).trans (show _ = true by assumption)) (by decide) | exact absurd ((Eq.symm _h).trans (show _ = false by assumption)) (by decide) | (conv => whnf))) | (intro _h; ((first | replace _h := of_decide_eq_true _h | replace _h := of_decide_eq_false _h | skip); (try simp only [Bool.not_eq_true', Bool.not_eq_false', Bool.not_true, Bool.not_false, decide_eq_true_eq, decide_eq_false_iff_not] at _h); (try (guard_hyp _h : True; clear _h)); first | done | contradiction | exact absurd ((Eq.symm _h).trans (show _ = true by assumption)) (by decide) | exact absurd ((Eq.symm _h).trans (show _ = false by assumption)) (by decide) | (conv => whnf)))))
      refine Ends.imm rfl ?_
      rw [val_zero_of xs fun j => hz j (by omega)]
      rfl
    · intro v hv
      ((conv => whnf); repeat' (first | (refine And.intro ?_ ?_; (focus (first | rfl | decide | assumption | omega | decide +kernel | exact ⟨rfl, rfl⟩ | exact ⟨rfl, rfl, rfl, rfl⟩ | exact fun h => Bool.noConfusion h | exact fun _ => rfl | exact Nat.le_of_ble_eq_true rfl | (simp only [List.length_map, List.length_append, List.length_replicate, List.length_take, List.length_drop, List.length_set, List.length_cons, List.length_nil]; omega))); (conv => whnf)) | ((refine And.intro ?_ ?_ <;> intro _h); all_goals ((first | replace _h := of_decide_eq_true _h | replace _h := of_decide_eq_false _h | skip); (try simp only [Bool.not_eq_true', Bool.not_eq_false', Bool.not_true, Bool.not_false, decide_eq_true_eq, decide_eq_false_iff_not] at _h); (try (guard_hyp _h : True; clear _h)); first | done | contradiction | exact absurd ((Eq.symm _h).trans (show _ = true by assumption)) (by decide) | exact absurd ((Eq.symm _h).trans (show _ = false by assumption)) (by decide) | (conv => whnf))) | (intro _h; ((first | replace _h := of_decide_eq_true _h | replace _h := of_decide_eq_false _h | skip); (try simp only [Bool.not_eq_true', Bool.not_eq_false', Bool.not_true, Bool.not_false, decide_eq_true_eq, decide_eq_false_iff_not] at _h); (try (guard_hyp _h : True; clear _h)); first | done | contradiction | exact absurd ((Eq.symm _h).trans (show _ = true by assumption)) (by decide) | exact absurd ((Eq.symm _h).trans (show _ = false by assumption)) (by decide) | (conv => whnf)))))
      refine Ends.imm rfl ?_
      rw [hv]; rfl
    · intro id v hv
      exact hv.elim
end Go.Proofs.YtniaeiikdgbnfaaDoor.R
