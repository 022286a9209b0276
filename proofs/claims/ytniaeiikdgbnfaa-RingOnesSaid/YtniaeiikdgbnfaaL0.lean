/- What the laws of the ring share. -/
import Derived.Test.YtniaeiikdgbnfaaR17
import Derived.Test.YtniaeiikdgbnfaaAW28
namespace Go.Proofs.Ytniaeiikdgbnfaa.R
open Go Go.RowKit Go.Proofs Go.Proofs.Ytniaeiikdgbnfaa.AW
set_option maxRecDepth 100000
set_option linter.unusedSimpArgs false
set_option linter.unusedVariables false
set_option maxHeartbeats 4000000

/-- What New gives. -/
theorem new_cases (n : List Int) (hn : wfl n) {φ : AVal → Prop} (h1 : ∀ e, e ≠ 0 → φ (.tup [.d .nilp, i64 e])) (h2 : ∀ n0 rr, Ring n n0 rr → n.length ≤ 128 → φ (.tup [.d (ringD n n0 rr), i64 0])) : Imm Try.prog 11 [.d (nat n)] φ :=
  (f11 n hn).mono fun r hr => by
    split at hr
    · rw [hr]; exact h1 _ (by omega)
    · split at hr
      · rw [hr]; exact h1 _ (by omega)
      · obtain ⟨n0, rr, e, hR⟩ := hr
        rw [e]; exact h2 n0 rr hR (by omega)

theorem el_iff (n x : List Int) : (decide (x.length = n.length) && decide (val x < val n)) = !notEl n x := by
  unfold notEl
  by_cases h1 : x.length = n.length <;> by_cases h2 : val x < val n <;> simp [h1, h2] <;> omega

theorem f19' (a n : List Int) (ha : wfl a) (hn : wfl n) (hs : a.length ≤ 1000 ∧ n.length ≤ 1000) (c : Bool) (hc : notEl n a = c) : Imm Try.prog 19 [.d (nat a), .d (nat n)] (fun r => r = bool (!c)) :=
  (f19 a n ha hn hs).mono fun r hr => by rw [hr, el_iff, hc]

theorem Ring.bad {n : List Int} {n0 : Int} {rr x : List Int} (h : Ring n n0 rr) (hl : x.length = n.length) : R.bad x = false := by
  have := h.hbn
  unfold R.bad at this ⊢
  rw [hl]; exact this

theorem Ring.pos {n : List Int} {n0 : Int} {rr : List Int} (h : Ring n n0 rr) : 0 < n.length := by
  have := h.hbn
  unfold R.bad at this
  rw [Bool.or_eq_false_iff, decide_eq_false_iff_not] at this
  omega

/-- Equal numbers. -/
theorem Ring.same {n : List Int} {n0 : Int} {rr x y : List Int} (h : Ring n n0 rr) (hx : wfl x) (hy : wfl y) (hlx : x.length = n.length) (hly : y.length = n.length) (e : val x = val y) :
    Imm Try.prog 23 [.d (nat x), .d (nat y)] (fun r => r = i64 0) :=
  (f23 x y hx hy (h.bad hlx) (h.bad hly)).mono fun r hr => by rw [hr, (sgn_zero _ _).2 e]

theorem el_false {n x : List Int} (h1 : x.length = n.length) (h2 : val x < val n) : notEl n x = false := by
  unfold notEl
  rw [decide_eq_false (by omega), decide_eq_false (by omega)]; rfl

/-- What New gives, or not. -/
theorem new_or (n : List Int) (hn : wfl n) : Imm Try.prog 11 [.d (nat n)] (fun r => (∃ e, e ≠ 0 ∧ r = .tup [.d .nilp, i64 e]) ∨ ∃ n0 rr, Ring n n0 rr ∧ n.length ≤ 128 ∧ r = .tup [.d (ringD n n0 rr), i64 0]) :=
  new_cases n hn (fun e he => .inl ⟨e, he, rfl⟩) (fun n0 rr h hl => .inr ⟨n0, rr, h, hl, rfl⟩)

/-- Products, powers, short products of elements. -/
theorem Ring.times {n : List Int} {n0 : Int} {rr a b : List Int} (h : Ring n n0 rr) (ha : wfl a) (hb : wfl b) (h1 : notEl n a = false) (h2 : notEl n b = false) :
    Imm Try.prog 22 [.d (ringD n n0 rr), .d (nat a), .d (nat b)] (fun r => ∃ z, r = .tup [.d (nat z), i64 0] ∧ z.length = n.length ∧ wfl z ∧ val z = (val a * val b) % val n) :=
  (f22 n n0 rr a b h ha hb).mono fun r hr => by rwa [h1, h2, if_neg (by simp)] at hr
theorem Ring.shorts {n : List Int} {n0 : Int} {rr a b : List Int} (h : Ring n n0 rr) (ha : wfl a) (hb : wfl b) (h1 : notEl n a = false) (h2 : notEl n b = false) :
    Imm Try.prog 25 [.d (ringD n n0 rr), .d (nat a), .d (nat b)] (fun r => ∃ z, r = .tup [.d (nat z), i64 0] ∧ shortS n a b z) :=
  (f25 n n0 rr a b h ha hb).mono fun r hr => by rwa [h1, h2, if_neg (by simp)] at hr
theorem Ring.power {n : List Int} {n0 : Int} {rr a exp : List Int} (h : Ring n n0 rr) (ha : wfl a) (he : ∀ b ∈ exp, 0 ≤ b ∧ b < 256) (h1 : notEl n a = false) (hl : exp.length ≤ 1024) :
    Imm Try.prog 18 [.d (ringD n n0 rr), .d (nat a), .d (.ints .u8 exp)] (fun r => ∃ z, r = .tup [.d (nat z), i64 0] ∧ z.length = n.length ∧ wfl z ∧ val z = (val a ^ ev exp) % val n) :=
  (f18 n n0 rr a exp h ha he).mono fun r hr => by rwa [h1, if_neg (by simp), if_neg (by omega)] at hr
theorem mod_lt {n : List Int} {n0 : Int} {rr : List Int} (h : Ring n n0 rr) (x : Int) : x % val n < val n := Int.emod_lt_of_pos _ (by have := h.h1; omega)

/-- What a slice's type tells. -/
theorem wfl_known {xs : List Int} (h : (D.ints .u32 xs).known) : wfl xs := fun x hx => by
  have := h.2 x hx
  rw [wrap_in] at this
  simp [loK, hiK] at this
  omega

end Go.Proofs.Ytniaeiikdgbnfaa.R
