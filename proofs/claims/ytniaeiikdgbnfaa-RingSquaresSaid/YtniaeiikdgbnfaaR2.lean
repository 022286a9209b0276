/- The ring's code, part 2: words. -/
import Derived.Test.YtniaeiikdgbnfaaR1
namespace Go.Proofs.Ytniaeiikdgbnfaa.R
open Go Go.RowKit Go.Proofs Go.Proofs.Ytniaeiikdgbnfaa.AW
set_option maxRecDepth 100000
set_option linter.unusedSimpArgs false
set_option linter.unusedVariables false
set_option maxHeartbeats 4000000


theorem di {k : IntKind} {a b : Int} (h : a = b) : AVal.d (.int k a) = .d (.int k b) := by rw [h]
theorem tup2 {a b c d : AVal} (h1 : a = c) (h2 : b = d) : AVal.tup [a, b] = .tup [c, d] := by rw [h1, h2]
theorem tup3 {a b c d e f : AVal} (h1 : a = d) (h2 : b = e) (h3 : c = f) : AVal.tup [a, b, c] = .tup [d, e, f] := by rw [h1, h2, h3]

theorem f45 (x y c : Int) (hx : 0 ≤ x ∧ x < 4294967296) (hy : 0 ≤ y ∧ y < 4294967296) (hc : 0 ≤ c ∧ c < 4294967296) :
    Imm Try.prog 45 [u32 x, u32 y, u32 c] (fun r => r = .tup [u32 ((x + y + c) % 4294967296), u32 ((x + y + c) / 4294967296)]) := by
  (refine Imm.of_awp told0 [] Try.func45 rfl (by decide) (Nat.le_of_ble_eq_true rfl) ?_; intro _w0 _S0 _E0 _B0; ((conv => whnf); repeat' (first | (refine And.intro ?_ ?_; (focus (first | rfl | decide | assumption | omega | decide +kernel | exact ⟨rfl, rfl⟩ | exact ⟨rfl, rfl, rfl, rfl⟩ | exact fun h => Bool.noConfusion h | exact fun _ => rfl | exact Nat.le_of_ble_eq_true rfl | (simp only [List.length_map, List.length_append, List.length_replicate, List.length_take, List.length_drop, List.length_set, List.length_cons, List.length_nil]; omega))); (conv => whnf)) | ((refine And.intro ?_ ?_ <;> intro _h); all_goals ((first | replace _h := of_decide_eq_true _h | replace _h := of_decide_eq_false _h | skip); (try simp only [Bool.not_eq_true', Bool.not_eq_false', Bool.not_true, Bool.not_false, decide_eq_true_eq, decide_eq_false_iff_not] at _h); (try (guard_hyp _h : True; clear _h)); first | done | contradiction | exact absurd ((Eq.symm _h).trans (show _ = true by assumption)) (by decide) | exact absurd ((Eq.symm _h).trans (show _ = false by assumption)) (by decide) | (conv => whnf))) | (intro _h; ((first | replace _h := of_decide_eq_true _h | replace _h := of_decide_eq_false _h | skip); (try simp only [Bool.not_eq_true', Bool.not_eq_false', Bool.not_true, Bool.not_false, decide_eq_true_eq, decide_eq_false_iff_not] at _h); (try (guard_hyp _h : True; clear _h)); first | done | contradiction | exact absurd ((Eq.symm _h).trans (show _ = true by assumption)) (by decide) | exact absurd ((Eq.symm _h).trans (show _ = false by assumption)) (by decide) | (conv => whnf))))))
  refine Ends.imm rfl (tup2 (di ?_) (di ?_))
  · simp [IntKind.wrap, IntKind.bits, IntKind.signed] <;> omega
  · simp [IntKind.wrap, IntKind.bits, IntKind.signed] <;> omega

theorem f52 (x y : Int) (hx : 0 ≤ x ∧ x < 4294967296) (hy : 0 ≤ y ∧ y < 4294967296) :
    Imm Try.prog 52 [u32 x, u32 y] (fun r => r = .tup [u32 (x * y / 4294967296), u32 (x * y % 4294967296)]) := by
  have h0 : 0 ≤ x * y := Int.mul_nonneg hx.1 hy.1
  have h1 : x * y ≤ 4294967295 * 4294967295 := Int.mul_le_mul (by omega) (by omega) hy.1 (by omega)
  have e1 : x % 18446744073709551616 = x := Int.emod_eq_of_lt hx.1 (by omega)
  have e2 : y % 18446744073709551616 = y := Int.emod_eq_of_lt hy.1 (by omega)
  (refine Imm.of_awp told0 [] Try.func52 rfl (by decide) (Nat.le_of_ble_eq_true rfl) ?_; intro _w0 _S0 _E0 _B0; ((conv => whnf); repeat' (first | (refine And.intro ?_ ?_; (focus (first | rfl | decide | assumption | omega | decide +kernel | exact ⟨rfl, rfl⟩ | exact ⟨rfl, rfl, rfl, rfl⟩ | exact fun h => Bool.noConfusion h | exact fun _ => rfl | exact Nat.le_of_ble_eq_true rfl | (simp only [List.length_map, List.length_append, List.length_replicate, List.length_take, List.length_drop, List.length_set, List.length_cons, List.length_nil]; omega))); (conv => whnf)) | ((refine And.intro ?_ ?_ <;> intro _h); all_goals ((first | replace _h := of_decide_eq_true _h | replace _h := of_decide_eq_false _h | skip); (try simp only [Bool.not_eq_true', Bool.not_eq_false', Bool.not_true, Bool.not_false, decide_eq_true_eq, decide_eq_false_iff_not] at _h); (try (guard_hyp _h : True; clear _h)); first | done | contradiction | exact absurd ((Eq.symm _h).trans (show _ = true by assumption)) (by decide) | exact absurd ((Eq.symm _h).trans (show _ = false by assumption)) (by decide) | (conv => whnf))) | (intro _h; ((first | replace _h := of_decide_eq_true _h | replace _h := of_decide_eq_false _h | skip); (try simp only [Bool.not_eq_true', Bool.not_eq_false', Bool.not_true, Bool.not_false, decide_eq_true_eq, decide_eq_false_iff_not] at _h); (try (guard_hyp _h : True; clear _h)); first | done | contradiction | exact absurd ((Eq.symm _h).trans (show _ = true by assumption)) (by decide) | exact absurd ((Eq.symm _h).trans (show _ = false by assumption)) (by decide) | (conv => whnf))))))
  refine Ends.imm rfl (tup2 (di ?_) (di ?_))
  · simp [IntKind.wrap, IntKind.bits, IntKind.signed, e1, e2] <;> omega
  · simp [IntKind.wrap, IntKind.bits, IntKind.signed, e1, e2] <;> omega

theorem f37 (xs : List Int) (i : Int) (h0 : 0 ≤ i) : Imm Try.prog 37 [.d (nat xs), i64 i] (fun r => r = u32 (xs.getD i.toNat 0)) := by
  (refine Imm.of_awp told0 [] Try.func37 rfl (by decide) (Nat.le_of_ble_eq_true rfl) ?_; intro _w0 _S0 _E0 _B0; ((conv => whnf); repeat' (first | (refine And.intro ?_ ?_; (focus (first | rfl | decide | assumption | omega | decide +kernel | exact ⟨rfl, rfl⟩ | exact ⟨rfl, rfl, rfl, rfl⟩ | exact fun h => Bool.noConfusion h | exact fun _ => rfl | exact Nat.le_of_ble_eq_true rfl | (simp only [List.length_map, List.length_append, List.length_replicate, List.length_take, List.length_drop, List.length_set, List.length_cons, List.length_nil]; omega))); (conv => whnf)) | ((refine And.intro ?_ ?_ <;> intro _h); all_goals ((first | replace _h := of_decide_eq_true _h | replace _h := of_decide_eq_false _h | skip); (try simp only [Bool.not_eq_true', Bool.not_eq_false', Bool.not_true, Bool.not_false, decide_eq_true_eq, decide_eq_false_iff_not] at _h); (try (guard_hyp _h : True; clear _h)); first | done | contradiction | exact absurd ((Eq.symm _h).trans (show _ = true by assumption)) (by decide) | exact absurd ((Eq.symm _h).trans (show _ = false by assumption)) (by decide) | (conv => whnf))) | (intro _h; ((first | replace _h := of_decide_eq_true _h | replace _h := of_decide_eq_false _h | skip); (try simp only [Bool.not_eq_true', Bool.not_eq_false', Bool.not_true, Bool.not_false, decide_eq_true_eq, decide_eq_false_iff_not] at _h); (try (guard_hyp _h : True; clear _h)); first | done | contradiction | exact absurd ((Eq.symm _h).trans (show _ = true by assumption)) (by decide) | exact absurd ((Eq.symm _h).trans (show _ = false by assumption)) (by decide) | (conv => whnf))))))
  · exact Ends.imm rfl rfl
  · refine Ends.imm rfl (di ?_)
    rw [List.getD_eq_getElem?_getD, List.getElem?_eq_none (by omega)]
    rfl

theorem wrap_nat (v : BitVec 32) : IntKind.u32.wrap (v.toNat : Int) = (v.toNat : Int) := by
  have := v.isLt
  exact wrap_in.2 ⟨by simp [loK], by simp [hiK]; omega⟩
theorem ofInt_nat (v : BitVec 32) : BitVec.ofInt 32 (v.toNat : Int) = v := by simp
theorem toNat_ofInt {x : Int} (h : 0 ≤ x ∧ x < 4294967296) : ((BitVec.ofInt 32 x).toNat : Int) = x := by
  rw [BitVec.toNat_ofInt]
  have : x % ((2 ^ 32 : Nat) : Int) = x := Int.emod_eq_of_lt h.1 (by simpa using h.2)
  rw [this]; exact Int.toNat_of_nonneg h.1
theorem msb_ofInt {x : Int} (h : 0 ≤ x ∧ x < 4294967296) : (BitVec.ofInt 32 x).msb = decide (2147483648 ≤ x) := by
  rw [BitVec.msb_eq_decide]
  have := toNat_ofInt h
  rw [decide_eq_decide]
  omega
theorem top_bit (v : BitVec 32) : (v.toNat : Int) / 2147483648 = if v.msb = true then 1 else 0 := by
  have := v.isLt
  rw [BitVec.msb_eq_decide]
  simp only [decide_eq_true_eq]
  split <;> omega
theorem all_ones : BitVec.ofInt 32 4294967295 = BitVec.allOnes 32 := by decide

theorem sub_bits (x y d : Int) (hx : 0 ≤ x ∧ x < 4294967296) (hy : 0 ≤ y ∧ y < 4294967296) (hd : 0 ≤ d ∧ d < 4294967296) :
    bitsK .or .u32 (bitsK .and .u32 (bitsK .xor .u32 4294967295 x) y) (bitsK .and .u32 (bitsK .xor .u32 4294967295 (bitsK .xor .u32 x y)) d) / 2147483648 =
      if (x < 2147483648 ∧ 2147483648 ≤ y) ∨ ((2147483648 ≤ x ↔ 2147483648 ≤ y) ∧ 2147483648 ≤ d) then 1 else 0 := by
  have e : ∀ (a b : Int), bitsK .xor .u32 a b = ((BitVec.ofInt 32 a ^^^ BitVec.ofInt 32 b).toNat : Int) := fun a b => wrap_nat _
  have e2 : ∀ (a b : Int), bitsK .and .u32 a b = ((BitVec.ofInt 32 a &&& BitVec.ofInt 32 b).toNat : Int) := fun a b => wrap_nat _
  have e3 : ∀ (a b : Int), bitsK .or .u32 a b = ((BitVec.ofInt 32 a ||| BitVec.ofInt 32 b).toNat : Int) := fun a b => wrap_nat _
  simp only [e, e2, e3, ofInt_nat, top_bit, all_ones, BitVec.msb_or, BitVec.msb_and, BitVec.msb_xor, msb_ofInt hx, msb_ofInt hy, msb_ofInt hd]
  have : (BitVec.allOnes 32).msb = true := by decide
  rw [this]
  by_cases h1 : 2147483648 ≤ x <;> by_cases h2 : 2147483648 ≤ y <;> by_cases h3 : 2147483648 ≤ d <;> simp [h1, h2, h3] <;> omega

theorem f53 (x y c : Int) (hx : 0 ≤ x ∧ x < 4294967296) (hy : 0 ≤ y ∧ y < 4294967296) (hc : c = 0 ∨ c = 1) :
    Imm Try.prog 53 [u32 x, u32 y, u32 c] (fun r => r = .tup [u32 ((x - y - c) % 4294967296), u32 (if x < y + c then 1 else 0)]) := by
  (refine Imm.of_awp told0 [] Try.func53 rfl (by decide) (Nat.le_of_ble_eq_true rfl) ?_; intro _w0 _S0 _E0 _B0; ((conv => whnf); repeat' (first | (refine And.intro ?_ ?_; (focus (first | rfl | decide | assumption | omega | decide +kernel | exact ⟨rfl, rfl⟩ | exact ⟨rfl, rfl, rfl, rfl⟩ | exact fun h => Bool.noConfusion h | exact fun _ => rfl | exact Nat.le_of_ble_eq_true rfl | (simp only [List.length_map, List.length_append, List.length_replicate, List.length_take, List.length_drop, List.length_set, List.length_cons, List.length_nil]; omega))); (conv => whnf)) | ((refine And.intro ?_ ?_ <;> intro _h); all_goals ((first | replace _h := of_decide_eq_true _h | replace _h := of_decide_eq_false _h | skip); (try simp only [Bool.not_eq_true', Bool.not_eq_false', Bool.not_true, Bool.not_false, decide_eq_true_eq, decide_eq_false_iff_not] at _h); (try (guard_hyp _h : True; clear _h)); first | done | contradiction | exact absurd ((Eq.symm _h).trans (show _ = true by assumption)) (by decide) | exact absurd ((Eq.symm _h).trans (show _ = false by assumption)) (by decide) | (conv => whnf))) | (intro _h; ((first | replace _h := of_decide_eq_true _h | replace _h := of_decide_eq_false _h | skip); (try simp only [Bool.not_eq_true', Bool.not_eq_false', Bool.not_true, Bool.not_false, decide_eq_true_eq, decide_eq_false_iff_not] at _h); (try (guard_hyp _h : True; clear _h)); first | done | contradiction | exact absurd ((Eq.symm _h).trans (show _ = true by assumption)) (by decide) | exact absurd ((Eq.symm _h).trans (show _ = false by assumption)) (by decide) | (conv => whnf))))))
  have e : IntKind.u32.wrap (IntKind.u32.wrap (x - y) - c) = (x - y - c) % 4294967296 := by simp [IntKind.wrap, IntKind.bits, IntKind.signed]
  refine Ends.imm rfl (tup2 (di e) (di ?_))
  rw [e]
  refine (sub_bits x y ((x - y - c) % 4294967296) hx hy (by omega)).trans ?_
  rcases hc with rfl | rfl
  · split <;> split <;> omega
  · split <;> split <;> omega

end Go.Proofs.Ytniaeiikdgbnfaa.R
