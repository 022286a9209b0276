/- Parts K4, K5, K6, K7, K8, K9, K10, K11, K12, K13, K14, K15, K16. No condition of its own. -/
import Derived.Test.YtniaeiikdgbnfaaDoorKO9
import Derived.Test.YtniaeiikdgbnfaaDoorKO6

namespace Go.Proofs.YtniaeiikdgbnfaaDoor.R
open Go Go.RowKit Go.Proofs Go.Proofs.YtniaeiikdgbnfaaDoor.AW
set_option linter.unusedSectionVars false
variable [Globs]
set_option maxRecDepth 100000
set_option linter.unusedSimpArgs false
set_option linter.unusedVariables false
set_option maxHeartbeats 4000000

theorem val_set : ∀ (xs : List Int) (j : Nat) (v : Int), j < xs.length → val (xs.set j v) = val xs + pw j * (v - xs.getD j 0)
  | [], j, v, h => by simp at h
  | x :: xs, 0, v, _ => by simp [val, pw_zero]; omega
  | x :: xs, j + 1, v, h => by
    have := val_set xs j v (by simpa using h)
    simp only [List.set_cons_succ, val, this, pw_succ, List.getD_cons_succ]
    grind

theorem or_step (x c : Int) (s : Nat) (hs : s < 4) (hx : 0 ≤ x) (hx2 : x < 256 ^ s) (hc : 0 ≤ c) (hc2 : c < 256) (m : Int) (hm : m = 8 * s) :
    bitsK .or .u32 x (IntKind.u32.wrap (c * 2 ^ (min m.toNat (IntKind.bits .u32)))) = x + 256 ^ s * c := by
  obtain ⟨a, rfl⟩ : ∃ a : Nat, x = a := ⟨x.toNat, by omega⟩
  obtain ⟨d, rfl⟩ : ∃ a : Nat, c = a := ⟨c.toNat, by omega⟩
  subst hm
  have e : min (8 * (s : Int)).toNat (IntKind.bits .u32) = 8 * s := by
    have : (8 * (s : Int)).toNat = 8 * s := by omega
    rw [this, Nat.min_eq_left (by simp [IntKind.bits]; omega)]
  have hp : (256 : Nat) ^ s = 2 ^ (8 * s) := by rw [Nat.pow_mul]
  have ha : a < 2 ^ (8 * s) := by rw [← hp]; exact_mod_cast hx2
  have h24 : 2 ^ (8 * s) ≤ 2 ^ 24 := Nat.pow_le_pow_right (by omega) (by omega)
  have hd : d < 256 := by omega
  have hdd : d * 2 ^ (8 * s) < 4294967296 := by
    have : d * 2 ^ (8 * s) ≤ 255 * 2 ^ 24 := Nat.mul_le_mul (by omega) h24
    omega
  rw [e]
  have e2 : IntKind.u32.wrap ((d : Int) * 2 ^ (8 * s)) = ((d * 2 ^ (8 * s) : Nat) : Int) := by
    have e3 : (d : Int) * 2 ^ (8 * s) = ((d * 2 ^ (8 * s) : Nat) : Int) := by push_cast; rfl
    rw [e3, wrap_u32 (by omega) (by omega)]
  rw [e2]
  have e4 : a ||| d * 2 ^ (8 * s) = a + 2 ^ (8 * s) * d := by
    have := Nat.shiftLeft_add_eq_or_of_lt ha d
    rw [Nat.shiftLeft_eq] at this
    rw [Nat.or_comm, ← this, Nat.mul_comm, Nat.add_comm]
  have e5 : d * 2 ^ (8 * s) = 2 ^ (8 * s) * d := Nat.mul_comm ..
  have hlt : a + 2 ^ (8 * s) * d < 4294967296 := by
    have h1 : 2 ^ (8 * s) * d ≤ 2 ^ (8 * s) * 255 := Nat.mul_le_mul_left _ (by omega)
    omega
  have e6 : (BitVec.ofInt 32 (a : Int) ||| BitVec.ofInt 32 ((d * 2 ^ (8 * s) : Nat) : Int)).toNat = a ||| d * 2 ^ (8 * s) := by
    simp only [BitVec.ofInt_natCast, BitVec.toNat_or, BitVec.toNat_ofNat]
    rw [Nat.mod_eq_of_lt (by omega), Nat.mod_eq_of_lt (by omega)]
  show IntKind.u32.wrap ((BitVec.ofInt 32 (a : Int) ||| BitVec.ofInt 32 ((d * 2 ^ (8 * s) : Nat) : Int)).toNat : Int) = _
  rw [e6, e4, wrap_u32 (by omega) (by omega), ← hp]
  push_cast
  rfl

def keep4 (k : Nat) (n : List Int) : Prop := (∀ j, k / 4 < j → n.getD j 0 = 0) ∧ n.getD (k / 4) 0 < 256 ^ (k % 4)

theorem getD_set (n : List Int) (j : Nat) (x : Int) (i : Nat) : (n.set j x).getD i 0 = if i = j ∧ j < n.length then x else n.getD i 0 := by
  rw [List.getD_eq_getElem?_getD, List.getD_eq_getElem?_getD, List.getElem?_set]
  split
  · rename_i h; subst h
    split
    · rename_i h; rw [if_pos ⟨rfl, h⟩]; rfl
    · rename_i h; rw [if_neg (by omega), List.getElem?_eq_none (by omega)]
  · rename_i h; rw [if_neg (by omega)]

theorem pw_dpw (j s : Nat) : pw j * 256 ^ s = dpw (4 * j + s) := by
  unfold pw dpw
  rw [Int.pow_add, Int.pow_mul]
  rfl

theorem from_step (b n : List Int) (w k : Nat) (hb : wfd b) (hk : k < b.length) (hkw : k / 4 < w) (hn : n.length = w) (hwf : wfl n) (hv : val n = dval (b.reverse.take k)) (hz : keep4 k n) {c : Int} (hc : c = b.getD (b.length - 1 - k) 0) :
    (n.set (k / 4) (n.getD (k / 4) 0 + 256 ^ (k % 4) * c)).length = w ∧ wfl (n.set (k / 4) (n.getD (k / 4) 0 + 256 ^ (k % 4) * c)) ∧ val (n.set (k / 4) (n.getD (k / 4) 0 + 256 ^ (k % 4) * c)) = dval (b.reverse.take (k + 1)) ∧
      keep4 (k + 1) (n.set (k / 4) (n.getD (k / 4) 0 + 256 ^ (k % 4) * c)) := by
  obtain ⟨hz, hlt⟩ := hz
  have hg := hb.get (b.length - 1 - k)
  rw [← hc] at hg
  have hx := hwf.get (k / 4)
  have hs : k % 4 < 4 := Nat.mod_lt _ (by omega)
  have key : n.getD (k / 4) 0 + 256 ^ (k % 4) * c < 256 ^ (k % 4 + 1) := by
    rw [Int.pow_succ]
    have : (256 : Int) ^ (k % 4) * c ≤ 256 ^ (k % 4) * 255 := Int.mul_le_mul_of_nonneg_left (by omega) (Int.le_of_lt (Int.pow_pos (by omega)))
    omega
  have hnn : (0 : Int) ≤ 256 ^ (k % 4) * c := Int.mul_nonneg (Int.le_of_lt (Int.pow_pos (by omega))) hg.1
  have hb4 : (256 : Int) ^ (k % 4 + 1) ≤ 4294967296 := by
    have : ∀ s : Fin 4, (256 : Int) ^ (s.val + 1) ≤ 4294967296 := by decide
    exact this ⟨k % 4, hs⟩
  refine ⟨by simp [hn], hwf.set _ ⟨by omega, by omega⟩, ?_, fun j hj => ?_, ?_⟩
  · rw [val_set _ _ _ (by omega), hv, rev_take hk, dval_snoc, ← hc]
    have e : (b.reverse.take k).length = k := by simp; omega
    have e2 : 4 * (k / 4) + k % 4 = k := Nat.div_add_mod k 4
    rw [e, ← congrArg dpw e2, ← pw_dpw]
    generalize n.getD (k / 4) 0 = x
    grind
  · rw [getD_set, if_neg (by omega)]
    exact hz j (by omega)
  · rw [getD_set]
    split
    · rename_i h
      have h4 : (k + 1) % 4 = k % 4 + 1 := by omega
      rw [h4]; exact key
    · rename_i h
      have h4 : (k + 1) / 4 = k / 4 + 1 := by omega
      rw [h4, hz _ (by omega)]
      exact Int.pow_pos (by omega)

def toldFrom : AW.Told := ⟨fun _ => false, fun r i => [], fun r => if r == 9 then .take 0 (.take 1 (.take 2 (.take 3 (.take 4 (.take 5 (.take 6 (.take 7 (.take 8 (.take 9 (.take 10 (.take 11 (.take 12 (.one 13 .done))))))))))))) else .done⟩

theorem k_from (b : List Int) (w : Nat) (hb : wfd b) (hw : 1 ≤ w ∧ w ≤ 256) (hl : b.length ≤ 4 * w) : Imm Tryd.prog 24 [.d (byt b), i64 w] (fun r => ∃ n, r = .tup [.d (nat n), i64 0] ∧ n.length = w ∧ wfl n ∧ val n = dval b.reverse) := by
  (refine Imm.of_awp toldFrom [48] Tryd.func24 rfl (by decide) (Nat.le_of_ble_eq_true rfl) ?_; intro _w0 _S0 _E0 _B0; ((conv=>whnf);repeat'((first|(show(_=true→_)∧(_=false→_);first|refine gT ?_|refine gF ?_|refine gS ?_ ?_<;>(intro _h;try contradiction))|(show(_=false→_)∧(_=true→_);first|refine gU ?_|refine gV ?_|refine gZ ?_ ?_<;>(intro _h;try contradiction))|(intro _h;try contradiction)|(show _∧_;refine gA ?_)|fail);all_goals conv=>whnf)))
  refine acallI (k_backB b) rfl fun r hr => ?_
  subst hr
  ((conv=>whnf);repeat'((first|(show(_=true→_)∧(_=false→_);first|refine gT ?_|refine gF ?_|refine gS ?_ ?_<;>(intro _h;try contradiction))|(show(_=false→_)∧(_=true→_);first|refine gU ?_|refine gV ?_|refine gZ ?_ ?_<;>(intro _h;try contradiction))|(intro _h;try contradiction)|(show _∧_;refine gA ?_)|fail);all_goals conv=>whnf))
  refine AWp.rangeFunc toldFrom (aiB b) (ι := List Int) [(2, .optr 0 0), (3, .optr 1 0), (4, .optr 2 0), (5, .optr 3 0), (6, .optr 5 0)]
    (fun n => [(0, .cell 22 [.d (byt b)]), (1, .cell 3 [i64 w]), (2, .cell 37 [.nls (nat [])]), (3, .cell 25 [i64 0]), (4, .row .u32 79 n), (5, .cell 37 [.own 4])]) 49 6 6
    (fun k n => n.length = w ∧ wfl n ∧ val n = dval (b.reverse.take k) ∧ keep4 k n)
    (fun e v => False) rfl rfl rfl (fun k hk => rfl) rfl rfl (Nat.zero_le _) (Nat.le_refl _) rfl ?_ ?_ ?_ ?_ ?_
  · refine ⟨List.replicate w 0, [0, 1, 2, 3, 4, 5], rfl, ⟨by simp, fun x hx => by rw [List.eq_of_mem_replicate hx]; omega, ?_, fun j hj => ?_, ?_⟩, by (refine ⟨rfl, rfl, ?_, ?_⟩ <;> repeat' (first | exact True.intro | rfl | decide | (refine And.intro ?_ ?_)))⟩
    · rw [val_zero_of _ fun j => ?_]; rfl
      rw [List.getD_eq_getElem?_getD, List.getElem?_replicate]; split <;> rfl
    · rw [List.getD_eq_getElem?_getD, List.getElem?_replicate]; split <;> rfl
    · rw [List.getD_eq_getElem?_getD, List.getElem?_replicate]; split <;> simp
  · intro k n hk ⟨hn, hwf, hv, hz, hlt⟩ _ _ _ _ _
    have e1 : IntKind.i64.wrap (IntKind.i64.wrap ((b.length : Int) - 1) - ((b.length : Int) - 1 - k)) = k := by
      rw [wrap_i64 (n := (b.length : Int) - 1) (by omega) (by omega), wrap_i64 (by omega) (by omega)]; omega
    have e2 : IntKind.i64.wrap ((k : Int).tdiv 4) = (k / 4 : Nat) := by
      rw [Int.tdiv_eq_ediv_of_nonneg (by omega), wrap_i64 (by omega) (by omega)]; omega
    have e3 : (k : Int).tmod 4 = (k % 4 : Nat) := by rw [Int.tmod_eq_emod_of_nonneg (by omega)]; omega
    have e12 : IntKind.i64.wrap ((IntKind.i64.wrap (IntKind.i64.wrap ((b.length : Int) - 1) - ((b.length : Int) - 1 - k))).tdiv 4) = (k / 4 : Nat) := by rw [e1, e2]
    have e13 : IntKind.i64.wrap (8 * (IntKind.i64.wrap (IntKind.i64.wrap ((b.length : Int) - 1) - ((b.length : Int) - 1 - k))).tmod 4) = 8 * (k % 4 : Nat) := by rw [e1, e3, wrap_i64 (by omega) (by omega)]
    have hg := hb.get (b.length - 1 - k)
    have hg2 := hwf.get (k / 4)
    ((conv=>whnf);repeat'((first|(show(_=true→_)∧(_=false→_);first|refine gT ?_|refine gF ?_|refine gS ?_ ?_<;>(intro _h;try contradiction))|(show(_=false→_)∧(_=true→_);first|refine gU ?_|refine gV ?_|refine gZ ?_ ?_<;>(intro _h;try contradiction))|(intro _h;try contradiction)|(show _∧_;refine gA ?_)|fail);all_goals conv=>whnf))
    refine ⟨_, [0, 1, 2, 3, 4, 5], rfl, from_step b n w k hb hk (by omega) hn hwf hv ⟨hz, hlt⟩ rfl, rfl, ?_⟩
    (repeat' (first | exact True.intro | rfl | decide | (refine And.intro ?_ ?_)))
    show some (Ob.row .u32 _ _) = some (Ob.row .u32 _ _)
    have ec : IntKind.u32.wrap (b.getD (b.length - 1 - k) 0) = b.getD (b.length - 1 - k) 0 := wrap_u32 (by omega) (by omega)
    rw [e12, Int.toNat_natCast, ec, or_step _ _ (k % 4) (Nat.mod_lt _ (by omega)) hg2.1 hlt hg.1 hg.2 _ e13]
  · intro n ⟨hn, hwf, hv, hz⟩
    ((conv=>whnf);repeat'((first|(show(_=true→_)∧(_=false→_);first|refine gT ?_|refine gF ?_|refine gS ?_ ?_<;>(intro _h;try contradiction))|(show(_=false→_)∧(_=true→_);first|refine gU ?_|refine gV ?_|refine gZ ?_ ?_<;>(intro _h;try contradiction))|(intro _h;try contradiction)|(show _∧_;refine gA ?_)|fail);all_goals conv=>whnf))
    refine Ends.imm rfl ⟨n, rfl, hn, hwf, ?_⟩
    rw [hv, List.take_of_length_le (by simp)]
  · intro n h
    exact h.elim
  · intro id n h
    exact h.elim

theorem val_split (n : List Int) (j : Nat) : val n = val (n.take j) + pw (n.take j).length * (n.getD j 0 + 4294967296 * val (n.drop (j + 1))) := by
  have h : val n = val (n.take j ++ n.drop j) := by rw [List.take_append_drop]
  rw [h, val_append, val_step (n.drop j)]
  congr 3
  · simp [List.getD_eq_getElem?_getD]
  · simp

theorem dig_nat (A p x R s : Nat) (hA : A < p) (hs : s < 4) : (A + p * (x + 4294967296 * R)) / (p * 256 ^ s) % 256 = x / 256 ^ s % 256 := by
  rw [← Nat.div_div_eq_div_mul, Nat.add_mul_div_left _ _ (by omega), Nat.div_eq_of_lt hA, Nat.zero_add]
  have : ∃ t, 4294967296 = 256 ^ s * (256 * t) := by
    have h : ∀ s : Fin 4, 4294967296 = 256 ^ s.val * (256 * 256 ^ (3 - s.val)) := by decide
    exact ⟨_, h ⟨s, hs⟩⟩
  obtain ⟨t, ht⟩ := this
  rw [ht, Nat.mul_assoc, Nat.add_mul_div_left _ _ (Nat.pow_pos (by omega)), Nat.mul_assoc, Nat.add_mul_mod_self_left]

theorem dig_val (n : List Int) (hn : wfl n) (at' : Nat) : (n.getD (at' / 4) 0).toNat / 256 ^ (at' % 4) % 256 = (val n).toNat / 256 ^ at' % 256 := by
  have hs : at' % 4 < 4 := Nat.mod_lt _ (by omega)
  rcases Nat.lt_or_ge (at' / 4) n.length with h | h
  · have e := val_split n (at' / 4)
    have hl : (n.take (at' / 4)).length = at' / 4 := by simp; omega
    have h1 := val_lt (hn.take (at' / 4))
    have h2 := val_nonneg (hn.take (at' / 4))
    have h3 := val_nonneg (hn.drop (at' / 4 + 1))
    have h4 := hn.get (at' / 4)
    have h5 := pw_pos (at' / 4)
    rw [hl] at e h1
    obtain ⟨A, hA⟩ : ∃ A : Nat, val (n.take (at' / 4)) = A := ⟨_, (Int.toNat_of_nonneg h2).symm⟩
    obtain ⟨R, hR⟩ : ∃ A : Nat, val (n.drop (at' / 4 + 1)) = A := ⟨_, (Int.toNat_of_nonneg h3).symm⟩
    obtain ⟨x, hx⟩ : ∃ A : Nat, n.getD (at' / 4) 0 = A := ⟨_, (Int.toNat_of_nonneg h4.1).symm⟩
    have hp : pw (at' / 4) = ((4294967296 ^ (at' / 4) : Nat) : Int) := by unfold pw; rw [Int.natCast_pow]; rfl
    rw [hA, hR, hx, hp] at e
    rw [hA, hp] at h1
    have e2 : (val n).toNat = A + 4294967296 ^ (at' / 4) * (x + 4294967296 * R) := by
      have : val n = ((A + 4294967296 ^ (at' / 4) * (x + 4294967296 * R) : Nat) : Int) := by rw [e]; simp only [Int.natCast_add, Int.natCast_mul]; rfl
      rw [this, Int.toNat_natCast]
    have e3 : 256 ^ at' = 4294967296 ^ (at' / 4) * 256 ^ (at' % 4) := by
      have : (4294967296 : Nat) = 256 ^ 4 := rfl
      rw [this, ← Nat.pow_mul, ← Nat.pow_add, Nat.div_add_mod]
    rw [hx, Int.toNat_natCast, e2, e3, dig_nat _ _ _ _ _ (by omega) hs]
  · have e0 : n.getD (at' / 4) 0 = 0 := by rw [List.getD_eq_getElem?_getD, List.getElem?_eq_none h]; rfl
    have h1 := val_lt hn
    have h2 := val_nonneg hn
    have h3 : (val n).toNat < 256 ^ at' := by
      have e1 : pw n.length = ((256 ^ (4 * n.length) : Nat) : Int) := by unfold pw; rw [Nat.pow_mul, Int.natCast_pow]; rfl
      have : 256 ^ (4 * n.length) ≤ 256 ^ at' := Nat.pow_le_pow_right (by omega) (by omega)
      omega
    rw [e0, Nat.div_eq_of_lt h3]
    simp

theorem shr32 (x : Int) (h : 0 ≤ x) (m : Int) (k : Nat) (hm : m = 8 * k) (hk : k ≤ 4) : x / 2 ^ min m.toNat (IntKind.bits .u32) = ((x.toNat / 256 ^ k : Nat) : Int) := by
  subst hm
  obtain ⟨n, rfl⟩ : ∃ n : Nat, x = n := ⟨x.toNat, by omega⟩
  have e : (8 * (k : Int)).toNat = 8 * k := by omega
  rw [e, Nat.min_eq_left (by simp [IntKind.bits]; omega), Int.pow_mul, Int.toNat_natCast]
  push_cast
  rfl

def toldBytes : AW.Told := ⟨fun _ => false, fun r i => if r == 1 && i == 2 then [11] else [], fun _ => .done⟩

theorem be_set (size v k : Nat) (h : k < size) {d : Int} (hd : d = ((v / 256 ^ (size - 1 - k) % 256 : Nat) : Int)) :
    ((be size v).take k ++ List.replicate (size - k) 0).set k d = (be size v).take (k + 1) ++ List.replicate (size - (k + 1)) 0 := by
  rw [be_take h, ← hd, show size - k = (size - (k + 1)) + 1 by omega, List.replicate_succ, List.set_append_right _ _ (by simp [be_length]; omega), List.append_assoc]
  simp [be_length, show min k size = k by omega]
theorem be_skip (size v k : Nat) (h : k < size) (hd : v / 256 ^ (size - 1 - k) % 256 = 0) :
    (be size v).take k ++ List.replicate (size - k) 0 = (be size v).take (k + 1) ++ List.replicate (size - (k + 1)) 0 := by
  rw [be_take h, hd, show size - k = (size - (k + 1)) + 1 by omega, List.replicate_succ, List.append_assoc]
  rfl

theorem k_bytes (n : List Int) (size : Nat) (hn : wfl n) (hbn : bad n = false) (hs : 1 ≤ size ∧ size ≤ 1024) (hv : val n < dpw size) :
    Imm Tryd.prog 27 [.d (nat n), i64 size] (fun r => r = .tup [.d (byt (be size (val n).toNat)), i64 0]) := by
  have w1 : IntKind.i64.wrap (8 * (size : Int)) = 8 * size := wrap_i64 (by omega) (by omega)
  have h2 := val_nonneg hn
  have hbits : blen (val n).toNat ≤ 8 * size := by
    rw [blen_le, Nat.pow_mul]
    have : dpw size = ((256 ^ size : Nat) : Int) := by unfold dpw; push_cast; rfl
    have e : (2 ^ 8 : Nat) = 256 := rfl
    rw [e]
    omega
  (refine Imm.of_awp toldBytes [4] Tryd.func27 rfl (by decide) (Nat.le_of_ble_eq_true rfl) ?_; intro _w0 _S0 _E0 _B0; ((conv=>whnf);repeat'((first|(show(_=true→_)∧(_=false→_);first|refine gT ?_|refine gF ?_|refine gS ?_ ?_<;>(intro _h;try contradiction))|(show(_=false→_)∧(_=true→_);first|refine gU ?_|refine gV ?_|refine gZ ?_ ?_<;>(intro _h;try contradiction))|(intro _h;try contradiction)|(show _∧_;refine gA ?_)|fail);all_goals conv=>whnf)))
  refine acallI (f35 [n]) rfl fun r hr => ?_
  rw [show [n].any bad = false by simp [hbn]] at hr
  subst hr
  ((conv=>whnf);repeat'((first|(show(_=true→_)∧(_=false→_);first|refine gT ?_|refine gF ?_|refine gS ?_ ?_<;>(intro _h;try contradiction))|(show(_=false→_)∧(_=true→_);first|refine gU ?_|refine gV ?_|refine gZ ?_ ?_<;>(intro _h;try contradiction))|(intro _h;try contradiction)|(show _∧_;refine gA ?_)|fail);all_goals conv=>whnf))
  refine acallI (f24 n hn) rfl fun r hr => ?_
  rw [if_neg (by simp [hbn])] at hr
  subst hr
  ((conv=>whnf);repeat'((first|(show(_=true→_)∧(_=false→_);first|refine gT ?_|refine gF ?_|refine gS ?_ ?_<;>(intro _h;try contradiction))|(show(_=false→_)∧(_=true→_);first|refine gU ?_|refine gV ?_|refine gZ ?_ ?_<;>(intro _h;try contradiction))|(intro _h;try contradiction)|(show _∧_;refine gA ?_)|fail);all_goals conv=>whnf))
  have hbl : n.length ≤ 256 := by
    unfold bad at hbn
    simp at hbn
    omega
  have hlen : ∀ k, (List.take k (be size (val n).toNat) ++ List.replicate (size - k) 0).length = min k size + (size - k) := fun k => by simp [be_length]
  refine aloop (T := toldBytes) (ι := Nat) (fun k => [(0, .d (nat n)), (1, i64 size), (6, .own 0), (31, i64 size), (32, i64 k)]) (fun k => [(0, .row .u8 5 ((be size (val n).toNat).take k ++ List.replicate (size - k) 0))]) 59 1
    (fun k => size - k) (fun k => k ≤ size)
    ⟨0, [1], rfl, by omega, by (refine ⟨rfl, rfl, ?_, ?_⟩ <;> repeat' (first | exact True.intro | rfl | decide | (refine And.intro ?_ ?_))); simp; rfl⟩ ?_
  intro k hk
  have hlk := hlen k
  rcases Nat.lt_or_ge k size with hks | hks
  · have e1 : IntKind.i64.wrap (IntKind.i64.wrap ((size : Int) - 1) - k) = (size - 1 - k : Nat) := by
      rw [wrap_i64 (n := (size : Int) - 1) (by omega) (by omega), wrap_i64 (by omega) (by omega)]; omega
    have e2 : IntKind.i64.wrap ((IntKind.i64.wrap (IntKind.i64.wrap ((size : Int) - 1) - k)).tdiv 4) = ((size - 1 - k) / 4 : Nat) := by
      rw [e1, Int.tdiv_eq_ediv_of_nonneg (by omega), wrap_i64 (by omega) (by omega)]; omega
    have e3 : IntKind.i64.wrap (8 * (IntKind.i64.wrap (IntKind.i64.wrap ((size : Int) - 1) - k)).tmod 4) = 8 * ((size - 1 - k) % 4 : Nat) := by
      rw [e1, Int.tmod_eq_emod_of_nonneg (by omega), wrap_i64 (by omega) (by omega)]; omega
    have hd := dig_val n hn (size - 1 - k)
    have hg := hn.get ((size - 1 - k) / 4)
    ((conv=>whnf);repeat'((first|(show(_=true→_)∧(_=false→_);first|refine gT ?_|refine gF ?_|refine gS ?_ ?_<;>(intro _h;try contradiction))|(show(_=false→_)∧(_=true→_);first|refine gU ?_|refine gV ?_|refine gZ ?_ ?_<;>(intro _h;try contradiction))|(intro _h;try contradiction)|(show _∧_;refine gA ?_)|fail);all_goals conv=>whnf))
    · refine ⟨k + 1, [0], by omega, by omega, rfl, ?_⟩
      (refine ⟨rfl, rfl, ?_, ?_⟩ <;> repeat' (first | exact True.intro | rfl | decide | (refine And.intro ?_ ?_)))
      · exact di (by rw [wrap_i64 (by omega) (by omega)]; omega)
      · show some (Ob.row .u8 _ _) = some (Ob.row .u8 _ _)
        rw [e2, Int.toNat_natCast, Int.toNat_natCast, shr32 _ hg.1 _ ((size - 1 - k) % 4) e3 (by omega)]
        congr 2
        refine be_set size _ k hks ?_
        rw [← hd]
        generalize (n.getD ((size - 1 - k) / 4) 0).toNat / 256 ^ ((size - 1 - k) % 4) = q
        simp [IntKind.wrap, IntKind.bits, IntKind.signed]
    · refine ⟨k + 1, [0], by omega, by omega, rfl, ?_⟩
      have e0 : n.getD ((size - 1 - k) / 4) 0 = 0 := by rw [List.getD_eq_getElem?_getD, List.getElem?_eq_none (by omega)]; rfl
      rw [e0] at hd
      (refine ⟨rfl, rfl, ?_, ?_⟩ <;> repeat' (first | exact True.intro | rfl | decide | (refine And.intro ?_ ?_)))
      · exact di (by rw [wrap_i64 (by omega) (by omega)]; omega)
      · show some (Ob.row .u8 _ _) = some (Ob.row .u8 _ _)
        congr 2
        exact be_skip size _ k hks (by rw [← hd]; simp)
  · have hk' : k = size := by omega
    ((conv=>whnf);repeat'((first|(show(_=true→_)∧(_=false→_);first|refine gT ?_|refine gF ?_|refine gS ?_ ?_<;>(intro _h;try contradiction))|(show(_=false→_)∧(_=true→_);first|refine gU ?_|refine gV ?_|refine gZ ?_ ?_<;>(intro _h;try contradiction))|(intro _h;try contradiction)|(show _∧_;refine gA ?_)|fail);all_goals conv=>whnf))
    refine Ends.imm rfl ?_
    rw [hk', List.take_of_length_le (by rw [be_length]; omega)]
    simp

/-- The number that bytes are, the highest first. -/
def bn (m : List Int) : Int := dval m.reverse

/-- What isn't right of a modulus. -/
def notMod (m : List Int) : Int := if sized m.length = false then 21 else if m.getD 0 0 < 128 ∨ m.getD (m.length - 1) 0 % 2 = 0 then 22 else 0

/-- A key of a right modulus. -/
structure Key (m n : List Int) (n0 : Int) (rr : List Int) : Prop where
  ring : Ring n n0 rr
  len : m.length = 4 * n.length
  val : val n = bn m
  wf : wfd m
  right : notMod m = 0

theorem sized_spec {n : Nat} : sized n = true ↔ 64 ≤ n ∧ n ≤ 512 ∧ n % 64 = 0 := by simp [sized, and_assoc]

theorem bn_odd (m : List Int) (h : 0 < m.length) : bn m % 2 = m.getD (m.length - 1) 0 % 2 := by
  unfold bn
  rw [dvstep]
  have : m.reverse.getD 0 0 = m.getD (m.length - 1) 0 := by
    rw [List.getD_eq_getElem?_getD, List.getD_eq_getElem?_getD, List.getElem?_reverse h]; rfl
  rw [this]
  omega
theorem val_odd (n : List Int) : val n % 2 = n.getD 0 0 % 2 := by
  rw [val_step]
  omega
theorem bn_high (m : List Int) (hm : wfd m) (h : 0 < m.length) : m.getD 0 0 ≤ bn m := by
  unfold bn
  obtain ⟨x, t, rfl⟩ : ∃ x t, m = x :: t := by cases m with
    | nil => simp at h
    | cons x t => exact ⟨x, t, rfl⟩
  rw [List.reverse_cons, dval_snoc]
  have h1 := dval_nonneg hm.cons.2.reverse
  have h2 := dpw_pos t.reverse.length
  have h3 := hm.cons.1
  have : x * 1 ≤ x * dpw t.reverse.length := Int.mul_le_mul_of_nonneg_left (by omega) h3.1
  simp only [List.getD_cons_zero]
  rw [Int.mul_comm] at this
  rw [Int.mul_comm x] at this
  omega

theorem k_make (m : List Int) (hm : wfd m) (hl : m.length ≤ LIM) : Imm Tryd.prog 17 [.d (byt m)] (fun r => if notMod m ≠ 0 then r = .tup [.d .nilp, i64 (notMod m)] else ∃ n n0 rr, r = .tup [.d (keyD m n n0 rr), i64 0] ∧ Key m n n0 rr) := by
  unfold LIM at hl
  (refine Imm.of_awp told0 [2] Tryd.func17 rfl (by decide) (Nat.le_of_ble_eq_true rfl) ?_; intro _w0 _S0 _E0 _B0; ((conv=>whnf);repeat'((first|(show(_=true→_)∧(_=false→_);first|refine nTt ?_|refine nFf ?_|refine gS ?_ ?_<;>(intro _h;try contradiction))|(show(_=false→_)∧(_=true→_);first|refine nU ?_|refine nV ?_|refine gZ ?_ ?_<;>(intro _h;try contradiction))|(intro _h;try contradiction)|(show _∧_;refine gA ?_)|fail);all_goals conv=>whnf)))
  refine acallI (k_sized m.length (by unfold LIM; omega)) rfl fun r hr => ?_
  subst hr
  cases hsz : sized m.length with
  | false =>
    ((conv=>whnf);repeat'((first|(show(_=true→_)∧(_=false→_);first|refine gT ?_|refine gF ?_|refine gS ?_ ?_<;>(intro _h;try contradiction))|(show(_=false→_)∧(_=true→_);first|refine gU ?_|refine gV ?_|refine gZ ?_ ?_<;>(intro _h;try contradiction))|(intro _h;try contradiction)|(show _∧_;refine gA ?_)|fail);all_goals conv=>whnf))
    refine Ends.imm rfl ?_
    have : notMod m = 21 := by simp [notMod, hsz]
    rw [this, if_pos (by omega)]
  | true =>
    have ⟨h1, h2, h3⟩ := sized_spec.1 hsz
    have e1 : IntKind.i64.wrap ((m.length : Int) - 1) = (m.length - 1 : Nat) := by rw [wrap_i64 (by omega) (by omega)]; omega
    have e2 : IntKind.i64.wrap ((m.length : Int).tdiv 4) = (m.length / 4 : Nat) := by rw [Int.tdiv_eq_ediv_of_nonneg (by omega), wrap_i64 (by omega) (by omega)]; omega
    have g1 := hm.get 0
    have g2 := hm.get (m.length - 1)
    have e3 : (m.getD (m.length - 1) 0).tmod 2 = m.getD (m.length - 1) 0 % 2 := Int.tmod_eq_emod_of_nonneg g2.1
    have e4 : m.length = 4 * (m.length / 4) := by omega
    ((conv=>whnf);repeat'((first|(show(_=true→_)∧(_=false→_);first|refine gT ?_|refine gF ?_|refine gS ?_ ?_<;>(intro _h;try contradiction))|(show(_=false→_)∧(_=true→_);first|refine gU ?_|refine gV ?_|refine gZ ?_ ?_<;>(intro _h;try contradiction))|(intro _h;try contradiction)|(show _∧_;refine gA ?_)|fail);all_goals conv=>whnf))
    · rw [e1, Int.toNat_natCast, e3] at _h
      refine Ends.imm rfl ?_
      have : notMod m = 22 := by
        unfold notMod
        rw [hsz, if_neg (by simp), if_pos (.inr _h)]
      rw [this, if_pos (by omega)]
    · rename_i hn1
      rw [e1, Int.toNat_natCast, e3] at _h
      have hn0 : notMod m = 0 := by
        unfold notMod
        rw [hsz, if_neg (by simp), if_neg (fun h => h.elim hn1 _h)]
      refine acallI (k_from m (m.length / 4) hm (by omega) (by omega)) (by rw [← e2]; rfl) fun r hr => ?_
      obtain ⟨n, rfl, hnl, hnw, hnv⟩ := hr
      ((conv=>whnf);repeat'((first|(show(_=true→_)∧(_=false→_);first|refine gT ?_|refine gF ?_|refine gS ?_ ?_<;>(intro _h;try contradiction))|(show(_=false→_)∧(_=true→_);first|refine gU ?_|refine gV ?_|refine gZ ?_ ?_<;>(intro _h;try contradiction))|(intro _h;try contradiction)|(show _∧_;refine gA ?_)|fail);all_goals conv=>whnf))
      have hodd : ¬ n.getD 0 0 % 2 = 0 := by
        rw [← val_odd, hnv]
        show ¬ bn m % 2 = 0
        rw [bn_odd m (by omega)]
        exact _h
      have hbig : 1 < val n := by
        rw [hnv]
        have := bn_high m hm (by omega)
        show 1 < bn m
        have : ¬ m.getD 0 0 < 128 := hn1
        omega
      refine acallI (f11 n hnw) rfl fun r hr => ?_
      rw [if_neg (by omega), if_neg (by omega)] at hr
      obtain ⟨n0, rr, rfl, hR⟩ := hr
      ((conv=>whnf);repeat'((first|(show(_=true→_)∧(_=false→_);first|refine gT ?_|refine gF ?_|refine gS ?_ ?_<;>(intro _h;try contradiction))|(show(_=false→_)∧(_=true→_);first|refine gU ?_|refine gV ?_|refine gZ ?_ ?_<;>(intro _h;try contradiction))|(intro _h;try contradiction)|(show _∧_;refine gA ?_)|fail);all_goals conv=>whnf))
      refine acallI (k_clone m (fun h => by subst h; simp at h1) (by omega)) rfl fun r hr => ?_
      subst hr
      ((conv=>whnf);repeat'((first|(show(_=true→_)∧(_=false→_);first|refine gT ?_|refine gF ?_|refine gS ?_ ?_<;>(intro _h;try contradiction))|(show(_=false→_)∧(_=true→_);first|refine gU ?_|refine gV ?_|refine gZ ?_ ?_<;>(intro _h;try contradiction))|(intro _h;try contradiction)|(show _∧_;refine gA ?_)|fail);all_goals conv=>whnf))
      refine Ends.imm rfl ?_
      rw [if_neg (by omega)]
      exact ⟨n, n0, rr, rfl, hR, by omega, hnv, hm, hn0⟩
    · refine Ends.imm rfl ?_
      have : notMod m = 22 := by
        unfold notMod
        rw [hsz, if_neg (by simp), if_pos (.inl _h)]
      rw [this, if_pos (by omega)]

theorem Key.pos {m n : List Int} {n0 : Int} {rr : List Int} (h : Key m n n0 rr) : 1 < bn m ∧ 16 ≤ n.length ∧ n.length ≤ 128 ∧ sized m.length = true := by
  have h1 := h.ring.h1
  have h2 := h.right
  have h3 := h.len
  unfold notMod at h2
  have hs : sized m.length = true := by
    cases hs : sized m.length with
    | true => rfl
    | false => rw [hs] at h2; simp at h2
  have := sized_spec.1 hs
  rw [h.val] at h1
  exact ⟨h1, by omega, by omega, hs⟩

/-- What a power comes to. -/
def powV (m block exp : List Int) : AVal :=
  if block.length ≠ m.length then .tup [.nls (byt []), i64 24]
  else if bn m ≤ bn block then .tup [.nls (byt []), i64 13]
  else if 1024 < exp.length then .tup [.nls (byt []), i64 11]
  else .tup [.d (byt (be m.length (bn block ^ ev exp % bn m).toNat)), i64 0]

theorem k_power (m n : List Int) (n0 : Int) (rr : List Int) (h : Key m n n0 rr) (block exp : List Int) (hb : wfd block) (he : wfd exp) :
    Imm Tryd.prog 48 [.d (keyD m n n0 rr), .d (byt block), .d (byt exp)] (fun r => r = powV m block exp) := by
  obtain ⟨h1, h2, h3, hs⟩ := h.pos
  have hl := h.len
  have e2 : IntKind.i64.wrap ((m.length : Int).tdiv 4) = (n.length : Nat) := by rw [Int.tdiv_eq_ediv_of_nonneg (by omega), wrap_i64 (by omega) (by omega)]; omega
  (refine Imm.of_awp told0 [] Tryd.func48 rfl (by decide) (Nat.le_of_ble_eq_true rfl) ?_; intro _w0 _S0 _E0 _B0; ((conv=>whnf);repeat'((first|(show(_=true→_)∧(_=false→_);first|refine nTt ?_|refine nFf ?_|refine gS ?_ ?_<;>(intro _h;try contradiction))|(show(_=false→_)∧(_=true→_);first|refine nU ?_|refine nV ?_|refine gZ ?_ ?_<;>(intro _h;try contradiction))|(intro _h;try contradiction)|(show _∧_;refine gA ?_)|fail);all_goals conv=>whnf)))
  refine acallI (k_size m n n0 rr) rfl fun r hr => ?_
  subst hr
  by_cases hbl : block.length = m.length
  · have hbl' : (block.length : Int) = m.length := by omega
    ((conv=>whnf);repeat'((first|(show(_=true→_)∧(_=false→_);first|refine gT ?_|refine gF ?_|refine gS ?_ ?_<;>(intro _h;try contradiction))|(show(_=false→_)∧(_=true→_);first|refine gU ?_|refine gV ?_|refine gZ ?_ ?_<;>(intro _h;try contradiction))|(intro _h;try contradiction)|(show _∧_;refine gA ?_)|fail);all_goals conv=>whnf))
    refine acallI (k_size m n n0 rr) rfl fun r hr => ?_
    subst hr
    ((conv=>whnf);repeat'((first|(show(_=true→_)∧(_=false→_);first|refine gT ?_|refine gF ?_|refine gS ?_ ?_<;>(intro _h;try contradiction))|(show(_=false→_)∧(_=true→_);first|refine gU ?_|refine gV ?_|refine gZ ?_ ?_<;>(intro _h;try contradiction))|(intro _h;try contradiction)|(show _∧_;refine gA ?_)|fail);all_goals conv=>whnf))
    refine acallI (k_from block n.length hb (by omega) (by omega)) (by rw [← e2]; rfl) fun r hr => ?_
    obtain ⟨x, rfl, hxl, hxw, hxv⟩ := hr
    ((conv=>whnf);repeat'((first|(show(_=true→_)∧(_=false→_);first|refine gT ?_|refine gF ?_|refine gS ?_ ?_<;>(intro _h;try contradiction))|(show(_=false→_)∧(_=true→_);first|refine gU ?_|refine gV ?_|refine gZ ?_ ?_<;>(intro _h;try contradiction))|(intro _h;try contradiction)|(show _∧_;refine gA ?_)|fail);all_goals conv=>whnf))
    refine acallI (f18 n n0 rr x exp h.ring hxw he) rfl fun r hr => ?_
    have hne : notEl n x = decide (bn m ≤ bn block) := by
      unfold notEl
      rw [h.val, hxv, hxl, decide_eq_false (fun h => h rfl)]
      exact Bool.false_or _
    cases hge : decide (bn m ≤ bn block) with
    | true =>
      have hge' := of_decide_eq_true hge
      rw [hne, hge, if_pos rfl] at hr
      subst hr
      ((conv=>whnf);repeat'((first|(show(_=true→_)∧(_=false→_);first|refine gT ?_|refine gF ?_|refine gS ?_ ?_<;>(intro _h;try contradiction))|(show(_=false→_)∧(_=true→_);first|refine gU ?_|refine gV ?_|refine gZ ?_ ?_<;>(intro _h;try contradiction))|(intro _h;try contradiction)|(show _∧_;refine gA ?_)|fail);all_goals conv=>whnf))
      refine Ends.imm rfl ?_
      unfold powV
      rw [if_neg (by omega), if_pos hge']
    | false =>
      have hge' := of_decide_eq_false hge
      rw [hne, hge, if_neg (by simp)] at hr
      by_cases hel : 1024 < exp.length
      · rw [if_pos hel] at hr
        subst hr
        ((conv=>whnf);repeat'((first|(show(_=true→_)∧(_=false→_);first|refine gT ?_|refine gF ?_|refine gS ?_ ?_<;>(intro _h;try contradiction))|(show(_=false→_)∧(_=true→_);first|refine gU ?_|refine gV ?_|refine gZ ?_ ?_<;>(intro _h;try contradiction))|(intro _h;try contradiction)|(show _∧_;refine gA ?_)|fail);all_goals conv=>whnf))
        refine Ends.imm rfl ?_
        unfold powV
        rw [if_neg (by omega), if_neg hge', if_pos hel]
      · rw [if_neg hel] at hr
        obtain ⟨z, rfl, hzl, hzw, hzv⟩ := hr
        ((conv=>whnf);repeat'((first|(show(_=true→_)∧(_=false→_);first|refine gT ?_|refine gF ?_|refine gS ?_ ?_<;>(intro _h;try contradiction))|(show(_=false→_)∧(_=true→_);first|refine gU ?_|refine gV ?_|refine gZ ?_ ?_<;>(intro _h;try contradiction))|(intro _h;try contradiction)|(show _∧_;refine gA ?_)|fail);all_goals conv=>whnf))
        refine acallI (k_size m n n0 rr) rfl fun r hr => ?_
        subst hr
        ((conv=>whnf);repeat'((first|(show(_=true→_)∧(_=false→_);first|refine gT ?_|refine gF ?_|refine gS ?_ ?_<;>(intro _h;try contradiction))|(show(_=false→_)∧(_=true→_);first|refine gU ?_|refine gV ?_|refine gZ ?_ ?_<;>(intro _h;try contradiction))|(intro _h;try contradiction)|(show _∧_;refine gA ?_)|fail);all_goals conv=>whnf))
        have ev1 : val z = bn block ^ ev exp % bn m := by rw [hzv, h.val, hxv]; rfl
        refine acallI (k_bytes z m.length hzw ?_ (by omega) ?_) rfl fun r hr => ?_
        · unfold bad
          rw [hzl, decide_eq_false (by omega), decide_eq_false (by omega)]
          rfl
        · rw [ev1]
          have a1 := Int.emod_lt_of_pos (bn block ^ ev exp) (show 0 < bn m by omega)
          have a2 := dval_lt h.wf.reverse
          rw [List.length_reverse] at a2
          have a3 : bn m < dpw m.length := a2
          omega
        · subst hr
          ((conv=>whnf);repeat'((first|(show(_=true→_)∧(_=false→_);first|refine gT ?_|refine gF ?_|refine gS ?_ ?_<;>(intro _h;try contradiction))|(show(_=false→_)∧(_=true→_);first|refine gU ?_|refine gV ?_|refine gZ ?_ ?_<;>(intro _h;try contradiction))|(intro _h;try contradiction)|(show _∧_;refine gA ?_)|fail);all_goals conv=>whnf))
          refine Ends.imm rfl ?_
          unfold powV
          rw [if_neg (by omega), if_neg hge', if_neg hel, ev1]
  · have hbl' : ¬ (block.length : Int) = m.length := by omega
    ((conv=>whnf);repeat'((first|(show(_=true→_)∧(_=false→_);first|refine gT ?_|refine gF ?_|refine gS ?_ ?_<;>(intro _h;try contradiction))|(show(_=false→_)∧(_=true→_);first|refine gU ?_|refine gV ?_|refine gZ ?_ ?_<;>(intro _h;try contradiction))|(intro _h;try contradiction)|(show _∧_;refine gA ?_)|fail);all_goals conv=>whnf))
    refine Ends.imm rfl ?_
    unfold powV
    rw [if_pos (by omega)]

theorem powV_form (m block exp : List Int) : (∃ e, powV m block exp = .tup [.nls (byt []), i64 e]) ∨ ∃ zs, powV m block exp = .tup [.d (byt zs), i64 0] := by
  unfold powV
  repeat' split
  · exact .inl ⟨_, rfl⟩
  · exact .inl ⟨_, rfl⟩
  · exact .inl ⟨_, rfl⟩
  · exact .inr ⟨_, rfl⟩

theorem aev_global {P : Program} {s : AState} {ty : TypeId} {g : Nat} {d : D} (h : Globs.gl g = some d) : aev P s ty (.global g) = .d (.ptr d) := by
  simp only [aev, h]

/-- The exponent of all keys. -/
def EXP : D := .agg [.int .u8 1, .int .u8 0, .int .u8 1]

theorem k_open (hG : Globs.gl 0 = some EXP) (m n : List Int) (n0 : Int) (rr : List Int) (h : Key m n n0 rr) (sig : List Int) (hs : wfd sig) :
    Imm Tryd.prog 18 [.d (keyD m n n0 rr), .d (byt sig)] (fun r => r = powV m sig [1, 0, 1]) := by
  (refine Imm.of_awp told0 [] Tryd.func18 rfl (by decide) (Nat.le_of_ble_eq_true rfl) ?_; intro _w0 _S0 _E0 _B0; ((conv=>whnf);repeat'((first|(show(_=true→_)∧(_=false→_);first|refine nTt ?_|refine nFf ?_|refine gS ?_ ?_<;>(intro _h;try contradiction))|(show(_=false→_)∧(_=true→_);first|refine nU ?_|refine nV ?_|refine gZ ?_ ?_<;>(intro _h;try contradiction))|(intro _h;try contradiction)|(show _∧_;refine gA ?_)|fail);all_goals conv=>whnf)))
  rw [aev_global hG]
  ((conv=>whnf);repeat'((first|(show(_=true→_)∧(_=false→_);first|refine nTt ?_|refine nFf ?_|refine gS ?_ ?_<;>(intro _h;try contradiction))|(show(_=false→_)∧(_=true→_);first|refine nU ?_|refine nV ?_|refine gZ ?_ ?_<;>(intro _h;try contradiction))|(intro _h;try contradiction)|(show _∧_;refine gA ?_)|fail);all_goals conv=>whnf))
  refine acallI (k_power m n n0 rr h sig [1, 0, 1] hs (fun x hx => by simp at hx; omega)) rfl fun r hr => ?_
  rcases powV_form m sig [1, 0, 1] with ⟨e, he⟩ | ⟨zs, he⟩ <;> rw [he] at hr <;> subst hr
  · ((conv=>whnf);repeat'((first|(show(_=true→_)∧(_=false→_);first|refine nTt ?_|refine nFf ?_|refine gS ?_ ?_<;>(intro _h;try contradiction))|(show(_=false→_)∧(_=true→_);first|refine nU ?_|refine nV ?_|refine gZ ?_ ?_<;>(intro _h;try contradiction))|(intro _h;try contradiction)|(show _∧_;refine gA ?_)|fail);all_goals conv=>whnf))
    exact Ends.imm rfl he.symm
  · ((conv=>whnf);repeat'((first|(show(_=true→_)∧(_=false→_);first|refine nTt ?_|refine nFf ?_|refine gS ?_ ?_<;>(intro _h;try contradiction))|(show(_=false→_)∧(_=true→_);first|refine nU ?_|refine nV ?_|refine gZ ?_ ?_<;>(intro _h;try contradiction))|(intro _h;try contradiction)|(show _∧_;refine gA ?_)|fail);all_goals conv=>whnf))
    exact Ends.imm rfl he.symm

theorem k_close (m secret block : List Int) (hm : wfd m) (hs : wfd secret) (hb : wfd block) (hl : m.length ≤ LIM) :
    Imm Tryd.prog 21 [.d (byt m), .d (byt secret), .d (byt block)] (fun r => r = if notMod m ≠ 0 then .tup [.nls (byt []), i64 (notMod m)] else powV m block secret) := by
  (refine Imm.of_awp told0 [] Tryd.func21 rfl (by decide) (Nat.le_of_ble_eq_true rfl) ?_; intro _w0 _S0 _E0 _B0; ((conv=>whnf);repeat'((first|(show(_=true→_)∧(_=false→_);first|refine nTt ?_|refine nFf ?_|refine gS ?_ ?_<;>(intro _h;try contradiction))|(show(_=false→_)∧(_=true→_);first|refine nU ?_|refine nV ?_|refine gZ ?_ ?_<;>(intro _h;try contradiction))|(intro _h;try contradiction)|(show _∧_;refine gA ?_)|fail);all_goals conv=>whnf)))
  refine acallI (k_make m hm hl) rfl fun r hr => ?_
  by_cases hn : notMod m ≠ 0
  · rw [if_pos hn] at hr
    subst hr
    ((conv=>whnf);repeat'((first|(show(_=true→_)∧(_=false→_);first|refine gT ?_|refine gF ?_|refine gS ?_ ?_<;>(intro _h;try contradiction))|(show(_=false→_)∧(_=true→_);first|refine gU ?_|refine gV ?_|refine gZ ?_ ?_<;>(intro _h;try contradiction))|(intro _h;try contradiction)|(show _∧_;refine gA ?_)|fail);all_goals conv=>whnf))
    exact Ends.imm rfl (by rw [if_pos hn])
  · rw [if_neg hn] at hr
    obtain ⟨n, n0, rr, rfl, hk⟩ := hr
    ((conv=>whnf);repeat'((first|(show(_=true→_)∧(_=false→_);first|refine gT ?_|refine gF ?_|refine gS ?_ ?_<;>(intro _h;try contradiction))|(show(_=false→_)∧(_=true→_);first|refine gU ?_|refine gV ?_|refine gZ ?_ ?_<;>(intro _h;try contradiction))|(intro _h;try contradiction)|(show _∧_;refine gA ?_)|fail);all_goals conv=>whnf))
    refine acallI (k_power m n n0 rr hk block secret hb hs) rfl fun r hr => ?_
    rw [if_neg hn]
    rcases powV_form m block secret with ⟨e, he⟩ | ⟨zs, he⟩ <;> rw [he] at hr <;> subst hr
    · ((conv=>whnf);repeat'((first|(show(_=true→_)∧(_=false→_);first|refine gT ?_|refine gF ?_|refine gS ?_ ?_<;>(intro _h;try contradiction))|(show(_=false→_)∧(_=true→_);first|refine gU ?_|refine gV ?_|refine gZ ?_ ?_<;>(intro _h;try contradiction))|(intro _h;try contradiction)|(show _∧_;refine gA ?_)|fail);all_goals conv=>whnf))
      exact Ends.imm rfl he.symm
    · ((conv=>whnf);repeat'((first|(show(_=true→_)∧(_=false→_);first|refine gT ?_|refine gF ?_|refine gS ?_ ?_<;>(intro _h;try contradiction))|(show(_=false→_)∧(_=true→_);first|refine gU ?_|refine gV ?_|refine gZ ?_ ?_<;>(intro _h;try contradiction))|(intro _h;try contradiction)|(show _∧_;refine gA ?_)|fail);all_goals conv=>whnf))
      exact Ends.imm rfl he.symm

/-- A square, again and again. -/
def sq (x n : Int) : Nat → Int
  | 0 => x
  | k + 1 => sq x n k * sq x n k % n
def toldROpen : AW.Told := told0


def toldGrow : AW.Told := ⟨fun f => f == 1005005 || f == 1005008, fun _ _ => [], fun _ => .done⟩

theorem k_grow (n : Nat) (h0 : 0 < n) (hn : n ≤ 1000000) : CSpec Tryd.prog 97 [.nls (byt []), i64 n] [] 0 (fun st nx r => st = [(0, .row .u8 5 [])] ∧ nx = 1 ∧ r = .own 0) := by
  have e1 : IntKind.i64.wrap ((n : Int) - IntKind.i64.wrap (0 - 0)) = n := by
    rw [wrap_i64 (n := 0 - 0) (by omega) (by omega), wrap_i64 (by omega) (by omega)]; omega
  refine CSpec.ends (CSpec.of_awp toldGrow [] Tryd.func97 rfl (by decide) (Nat.le_of_ble_eq_true rfl) fun _w0 _S0 _E0 _B0 => ?_)
  ((conv=>whnf);repeat'((first|(show(_=true→_)∧(_=false→_);first|refine gT ?_|refine gF ?_|refine gS ?_ ?_<;>(intro _h;try contradiction))|(show(_=false→_)∧(_=true→_);first|refine gU ?_|refine gV ?_|refine gZ ?_ ?_<;>(intro _h;try contradiction))|(intro _h;try contradiction)|(show _∧_;refine gA ?_)|fail);all_goals conv=>whnf))
  refine ao_cap rfl rfl rfl rfl ?_
  ((conv=>whnf);repeat'((first|(show(_=true→_)∧(_=false→_);first|refine gT ?_|refine gF ?_|refine gS ?_ ?_<;>(intro _h;try contradiction))|(show(_=false→_)∧(_=true→_);first|refine gU ?_|refine gV ?_|refine gZ ?_ ?_<;>(intro _h;try contradiction))|(intro _h;try contradiction)|(show _∧_;refine gA ?_)|fail);all_goals conv=>whnf))
  refine ao_cap rfl rfl rfl rfl ?_
  ((conv=>whnf);repeat'((first|(show(_=true→_)∧(_=false→_);first|refine gT ?_|refine gF ?_|refine gS ?_ ?_<;>(intro _h;try contradiction))|(show(_=false→_)∧(_=true→_);first|refine gU ?_|refine gV ?_|refine gZ ?_ ?_<;>(intro _h;try contradiction))|(intro _h;try contradiction)|(show _∧_;refine gA ?_)|fail);all_goals conv=>whnf))
  rw [e1]
  refine ao_appz (k := .u8) (n := n) rfl rfl rfl rfl rfl rfl rfl rfl rfl rfl (by decide) h0 (by omega) ?_
  ((conv=>whnf);repeat'((first|(show(_=true→_)∧(_=false→_);first|refine gT ?_|refine gF ?_|refine gS ?_ ?_<;>(intro _h;try contradiction))|(show(_=false→_)∧(_=true→_);first|refine gU ?_|refine gV ?_|refine gZ ?_ ?_<;>(intro _h;try contradiction))|(intro _h;try contradiction)|(show _∧_;refine gA ?_)|fail);all_goals conv=>whnf))
  refine ao_cut0 (k := .u8) (j := 0) rfl rfl rfl rfl rfl rfl rfl rfl (Nat.zero_le _) (by simp; omega) ?_
  ((conv=>whnf);repeat'((first|(show(_=true→_)∧(_=false→_);first|refine gT ?_|refine gF ?_|refine gS ?_ ?_<;>(intro _h;try contradiction))|(show(_=false→_)∧(_=true→_);first|refine gU ?_|refine gV ?_|refine gZ ?_ ?_<;>(intro _h;try contradiction))|(intro _h;try contradiction)|(show _∧_;refine gA ?_)|fail);all_goals conv=>whnf))
  exact ⟨[0], [(0, .row .u8 5 [])], .own 0, ⟨rfl, ⟨⟨by decide, rfl⟩, trivial⟩, rfl⟩, rfl, rfl, rfl⟩

theorem flat_take (xss : List (List Int)) (k : Nat) (h : k < xss.length) : (xss.take (k + 1)).flatten = (xss.take k).flatten ++ xss.getD k [] := by
  rw [List.take_add_one, List.flatten_append, List.getElem?_eq_getElem h, List.getD_eq_getElem?_getD, List.getElem?_eq_getElem h]
  simp
theorem flat_le (xss : List (List Int)) (k : Nat) : (xss.take k).flatten.length ≤ xss.flatten.length := by
  have h : xss.flatten = (xss.take k).flatten ++ (xss.drop k).flatten := by rw [← List.flatten_append, List.take_append_drop]
  rw [h, List.length_append]
  omega

/-- Lists of bytes, one behind the other. -/
theorem k_concat (xss : List (List Int)) (h0 : 0 < xss.flatten.length) (hl : xss.flatten.length ≤ 1000000) (hx : xss.length ≤ 1000000) :
    Imm Tryd.prog 67 [.d (.sl 1 (xss.map byt))] (fun r => r = .d (byt xss.flatten)) := by
  (refine Imm.of_awp told0 [2] Tryd.func67 rfl (by decide) (Nat.le_of_ble_eq_true rfl) ?_; intro _w0 _S0 _E0 _B0; ((conv=>whnf);repeat'((first|(show(_=true→_)∧(_=false→_);first|refine nTt ?_|refine nFf ?_|refine gS ?_ ?_<;>(intro _h;try contradiction))|(show(_=false→_)∧(_=true→_);first|refine nU ?_|refine nV ?_|refine gZ ?_ ?_<;>(intro _h;try contradiction))|(intro _h;try contradiction)|(show _∧_;refine gA ?_)|fail);all_goals conv=>whnf)))
  refine aloop (T := told0) (fun k : Nat => [(0, .d (.sl 1 (xss.map byt))), (3, i64 (xss.take k).flatten.length), (9, .d (.sl 1 (xss.map byt))), (10, i64 xss.length), (11, i64 k)]) (fun _ => []) 36 0 (fun k => xss.length - k) (fun k => k ≤ xss.length)
    ⟨0, [], rfl, Nat.zero_le _, by (refine ⟨rfl, rfl, ?_, ?_⟩ <;> repeat' (first | exact True.intro | rfl | decide | (refine And.intro ?_ ?_))); simp [AW.upd, renV]⟩ ?_
  intro k hk
  have hf1 := flat_le xss (k + 1)
  rcases Nat.lt_or_ge k xss.length with hkl | hkl
  · have hfk := flat_take xss k hkl
    have hlen : (xss.take (k + 1)).flatten.length = (xss.take k).flatten.length + (xss.getD k []).length := by rw [hfk, List.length_append]
    have e1 : IntKind.i64.wrap (((xss.take k).flatten.length : Int) + (xss.getD k []).length) = ((xss.take (k + 1)).flatten.length : Nat) := by
      rw [wrap_i64 (by omega) (by omega)]; omega
    ((conv=>whnf);repeat'((first|(show(_=true→_)∧(_=false→_);first|refine gT ?_|refine gF ?_|refine gS ?_ ?_<;>(intro _h;try contradiction))|(show(_=false→_)∧(_=true→_);first|refine gU ?_|refine gV ?_|refine gZ ?_ ?_<;>(intro _h;try contradiction))|(intro _h;try contradiction)|(show _∧_;refine gA ?_)|fail);all_goals conv=>whnf))
    rw [Int.toNat_natCast, getD_map byt xss k [] default (by omega)]
    ((conv=>whnf);repeat'((first|(show(_=true→_)∧(_=false→_);first|refine gT ?_|refine gF ?_|refine gS ?_ ?_<;>(intro _h;try contradiction))|(show(_=false→_)∧(_=true→_);first|refine gU ?_|refine gV ?_|refine gZ ?_ ?_<;>(intro _h;try contradiction))|(intro _h;try contradiction)|(show _∧_;refine gA ?_)|fail);all_goals conv=>whnf))
    refine ⟨k + 1, [], by omega, by omega, rfl, ?_⟩
    (refine ⟨rfl, rfl, ?_, ?_⟩ <;> repeat' (first | exact True.intro | rfl | decide | (refine And.intro ?_ ?_)))
    · exact di e1
    · exact di (by rw [wrap_i64 (by omega) (by omega)]; rfl)
  · have hk' : k = xss.length := by omega
    subst hk'
    rw [List.take_length]
    ((conv=>whnf);repeat'((first|(show(_=true→_)∧(_=false→_);first|refine gT ?_|refine gF ?_|refine gS ?_ ?_<;>(intro _h;try contradiction))|(show(_=false→_)∧(_=true→_);first|refine gU ?_|refine gV ?_|refine gZ ?_ ?_<;>(intro _h;try contradiction))|(intro _h;try contradiction)|(show _∧_;refine gA ?_)|fail);all_goals conv=>whnf))
    refine acall [] (k_grow xss.flatten.length h0 hl) rfl (by simp [stIn]) rfl (fun _ => rfl) ?_
    rintro st nx r ⟨rfl, rfl, rfl⟩
    ((conv=>whnf);repeat'((first|(show(_=true→_)∧(_=false→_);first|refine gT ?_|refine gF ?_|refine gS ?_ ?_<;>(intro _h;try contradiction))|(show(_=false→_)∧(_=true→_);first|refine gU ?_|refine gV ?_|refine gZ ?_ ?_<;>(intro _h;try contradiction))|(intro _h;try contradiction)|(show _∧_;refine gA ?_)|fail);all_goals conv=>whnf))
    refine aloop (T := told0) (fun k : Nat => [(0, .d (.sl 1 (xss.map byt))), (6, .own 0), (25, .d (.sl 1 (xss.map byt))), (26, i64 xss.length), (27, i64 k)]) (fun k => [(0, .row .u8 5 (xss.take k).flatten)]) 36 1 (fun k => xss.length - k) (fun k => k ≤ xss.length)
      ⟨0, [0], rfl, Nat.zero_le _, by (refine ⟨rfl, rfl, ?_, ?_⟩ <;> repeat' (first | exact True.intro | rfl | decide | (refine And.intro ?_ ?_))); simp [AW.upd, renV]⟩ ?_
    intro k hk
    have hf1 := flat_le xss (k + 1)
    rcases Nat.lt_or_ge k xss.length with hkl | hkl
    · have hfk := flat_take xss k hkl
      have hlen : (xss.take (k + 1)).flatten.length = (xss.take k).flatten.length + (xss.getD k []).length := by rw [hfk, List.length_append]
      ((conv=>whnf);repeat'((first|(show(_=true→_)∧(_=false→_);first|refine gT ?_|refine gF ?_|refine gS ?_ ?_<;>(intro _h;try contradiction))|(show(_=false→_)∧(_=true→_);first|refine gU ?_|refine gV ?_|refine gZ ?_ ?_<;>(intro _h;try contradiction))|(intro _h;try contradiction)|(show _∧_;refine gA ?_)|fail);all_goals conv=>whnf))
      rw [Int.toNat_natCast, getD_map byt xss k [] default (by omega)]
      ((conv=>whnf);repeat'((first|(show(_=true→_)∧(_=false→_);first|refine gT ?_|refine gF ?_|refine gS ?_ ?_<;>(intro _h;try contradiction))|(show(_=false→_)∧(_=true→_);first|refine gU ?_|refine gV ?_|refine gZ ?_ ?_<;>(intro _h;try contradiction))|(intro _h;try contradiction)|(show _∧_;refine gA ?_)|fail);all_goals conv=>whnf))
      refine ⟨by show ((xss.take k).flatten.length + (xss.getD k []).length) * 1 ≤ 140737488355328; omega, ?_⟩
      ((conv=>whnf);repeat'((first|(show(_=true→_)∧(_=false→_);first|refine gT ?_|refine gF ?_|refine gS ?_ ?_<;>(intro _h;try contradiction))|(show(_=false→_)∧(_=true→_);first|refine gU ?_|refine gV ?_|refine gZ ?_ ?_<;>(intro _h;try contradiction))|(intro _h;try contradiction)|(show _∧_;refine gA ?_)|fail);all_goals conv=>whnf))
      refine ⟨k + 1, [0], by omega, by omega, rfl, ?_⟩
      (refine ⟨rfl, rfl, ?_, ?_⟩ <;> repeat' (first | exact True.intro | rfl | decide | (refine And.intro ?_ ?_)))
      · exact di (by rw [wrap_i64 (by omega) (by omega)]; rfl)
      · show some (Ob.row .u8 _ _) = some (Ob.row .u8 _ _)
        rw [hfk]
    · have hk' : k = xss.length := by omega
      subst hk'
      rw [List.take_length]
      ((conv=>whnf);repeat'((first|(show(_=true→_)∧(_=false→_);first|refine gT ?_|refine gF ?_|refine gS ?_ ?_<;>(intro _h;try contradiction))|(show(_=false→_)∧(_=true→_);first|refine gU ?_|refine gV ?_|refine gZ ?_ ?_<;>(intro _h;try contradiction))|(intro _h;try contradiction)|(show _∧_;refine gA ?_)|fail);all_goals conv=>whnf))
      exact Ends.imm rfl rfl

def keyBytes (m : List Int) (n0 : Int) (rr : List Int) : List Int := (be 4 (8 * m.length) ++ be 4 n0.toNat) ++ (m ++ be m.length (val rr).toNat)

def toldKB : AW.Told := ⟨fun _ => false, fun r i => if r == 4 && i == 7 then [41] else [], fun _ => .done⟩

theorem k_keyBytes (m n : List Int) (n0 : Int) (rr : List Int) (h : Key m n n0 rr) : Imm Tryd.prog 30 [.d (keyD m n n0 rr)] (fun r => r = .d (byt (keyBytes m n0 rr))) := by
  obtain ⟨h1, h2, h3, hs⟩ := h.pos
  have hl := h.len
  have w1 : IntKind.i64.wrap (8 * (m.length : Int)) = ((8 * m.length : Nat) : Int) := by rw [wrap_i64 (by omega) (by omega)]; omega
  have hn0 := h.ring.hn0
  obtain ⟨v, hv⟩ : ∃ v : Nat, n0 = v := ⟨n0.toNat, by omega⟩
  (refine Imm.of_awp toldKB [] Tryd.func30 rfl (by decide) (Nat.le_of_ble_eq_true rfl) ?_; intro _w0 _S0 _E0 _B0; ((conv=>whnf);repeat'((first|(show(_=true→_)∧(_=false→_);first|refine nTt ?_|refine nFf ?_|refine gS ?_ ?_<;>(intro _h;try contradiction))|(show(_=false→_)∧(_=true→_);first|refine nU ?_|refine nV ?_|refine gZ ?_ ?_<;>(intro _h;try contradiction))|(intro _h;try contradiction)|(show _∧_;refine gA ?_)|fail);all_goals conv=>whnf)))
  refine acallI (k_size m n n0 rr) rfl fun r hr => ?_
  subst hr
  ((conv=>whnf);repeat'((first|(show(_=true→_)∧(_=false→_);first|refine gT ?_|refine gF ?_|refine gS ?_ ?_<;>(intro _h;try contradiction))|(show(_=false→_)∧(_=true→_);first|refine gU ?_|refine gV ?_|refine gZ ?_ ?_<;>(intro _h;try contradiction))|(intro _h;try contradiction)|(show _∧_;refine gA ?_)|fail);all_goals conv=>whnf))
  rw [w1]
  refine acallI (k_putN 4 (8 * m.length) (by omega) (by omega) (by omega)) rfl fun r hr => ?_
  unfold putQ at hr
  subst hr
  ((conv=>whnf);repeat'((first|(show(_=true→_)∧(_=false→_);first|refine gT ?_|refine gF ?_|refine gS ?_ ?_<;>(intro _h;try contradiction))|(show(_=false→_)∧(_=true→_);first|refine gU ?_|refine gV ?_|refine gZ ?_ ?_<;>(intro _h;try contradiction))|(intro _h;try contradiction)|(show _∧_;refine gA ?_)|fail);all_goals conv=>whnf))
  refine acallI (k_n0 n n0 rr hn0) rfl fun r hr => ?_
  subst hr
  ((conv=>whnf);repeat'((first|(show(_=true→_)∧(_=false→_);first|refine gT ?_|refine gF ?_|refine gS ?_ ?_<;>(intro _h;try contradiction))|(show(_=false→_)∧(_=true→_);first|refine gU ?_|refine gV ?_|refine gZ ?_ ?_<;>(intro _h;try contradiction))|(intro _h;try contradiction)|(show _∧_;refine gA ?_)|fail);all_goals conv=>whnf))
  refine acallI (k_put 4 v (by omega) (by omega) (by omega) ([] ++ be 4 (8 * m.length)) (fun h => by have := congrArg List.length h; simp [be_length] at this) (by simp [be_length])) (by rw [hv]; rfl) fun r hr => ?_
  unfold putQ at hr
  subst hr
  ((conv=>whnf);repeat'((first|(show(_=true→_)∧(_=false→_);first|refine gT ?_|refine gF ?_|refine gS ?_ ?_<;>(intro _h;try contradiction))|(show(_=false→_)∧(_=true→_);first|refine gU ?_|refine gV ?_|refine gZ ?_ ?_<;>(intro _h;try contradiction))|(intro _h;try contradiction)|(show _∧_;refine gA ?_)|fail);all_goals conv=>whnf))
  refine acallI (k_rr n n0 rr (fun h' => by have := h.ring.hrl; rw [h'] at this; simp at this; omega) (by have := h.ring.hrl; omega)) rfl fun r hr => ?_
  subst hr
  ((conv=>whnf);repeat'((first|(show(_=true→_)∧(_=false→_);first|refine gT ?_|refine gF ?_|refine gS ?_ ?_<;>(intro _h;try contradiction))|(show(_=false→_)∧(_=true→_);first|refine gU ?_|refine gV ?_|refine gZ ?_ ?_<;>(intro _h;try contradiction))|(intro _h;try contradiction)|(show _∧_;refine gA ?_)|fail);all_goals conv=>whnf))
  refine acallI (k_size m n n0 rr) rfl fun r hr => ?_
  subst hr
  ((conv=>whnf);repeat'((first|(show(_=true→_)∧(_=false→_);first|refine gT ?_|refine gF ?_|refine gS ?_ ?_<;>(intro _h;try contradiction))|(show(_=false→_)∧(_=true→_);first|refine gU ?_|refine gV ?_|refine gZ ?_ ?_<;>(intro _h;try contradiction))|(intro _h;try contradiction)|(show _∧_;refine gA ?_)|fail);all_goals conv=>whnf))
  have hrl := h.ring.hrl
  refine acallI (k_bytes rr m.length h.ring.hr ?_ (by omega) ?_) rfl fun r hr => ?_
  · unfold bad
    rw [hrl, decide_eq_false (by omega), decide_eq_false (by omega)]
    rfl
  · have a1 := h.ring.hrv
    have a2 := dval_lt h.wf.reverse
    rw [List.length_reverse] at a2
    have a3 : bn m < dpw m.length := a2
    have a4 := h.val
    omega
  subst hr
  ((conv=>whnf);repeat'((first|(show(_=true→_)∧(_=false→_);first|refine gT ?_|refine gF ?_|refine gS ?_ ?_<;>(intro _h;try contradiction))|(show(_=false→_)∧(_=true→_);first|refine gU ?_|refine gV ?_|refine gZ ?_ ?_<;>(intro _h;try contradiction))|(intro _h;try contradiction)|(show _∧_;refine gA ?_)|fail);all_goals conv=>whnf))
  refine acallI (k_concat [[] ++ be 4 (8 * m.length) ++ be 4 v, m, be m.length (val rr).toNat] (by simp [be_length]; omega) (by simp [be_length]; omega) (by simp)) rfl fun r hr => ?_
  subst hr
  ((conv=>whnf);repeat'((first|(show(_=true→_)∧(_=false→_);first|refine gT ?_|refine gF ?_|refine gS ?_ ?_<;>(intro _h;try contradiction))|(show(_=false→_)∧(_=true→_);first|refine gU ?_|refine gV ?_|refine gZ ?_ ?_<;>(intro _h;try contradiction))|(intro _h;try contradiction)|(show _∧_;refine gA ?_)|fail);all_goals conv=>whnf))
  refine Ends.imm rfl ?_
  simp [keyBytes, hv]

def hx (c : Int) : Int := if 97 ≤ c ∧ c ≤ 102 then c - 97 + 10 else IntKind.u8.wrap (c - 48)
theorem hx_le (c : Int) : 0 ≤ hx c ∧ hx c ≤ 255 := by
  unfold hx
  split
  · omega
  · simp [IntKind.wrap, IntKind.bits, IntKind.signed]; omega
def hxAt (xs : List Int) (k : Nat) : Int := IntKind.u8.wrap (hx (xs.getD (2 * k) 0) * 16 + hx (xs.getD (2 * k + 1) 0))
/-- Bytes of pairs of digits. -/
def hexB (xs : List Int) : List Int := (List.range (xs.length / 2)).map (hxAt xs)
def pv (xs : List Int) (k : Nat) : Nat → Int
  | 0 => 0
  | j + 1 => pv xs k j * 16 + hx (xs.getD (2 * k + j) 0)

theorem hexB_take (xs : List Int) (k : Nat) (h : k < xs.length / 2) : (hexB xs).take (k + 1) = (hexB xs).take k ++ [hxAt xs k] := by
  rw [take_snoc (by simp [hexB]; omega)]
  congr 2
  rw [List.getD_eq_getElem?_getD, hexB, List.getElem?_map, List.getElem?_range h]; rfl

theorem k_hex (xs : List Int) (hx0 : wfd xs) (hl : xs.length ≤ 100000) (h2 : 2 ≤ xs.length) : Imm Tryd.prog 54 [.d (.str xs)] (fun r => r = .d (byt (hexB xs))) := by
  (refine Imm.of_awp told0 [2] Tryd.func54 rfl (by decide) (Nat.le_of_ble_eq_true rfl) ?_; intro _w0 _S0 _E0 _B0; ((conv=>whnf);repeat'((first|(show(_=true→_)∧(_=false→_);first|refine nTt ?_|refine nFf ?_|refine gS ?_ ?_<;>(intro _h;try contradiction))|(show(_=false→_)∧(_=true→_);first|refine nU ?_|refine nV ?_|refine gZ ?_ ?_<;>(intro _h;try contradiction))|(intro _h;try contradiction)|(show _∧_;refine gA ?_)|fail);all_goals conv=>whnf)))
  refine AWp.adopt 3 (.row .u8 5 []) rfl rfl ?_
  refine aloop (T := told0) (ι := Nat) (fun k => [(0, .d (.str xs)), (3, .own 0), (4, i64 (2 * k : Nat))]) (fun k => [(0, .row .u8 5 ((hexB xs).take k))]) 52 1
    (fun k => xs.length / 2 - k) (fun k => k ≤ xs.length / 2)
    ⟨0, [0], rfl, by omega, by (refine ⟨rfl, rfl, ?_, ?_⟩ <;> repeat' (first | exact True.intro | rfl | decide | (refine And.intro ?_ ?_)))⟩ ?_
  intro k hk
  have hlen : ((hexB xs).take k).length = k := by simp [hexB]; omega
  rcases Nat.lt_or_ge k (xs.length / 2) with hkl | hkl
  · have e1 : IntKind.i64.wrap (((2 * k : Nat) : Int) + 1) = (2 * k + 1 : Nat) := by rw [wrap_i64 (by omega) (by omega)]; omega
    have e2 : IntKind.i64.wrap (((2 * k : Nat) : Int) + 2) = (2 * k + 2 : Nat) := by rw [wrap_i64 (by omega) (by omega)]; omega
    ((conv=>whnf);repeat'((first|(show(_=true→_)∧(_=false→_);first|refine gT ?_|refine gF ?_|refine gS ?_ ?_<;>(intro _h;try contradiction))|(show(_=false→_)∧(_=true→_);first|refine gU ?_|refine gV ?_|refine gZ ?_ ?_<;>(intro _h;try contradiction))|(intro _h;try contradiction)|(show _∧_;refine gA ?_)|fail);all_goals conv=>whnf))
    obtain ⟨ys, hys⟩ : ∃ ys, ys = (xs.take (2 * k + 2)).drop (2 * k) := ⟨_, rfl⟩
    have hyl : ys.length = 2 := by rw [hys]; simp; omega
    have hyg : ∀ j, j < 2 → ys.getD j 0 = xs.getD (2 * k + j) 0 := fun j hj => by
      rw [hys, List.getD_eq_getElem?_getD, List.getElem?_drop, List.getElem?_take, if_pos (by omega), ← List.getD_eq_getElem?_getD]
    refine aloop (T := told0) (ι := Nat × Int) (fun p => [(0, .d (.str xs)), (3, .own 0), (4, i64 (2 * k : Nat)), (5, i64 p.2), (20, .d (byt ys)), (21, i64 ys.length), (22, i64 p.1)]) (fun p => [(0, .row .u8 5 ((hexB xs).take k))]) 52 1
      (fun p => 2 - p.1) (fun p => p.1 ≤ 2 ∧ p.2 = pv xs k p.1)
      ⟨(0, 0), [0], rfl, ⟨by omega, rfl⟩, by
        (refine ⟨rfl, rfl, ?_, ?_⟩ <;> repeat' (first | exact True.intro | rfl | decide | (refine And.intro ?_ ?_)))
        · show AVal.d (.ints .u8 _) = AVal.d (.ints .u8 ys)
          rw [e2, hys]; rfl
        · show AVal.d (.int .i64 _) = AVal.d (.int .i64 ys.length)
          rw [e2, hys]; rfl⟩ ?_
    intro ⟨j, n⟩ ⟨hj, hn⟩
    dsimp only at hj hn ⊢
    have hpb : ∀ j, j ≤ 2 → 0 ≤ pv xs k j ∧ pv xs k j ≤ 10000 := fun j hj => by
      have a0 := hx_le (xs.getD (2 * k + 0) 0)
      have a1 := hx_le (xs.getD (2 * k + 1) 0)
      have : j = 0 ∨ j = 1 ∨ j = 2 := by omega
      rcases this with rfl | rfl | rfl <;> simp only [pv] <;> omega
    have hp := hpb j hj
    rcases Nat.lt_or_ge j 2 with hj2 | hj2
    · have hg : ys.getD (j : Int).toNat 0 = xs.getD (2 * k + j) 0 := by rw [Int.toNat_natCast]; exact hyg j hj2
      have hc := hx0.get (2 * k + j)
      have hp1 := hpb (j + 1) (by omega)
      have hxl := hx_le (xs.getD (2 * k + j) 0)
      have e3 : IntKind.i64.wrap (n * 16) = n * 16 := wrap_i64 (by omega) (by omega)
      have key : ∀ v, v = pv xs k (j + 1) → AVal.d (.int .i64 v) = i64 (pv xs k (j + 1)) := fun v h => di h
      have hw8 : IntKind.u8.wrap (ys.getD (j : Int).toNat 0 - 48) = IntKind.u8.wrap (xs.getD (2 * k + j) 0 - 48) := by rw [hg]
      have hw8b : 0 ≤ IntKind.u8.wrap (xs.getD (2 * k + j) 0 - 48) ∧ IntKind.u8.wrap (xs.getD (2 * k + j) 0 - 48) ≤ 255 := by
        simp [IntKind.wrap, IntKind.bits, IntKind.signed]; omega
      have hlow : ¬ (97 ≤ xs.getD (2 * k + j) 0 ∧ xs.getD (2 * k + j) 0 ≤ 102) → IntKind.i64.wrap (IntKind.i64.wrap (n * 16) + IntKind.i64.wrap (IntKind.u8.wrap (ys.getD (j : Int).toNat 0 - 48))) = pv xs k (j + 1) := fun h => by
        rw [hw8, e3, wrap_i64 (n := IntKind.u8.wrap (xs.getD (2 * k + j) 0 - 48)) (by omega) (by omega), wrap_i64 (by omega) (by omega), hn]
        simp only [pv, hx]
        rw [if_neg h]
      ((conv=>whnf);repeat'((first|(show(_=true→_)∧(_=false→_);first|refine gT ?_|refine gF ?_|refine gS ?_ ?_<;>(intro _h;try contradiction))|(show(_=false→_)∧(_=true→_);first|refine gU ?_|refine gV ?_|refine gZ ?_ ?_<;>(intro _h;try contradiction))|(intro _h;try contradiction)|(show _∧_;refine gA ?_)|fail);all_goals conv=>whnf))
      · have hge : 97 ≤ xs.getD (2 * k + j) 0 ∧ xs.getD (2 * k + j) 0 ≤ 102 := by omega
        have hw9 : IntKind.u8.wrap (ys.getD (j : Int).toNat 0 - 97) = xs.getD (2 * k + j) 0 - 97 := by
          rw [hg]
          exact wrap_in.2 ⟨by simp only [loK]; omega, by simp only [hiK]; omega⟩
        refine ⟨(j + 1, pv xs k (j + 1)), [0], by dsimp only; omega, ⟨by dsimp only; omega, rfl⟩, rfl, ?_⟩
        (refine ⟨rfl, rfl, ?_, ?_⟩ <;> repeat' (first | exact True.intro | rfl | decide | (refine And.intro ?_ ?_)))
        · refine key _ ?_
          rw [hw9, e3, wrap_i64 (n := xs.getD (2 * k + j) 0 - 97) (by omega) (by omega), wrap_i64 (n := xs.getD (2 * k + j) 0 - 97 + 10) (by omega) (by omega), wrap_i64 (by omega) (by omega), hn]
          simp only [pv, hx]
          rw [if_pos hge]
        · exact di (by rw [wrap_i64 (by omega) (by omega)]; rfl)
      · refine ⟨(j + 1, pv xs k (j + 1)), [0], by dsimp only; omega, ⟨by dsimp only; omega, rfl⟩, rfl, ?_⟩
        (refine ⟨rfl, rfl, ?_, ?_⟩ <;> repeat' (first | exact True.intro | rfl | decide | (refine And.intro ?_ ?_)))
        · exact key _ (hlow (by omega))
        · exact di (by rw [wrap_i64 (by omega) (by omega)]; rfl)
      · refine ⟨(j + 1, pv xs k (j + 1)), [0], by dsimp only; omega, ⟨by dsimp only; omega, rfl⟩, rfl, ?_⟩
        (refine ⟨rfl, rfl, ?_, ?_⟩ <;> repeat' (first | exact True.intro | rfl | decide | (refine And.intro ?_ ?_)))
        · exact key _ (hlow (by omega))
        · exact di (by rw [wrap_i64 (by omega) (by omega)]; rfl)
    · have hj' : j = 2 := by omega
      ((conv=>whnf);repeat'((first|(show(_=true→_)∧(_=false→_);first|refine gT ?_|refine gF ?_|refine gS ?_ ?_<;>(intro _h;try contradiction))|(show(_=false→_)∧(_=true→_);first|refine gU ?_|refine gV ?_|refine gZ ?_ ?_<;>(intro _h;try contradiction))|(intro _h;try contradiction)|(show _∧_;refine gA ?_)|fail);all_goals conv=>whnf))
      have ebyte : IntKind.u8.wrap n = hxAt xs k := by
        rw [hn, hj']
        simp only [pv, hxAt]
        congr 1
        simp
      refine ⟨by rw [hlen]; show (k + 1) * 1 ≤ 140737488355328; omega, ?_⟩
      ((conv=>whnf);repeat'((first|(show(_=true→_)∧(_=false→_);first|refine gT ?_|refine gF ?_|refine gS ?_ ?_<;>(intro _h;try contradiction))|(show(_=false→_)∧(_=true→_);first|refine gU ?_|refine gV ?_|refine gZ ?_ ?_<;>(intro _h;try contradiction))|(intro _h;try contradiction)|(show _∧_;refine gA ?_)|fail);all_goals conv=>whnf))
      refine ⟨k + 1, [0], by omega, by omega, rfl, ?_⟩
      (refine ⟨rfl, rfl, ?_, ?_⟩ <;> repeat' (first | exact True.intro | rfl | decide | (refine And.intro ?_ ?_)))
      · exact di (by rw [e2]; omega)
      · show some (Ob.row .u8 _ _) = some (Ob.row .u8 _ _)
        rw [ebyte, hexB_take xs k hkl]
  · have e1 : IntKind.i64.wrap (((2 * k : Nat) : Int) + 1) = (2 * k + 1 : Nat) := by rw [wrap_i64 (by omega) (by omega)]; omega
    ((conv=>whnf);repeat'((first|(show(_=true→_)∧(_=false→_);first|refine gT ?_|refine gF ?_|refine gS ?_ ?_<;>(intro _h;try contradiction))|(show(_=false→_)∧(_=true→_);first|refine gU ?_|refine gV ?_|refine gZ ?_ ?_<;>(intro _h;try contradiction))|(intro _h;try contradiction)|(show _∧_;refine gA ?_)|fail);all_goals conv=>whnf))
    refine Ends.imm rfl ?_
    rw [List.take_of_length_le (by simp [hexB]; omega)]

/-- The moduli, and the exponents that go with them. -/
def keyM : Nat → Nat
  | 1 => 8798897235477369662427135118463266393166531668360946010168437584925822992125429558809574850103081583861454032877256194821401750061414846908587360976915741
  | 2 => 127999963861467928976235131166093275292161515016063763923373206774501895897251866639788429389649847322170796078865058902473104027594537885017105652176856237612874369081376323347280241957528896247405164286184783857999238518557773932972970357366484208424006982919891871196302697261030613745495102320304850740117
  | 3 => 21194976876106637767765971718165402166353776426219101977383846722248938411909916334974259674239889560497095207569630968526574494887006368495708710046325672162422584895085717556702231790328714468474804417764748464856769271775639164236900590607434035455341442204371723308978322428797989385976785730466691083582103046616771517615007258510561437830504786488550206182749961020805330594563883953407125895219372141907850320983399201270241215599536426349582548563878865734947792524324328099558734342438666921317912254057202636830323200504800306119446616233962423300924062342948048824120326245834241393092211722134327371078417
  | _ => 12607766334694039014391351008413601944683118988991459305310262151377373165058157047532882643118617957749893479614883761015472045962519006435872599572042897
def keyS : Nat → Nat
  | 1 => 665485662632596122407734592649080606288481405116928134273805682272320568781250178228116130340889242470884941083446684742951338887724730162469359910046321
  | 2 => 19049183120916691344048094653503055449840781692631774073667801039727815198303195741236296259828567743649732178095791301027730004157530242537805674060428016987991313086216564246459434546712853419322174614433193377015960796308433284073844185721518512896022191151064406223025669709891446507495599229498951901233
  | 3 => 1993305155498165339909143944411743843207981766071096251546536144049641147776168718900984932208943944735399031262575651532928603677862333524929438856989613201292271571797012682312803540590674453002799289392145309720382339847554083781285942142742567977310480782254987512624744652484801067800905120004447113747295376264649173116209078018858030489149333629011745679857466373000261196213871082456799966462884700798968705427811623624086488859501306520816411835448873617160761070230710353657650105797764969861846996854073856400239666400673624047118508045279127092387387624038080325041065703851217529775387191758196514993591
  | _ => 4461879983577615604624651717558644379571965763937522489551147675480585081767111051003969606891830699444075379236997817217414472602895223140136589450812183
def keyL : Nat → Nat
  | 2 => 128
  | 3 => 256
  | _ => 64
def modB (k : Nat) : List Int := be (keyL k) (keyM k)
def secB (k : Nat) : List Int := be (keyL k) (keyS k)
def idx (k : Int) : Nat := if k = 1 then 1 else if k = 2 then 2 else if k = 3 then 3 else 0

theorem wfd_bytesOf (s : ByteArray) : wfd (bytesOf s) := fun x hx => by
  simp only [bytesOf, List.mem_map] at hx
  obtain ⟨b, _, rfl⟩ := hx
  have := b.toNat_lt
  omega

theorem k_modulus (k : Int) : Imm Tryd.prog 20 [i64 k] (fun r => r = .d (byt (modB (idx k)))) := by
  (refine Imm.of_awp told0 [] Tryd.func20 rfl (by decide) (Nat.le_of_ble_eq_true rfl) ?_; intro _w0 _S0 _E0 _B0; ((conv=>whnf);repeat'((first|(show(_=true→_)∧(_=false→_);first|refine nTt ?_|refine nFf ?_|refine gS ?_ ?_<;>(intro _h;try contradiction))|(show(_=false→_)∧(_=true→_);first|refine nU ?_|refine nV ?_|refine gZ ?_ ?_<;>(intro _h;try contradiction))|(intro _h;try contradiction)|(show _∧_;refine gA ?_)|fail);all_goals conv=>whnf)))
  · refine acallI (k_hex (bytesOf _) (wfd_bytesOf _) (by decide +kernel) (by decide +kernel)) rfl fun r hr => ?_
    subst hr
    ((conv=>whnf);repeat'((first|(show(_=true→_)∧(_=false→_);first|refine nTt ?_|refine nFf ?_|refine gS ?_ ?_<;>(intro _h;try contradiction))|(show(_=false→_)∧(_=true→_);first|refine nU ?_|refine nV ?_|refine gZ ?_ ?_<;>(intro _h;try contradiction))|(intro _h;try contradiction)|(show _∧_;refine gA ?_)|fail);all_goals conv=>whnf))
    refine Ends.imm rfl ?_
    have : idx k = 1 := by unfold idx; simp [*]
    rw [this]
    refine congrArg (fun l => AVal.d (byt l)) ?_
    decide +kernel
  · refine acallI (k_hex (bytesOf _) (wfd_bytesOf _) (by decide +kernel) (by decide +kernel)) rfl fun r hr => ?_
    subst hr
    ((conv=>whnf);repeat'((first|(show(_=true→_)∧(_=false→_);first|refine nTt ?_|refine nFf ?_|refine gS ?_ ?_<;>(intro _h;try contradiction))|(show(_=false→_)∧(_=true→_);first|refine nU ?_|refine nV ?_|refine gZ ?_ ?_<;>(intro _h;try contradiction))|(intro _h;try contradiction)|(show _∧_;refine gA ?_)|fail);all_goals conv=>whnf))
    refine Ends.imm rfl ?_
    have : idx k = 2 := by unfold idx; simp [*]
    rw [this]
    refine congrArg (fun l => AVal.d (byt l)) ?_
    decide +kernel
  · refine acallI (k_hex (bytesOf _) (wfd_bytesOf _) (by decide +kernel) (by decide +kernel)) rfl fun r hr => ?_
    subst hr
    ((conv=>whnf);repeat'((first|(show(_=true→_)∧(_=false→_);first|refine nTt ?_|refine nFf ?_|refine gS ?_ ?_<;>(intro _h;try contradiction))|(show(_=false→_)∧(_=true→_);first|refine nU ?_|refine nV ?_|refine gZ ?_ ?_<;>(intro _h;try contradiction))|(intro _h;try contradiction)|(show _∧_;refine gA ?_)|fail);all_goals conv=>whnf))
    refine Ends.imm rfl ?_
    have : idx k = 3 := by unfold idx; simp [*]
    rw [this]
    refine congrArg (fun l => AVal.d (byt l)) ?_
    decide +kernel
  · refine acallI (k_hex (bytesOf _) (wfd_bytesOf _) (by decide +kernel) (by decide +kernel)) rfl fun r hr => ?_
    subst hr
    ((conv=>whnf);repeat'((first|(show(_=true→_)∧(_=false→_);first|refine nTt ?_|refine nFf ?_|refine gS ?_ ?_<;>(intro _h;try contradiction))|(show(_=false→_)∧(_=true→_);first|refine nU ?_|refine nV ?_|refine gZ ?_ ?_<;>(intro _h;try contradiction))|(intro _h;try contradiction)|(show _∧_;refine gA ?_)|fail);all_goals conv=>whnf))
    refine Ends.imm rfl ?_
    have : idx k = 0 := by unfold idx; simp [*]
    rw [this]
    refine congrArg (fun l => AVal.d (byt l)) ?_
    decide +kernel
theorem k_secret (k : Int) : Imm Tryd.prog 22 [i64 k] (fun r => r = .d (byt (secB (idx k)))) := by
  (refine Imm.of_awp told0 [] Tryd.func22 rfl (by decide) (Nat.le_of_ble_eq_true rfl) ?_; intro _w0 _S0 _E0 _B0; ((conv=>whnf);repeat'((first|(show(_=true→_)∧(_=false→_);first|refine nTt ?_|refine nFf ?_|refine gS ?_ ?_<;>(intro _h;try contradiction))|(show(_=false→_)∧(_=true→_);first|refine nU ?_|refine nV ?_|refine gZ ?_ ?_<;>(intro _h;try contradiction))|(intro _h;try contradiction)|(show _∧_;refine gA ?_)|fail);all_goals conv=>whnf)))
  · refine acallI (k_hex (bytesOf _) (wfd_bytesOf _) (by decide +kernel) (by decide +kernel)) rfl fun r hr => ?_
    subst hr
    ((conv=>whnf);repeat'((first|(show(_=true→_)∧(_=false→_);first|refine nTt ?_|refine nFf ?_|refine gS ?_ ?_<;>(intro _h;try contradiction))|(show(_=false→_)∧(_=true→_);first|refine nU ?_|refine nV ?_|refine gZ ?_ ?_<;>(intro _h;try contradiction))|(intro _h;try contradiction)|(show _∧_;refine gA ?_)|fail);all_goals conv=>whnf))
    refine Ends.imm rfl ?_
    have : idx k = 1 := by unfold idx; simp [*]
    rw [this]
    refine congrArg (fun l => AVal.d (byt l)) ?_
    decide +kernel
  · refine acallI (k_hex (bytesOf _) (wfd_bytesOf _) (by decide +kernel) (by decide +kernel)) rfl fun r hr => ?_
    subst hr
    ((conv=>whnf);repeat'((first|(show(_=true→_)∧(_=false→_);first|refine nTt ?_|refine nFf ?_|refine gS ?_ ?_<;>(intro _h;try contradiction))|(show(_=false→_)∧(_=true→_);first|refine nU ?_|refine nV ?_|refine gZ ?_ ?_<;>(intro _h;try contradiction))|(intro _h;try contradiction)|(show _∧_;refine gA ?_)|fail);all_goals conv=>whnf))
    refine Ends.imm rfl ?_
    have : idx k = 2 := by unfold idx; simp [*]
    rw [this]
    refine congrArg (fun l => AVal.d (byt l)) ?_
    decide +kernel
  · refine acallI (k_hex (bytesOf _) (wfd_bytesOf _) (by decide +kernel) (by decide +kernel)) rfl fun r hr => ?_
    subst hr
    ((conv=>whnf);repeat'((first|(show(_=true→_)∧(_=false→_);first|refine nTt ?_|refine nFf ?_|refine gS ?_ ?_<;>(intro _h;try contradiction))|(show(_=false→_)∧(_=true→_);first|refine nU ?_|refine nV ?_|refine gZ ?_ ?_<;>(intro _h;try contradiction))|(intro _h;try contradiction)|(show _∧_;refine gA ?_)|fail);all_goals conv=>whnf))
    refine Ends.imm rfl ?_
    have : idx k = 3 := by unfold idx; simp [*]
    rw [this]
    refine congrArg (fun l => AVal.d (byt l)) ?_
    decide +kernel
  · refine acallI (k_hex (bytesOf _) (wfd_bytesOf _) (by decide +kernel) (by decide +kernel)) rfl fun r hr => ?_
    subst hr
    ((conv=>whnf);repeat'((first|(show(_=true→_)∧(_=false→_);first|refine nTt ?_|refine nFf ?_|refine gS ?_ ?_<;>(intro _h;try contradiction))|(show(_=false→_)∧(_=true→_);first|refine nU ?_|refine nV ?_|refine gZ ?_ ?_<;>(intro _h;try contradiction))|(intro _h;try contradiction)|(show _∧_;refine gA ?_)|fail);all_goals conv=>whnf))
    refine Ends.imm rfl ?_
    have : idx k = 0 := by unfold idx; simp [*]
    rw [this]
    refine congrArg (fun l => AVal.d (byt l)) ?_
    decide +kernel
end Go.Proofs.YtniaeiikdgbnfaaDoor.R
namespace Go.Proofs.YtniaeiikdgbnfaaDoor.R
open Go Go.RowKit Go.Proofs Go.Proofs.YtniaeiikdgbnfaaDoor.AW
set_option maxRecDepth 100000
set_option linter.unusedSimpArgs false
set_option linter.unusedVariables false
set_option maxHeartbeats 4000000

/-- A power's rest, by squares. -/
def pm : Nat → Nat → Nat → Nat → Nat
  | 0, _, _, m => 1 % m
  | f + 1, b, e, m => if e = 0 then 1 % m else if e % 2 = 1 then b * pm f (b * b % m) (e / 2) m % m else pm f (b * b % m) (e / 2) m

theorem pm_eq : ∀ (f b e m : Nat), e < 2 ^ f → pm f b e m = b ^ e % m
  | 0, b, e, m, h => by
    have : e = 0 := by simp at h; exact h
    subst this
    simp [pm]
  | f + 1, b, e, m, h => by
    have h2 : e / 2 < 2 ^ f := by rw [Nat.pow_succ] at h; omega
    unfold pm
    split
    · rename_i h0; subst h0; simp
    · rw [pm_eq f _ _ m h2, ← Nat.pow_mod, ← Nat.pow_two, ← Nat.pow_mul]
      split
      · rename_i h1
        have h4 : 2 * (e / 2) + 1 = e := by omega
        have h3 : b * b ^ (2 * (e / 2)) = b ^ e := by rw [← Nat.pow_succ', Nat.succ_eq_add_one, h4]
        rw [← h3, Nat.mul_mod, Nat.mod_mod, ← Nat.mul_mod]
      · have : 2 * (e / 2) = e := by omega
        rw [this]

set_option linter.unusedSectionVars false
variable [Globs]
theorem powV_ok {m block exp : List Int} {M B E R : Nat} (hm : bn m = M) (hb : bn block = B) (hl : block.length = m.length) (hlt : B < M) (hel : exp.length ≤ 1024) (he : ev exp = E) (hE : E < 2 ^ 4200) (hR : pm 4200 B E M = R) :
    powV m block exp = .tup [.d (byt (be m.length R)), i64 0] := by
  unfold powV
  rw [if_neg (by omega), hm, hb, if_neg (by omega), if_neg (by omega), he, ← Int.natCast_pow, ← Int.natCast_emod, Int.toNat_natCast, ← pm_eq 4200 B E M hE, hR]

theorem bn_be {n v : Nat} (h : v < 256 ^ n) : bn (be n v) = v := by
  unfold bn
  rw [dval_be, Nat.mod_eq_of_lt h]

theorem modB_len (k : Nat) : (modB k).length = keyL k := be_length _ _
theorem secB_len (k : Nat) : (secB k).length = keyL k := be_length _ _

/-- The block of the anchor, closed. -/
def ancX : Nat := 6066988274665191910888268032501191046303578170855220796717604126367961076137979329567869479535545857336114934390111988286836951580209618009209795422463266

theorem anc_bn : bn (modB 0) = keyM 0 := bn_be (by decide +kernel)
theorem anc_close : powV (modB 0) (be 64 2) (secB 0) = .tup [.d (byt (be 64 ancX)), i64 0] :=
  powV_ok anc_bn (bn_be (by decide +kernel)) (by rw [modB_len, be_length]; rfl) (by decide +kernel) (by rw [secB_len]; decide) (E := keyS 0) (by decide +kernel) (by decide +kernel) (by decide +kernel)
theorem anc_open : powV (modB 0) (be 64 ancX) [1, 0, 1] = .tup [.d (byt (be 64 2)), i64 0] :=
  powV_ok anc_bn (bn_be (by decide +kernel)) (by rw [modB_len, be_length]; rfl) (by decide +kernel) (by decide) (E := 65537) (by decide +kernel) (by decide +kernel) (by decide +kernel)
end Go.Proofs.YtniaeiikdgbnfaaDoor.R
namespace Go.Proofs.YtniaeiikdgbnfaaDoor.R
open Go Go.RowKit Go.Proofs Go.Proofs.YtniaeiikdgbnfaaDoor.AW
set_option linter.unusedSectionVars false
variable [Globs]
set_option maxRecDepth 100000
set_option linter.unusedSimpArgs false
set_option linter.unusedVariables false
set_option maxHeartbeats 4000000

theorem modB_wfd (k : Nat) : wfd (modB k) := be_wfd _ _
theorem secB_wfd (k : Nat) : wfd (secB k) := be_wfd _ _
theorem modB_right0 : notMod (modB 0) = 0 := by decide +kernel

theorem keyBytes_len (m : List Int) (n0 : Int) (rr : List Int) : (keyBytes m n0 rr).length = 8 + 2 * m.length := by
  simp [keyBytes, be_length]; omega

def toldAnc : AW.Told := ⟨fun _ => false, fun r i => if r == 7 && i == 3 then [38] else [], fun _ => .done⟩

theorem k_anchor (hG : Globs.gl 0 = some EXP) : Imm Tryd.prog 16 [] (fun r => r = bool true) := by
  have hml : (modB 0).length = 64 := modB_len 0
  (refine Imm.of_awp toldAnc [] Tryd.func16 rfl (by decide) (Nat.le_of_ble_eq_true rfl) ?_; intro _w0 _S0 _E0 _B0; ((conv=>whnf);repeat'((first|(show(_=true→_)∧(_=false→_);first|refine nTt ?_|refine nFf ?_|refine gS ?_ ?_<;>(intro _h;try contradiction))|(show(_=false→_)∧(_=true→_);first|refine nU ?_|refine nV ?_|refine gZ ?_ ?_<;>(intro _h;try contradiction))|(intro _h;try contradiction)|(show _∧_;refine gA ?_)|fail);all_goals conv=>whnf)))
  refine acallI (k_modulus 0) rfl fun r hr => ?_
  subst hr
  ((conv=>whnf);repeat'((first|(show(_=true→_)∧(_=false→_);first|refine gT ?_|refine gF ?_|refine gS ?_ ?_<;>(intro _h;try contradiction))|(show(_=false→_)∧(_=true→_);first|refine gU ?_|refine gV ?_|refine gZ ?_ ?_<;>(intro _h;try contradiction))|(intro _h;try contradiction)|(show _∧_;refine gA ?_)|fail);all_goals conv=>whnf))
  refine acallI (k_make (modB 0) (modB_wfd 0) (by rw [hml]; unfold LIM; omega)) rfl fun r hr => ?_
  rw [if_neg (by rw [modB_right0]; simp)] at hr
  obtain ⟨n, n0, rr, rfl, hk⟩ := hr
  ((conv=>whnf);repeat'((first|(show(_=true→_)∧(_=false→_);first|refine gT ?_|refine gF ?_|refine gS ?_ ?_<;>(intro _h;try contradiction))|(show(_=false→_)∧(_=true→_);first|refine gU ?_|refine gV ?_|refine gZ ?_ ?_<;>(intro _h;try contradiction))|(intro _h;try contradiction)|(show _∧_;refine gA ?_)|fail);all_goals conv=>whnf))
  refine acallI (k_keyBytes (modB 0) n n0 rr hk) rfl fun r hr => ?_
  subst hr
  have hkl := keyBytes_len (modB 0) n0 rr
  rw [hml] at hkl
  ((conv=>whnf);repeat'((first|(show(_=true→_)∧(_=false→_);first|refine gT ?_|refine gF ?_|refine gS ?_ ?_<;>(intro _h;try contradiction))|(show(_=false→_)∧(_=true→_);first|refine gU ?_|refine gV ?_|refine gZ ?_ ?_<;>(intro _h;try contradiction))|(intro _h;try contradiction)|(show _∧_;refine gA ?_)|fail);all_goals conv=>whnf))
  refine acallI (k_size (modB 0) n n0 rr) rfl fun r hr => ?_
  subst hr
  ((conv=>whnf);repeat'((first|(show(_=true→_)∧(_=false→_);first|refine gT ?_|refine gF ?_|refine gS ?_ ?_<;>(intro _h;try contradiction))|(show(_=false→_)∧(_=true→_);first|refine gU ?_|refine gV ?_|refine gZ ?_ ?_<;>(intro _h;try contradiction))|(intro _h;try contradiction)|(show _∧_;refine gA ?_)|fail);all_goals conv=>whnf))
  refine acallI (k_secret 0) rfl fun r hr => ?_
  subst hr
  ((conv=>whnf);repeat'((first|(show(_=true→_)∧(_=false→_);first|refine gT ?_|refine gF ?_|refine gS ?_ ?_<;>(intro _h;try contradiction))|(show(_=false→_)∧(_=true→_);first|refine gU ?_|refine gV ?_|refine gZ ?_ ?_<;>(intro _h;try contradiction))|(intro _h;try contradiction)|(show _∧_;refine gA ?_)|fail);all_goals conv=>whnf))
  have hblk : (List.replicate (Int.toNat 64) (0 : Int)).set (Int.toNat 63) 2 = be 64 2 := by decide +kernel
  rw [hblk]
  refine acallI (k_close (modB 0) (secB 0) (be 64 2) (modB_wfd 0) (secB_wfd 0) (be_wfd _ _) (by rw [hml]; unfold LIM; omega)) rfl fun r hr => ?_
  rw [if_neg (by rw [modB_right0]; simp), anc_close] at hr
  subst hr
  ((conv=>whnf);repeat'((first|(show(_=true→_)∧(_=false→_);first|refine gT ?_|refine gF ?_|refine gS ?_ ?_<;>(intro _h;try contradiction))|(show(_=false→_)∧(_=true→_);first|refine gU ?_|refine gV ?_|refine gZ ?_ ?_<;>(intro _h;try contradiction))|(intro _h;try contradiction)|(show _∧_;refine gA ?_)|fail);all_goals conv=>whnf))
  refine acallI (k_open hG (modB 0) n n0 rr hk (be 64 ancX) (be_wfd _ _)) rfl fun r hr => ?_
  rw [anc_open] at hr
  subst hr
  ((conv=>whnf);repeat'((first|(show(_=true→_)∧(_=false→_);first|refine gT ?_|refine gF ?_|refine gS ?_ ?_<;>(intro _h;try contradiction))|(show(_=false→_)∧(_=true→_);first|refine gU ?_|refine gV ?_|refine gZ ?_ ?_<;>(intro _h;try contradiction))|(intro _h;try contradiction)|(show _∧_;refine gA ?_)|fail);all_goals conv=>whnf))
  exact Ends.imm rfl (by simp)


theorem bn_nonneg {m : List Int} (h : wfd m) : 0 ≤ bn m := dval_nonneg h.reverse

def toldKP : AW.Told := ⟨fun _ => false, fun r i => if r == 14 && i == 0 then [7, 14] else [], fun r => if r == 16 then .take 0 (.take 1 (.take 2 (.take 3 (.take 5 (.take 6 (.take 7 (.two 4 (.one 8 (.take 9 (.take 10 (.take 11 (.take 12 .done))))) 8 (.take 4 (.take 9 (.take 10 (.take 11 (.take 12 .done)))))))))))) else .done⟩

theorem modB_right (k : Nat) (hk : k ≤ 3) : notMod (modB k) = 0 := by
  have : k = 0 ∨ k = 1 ∨ k = 2 ∨ k = 3 := by omega
  rcases this with rfl | rfl | rfl | rfl <;> decide +kernel
theorem keyL_le (k : Nat) : 64 ≤ keyL k ∧ keyL k ≤ 256 := by
  unfold keyL
  split <;> omega

end Go.Proofs.YtniaeiikdgbnfaaDoor.R
