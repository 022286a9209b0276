/- Parts K17, K18, K19, K20, K21, K22, K23, K24, S1, S2, S3, S4, S5. No condition of its own. -/
import Derived.Test.YtniaeiikdgbnfaaDoorKO10
import Derived.Test.YtniaeiikdgbnfaaDoorKO6
import Derived.Test.YtniaeiikdgbnfaaDoorKO9

namespace Go.Proofs.YtniaeiikdgbnfaaDoor.R
open Go Go.RowKit Go.Proofs Go.Proofs.YtniaeiikdgbnfaaDoor.AW
set_option linter.unusedSectionVars false
variable [Globs]
set_option maxRecDepth 100000
set_option linter.unusedSimpArgs false
set_option linter.unusedVariables false
set_option maxHeartbeats 4000000

theorem db {p q : Prop} [Decidable p] [Decidable q] (h : p ↔ q) : AVal.d (.bool (decide p)) = bool (decide q) := by
  rw [decide_eq_decide.2 h]

/-- Does a stretch lie within so many bytes? -/
def inside (o l t : Int) : Bool := decide (0 ≤ o ∧ 0 ≤ l ∧ 0 ≤ t ∧ o ≤ t ∧ l ≤ t - o)

theorem k_within (o l t : Int) (ht : t ≤ LIM) : Imm Tryd.prog 96 [i64 o, i64 l, i64 t] (fun r => r = bool (inside o l t)) := by
  unfold LIM at ht
  (refine Imm.of_awp told0 [] Tryd.func96 rfl (by decide) (Nat.le_of_ble_eq_true rfl) ?_; intro _w0 _S0 _E0 _B0; ((conv=>whnf);repeat'((first|(show(_=true→_)∧(_=false→_);first|refine nTt ?_|refine nFf ?_|refine gS ?_ ?_<;>(intro _h;try contradiction))|(show(_=false→_)∧(_=true→_);first|refine nU ?_|refine nV ?_|refine gZ ?_ ?_<;>(intro _h;try contradiction))|(intro _h;try contradiction)|(show _∧_;refine gA ?_)|fail);all_goals conv=>whnf)))
  all_goals refine Ends.imm rfl ?_
  all_goals unfold inside
  all_goals first
    | (rw [decide_eq_false (by omega)]; done)
    | (rw [decide_eq_true (by omega)]; done)
    | exact db (by rw [wrap_i64 (by omega) (by omega)]; omega)

theorem k_equal (a b : List Int) : Imm Tryd.prog 63 [.d (byt a), .d (byt b)] (fun r => r = bool (decide (a = b))) := by
  (refine Imm.of_awp told0 [] Tryd.func63 rfl (by decide) (Nat.le_of_ble_eq_true rfl) ?_; intro _w0 _S0 _E0 _B0; ((conv=>whnf);repeat'((first|(show(_=true→_)∧(_=false→_);first|refine nTt ?_|refine nFf ?_|refine gS ?_ ?_<;>(intro _h;try contradiction))|(show(_=false→_)∧(_=true→_);first|refine nU ?_|refine nV ?_|refine gZ ?_ ?_<;>(intro _h;try contradiction))|(intro _h;try contradiction)|(show _∧_;refine gA ?_)|fail);all_goals conv=>whnf)))
  refine Ends.imm rfl ?_
  exact db Iff.rfl

theorem bn_snoc (xs : List Int) (x : Int) : bn (xs ++ [x]) = bn xs * 256 + x := by
  unfold bn
  rw [List.reverse_append, List.reverse_singleton, List.singleton_append]
  simp only [dval]
  omega
theorem bn_lt {xs : List Int} (h : wfd xs) : bn xs < ((256 ^ xs.length : Nat) : Int) := by
  have a2 := dval_lt h.reverse
  rw [List.length_reverse] at a2
  have e : dpw xs.length = ((256 ^ xs.length : Nat) : Int) := by unfold dpw; push_cast; rfl
  rw [← e]
  exact a2

theorem wrap_u64 {n : Int} (h0 : 0 ≤ n) (h1 : n < 18446744073709551616) : IntKind.u64.wrap n = n := wrap_in.2 ⟨by simp only [loK]; omega, by simp only [hiK]; omega⟩

theorem or_u64 (x c : Int) (hx : 0 ≤ x) (hx2 : x < 72057594037927936) (hc : 0 ≤ c) (hc2 : c < 256) :
    bitsK .or .u64 (IntKind.u64.wrap (x * 2 ^ (min (8 : Int).toNat (IntKind.bits .u64)))) (IntKind.u64.wrap c) = x * 256 + c := by
  obtain ⟨a, rfl⟩ : ∃ a : Nat, x = a := ⟨x.toNat, by omega⟩
  obtain ⟨d, rfl⟩ : ∃ a : Nat, c = a := ⟨c.toNat, by omega⟩
  have e0 : (a : Int) * 2 ^ (min (8 : Int).toNat (IntKind.bits .u64)) = ((a * 256 : Nat) : Int) := by
    rw [show min (8 : Int).toNat (IntKind.bits .u64) = 8 from rfl]; push_cast; rfl
  rw [e0, wrap_u64 (by omega) (by omega), wrap_u64 (by omega) (by omega)]
  have e4 : a * 256 ||| d = a * 256 + d := by
    have := Nat.shiftLeft_add_eq_or_of_lt (show d < 2 ^ 8 by omega) a
    rw [Nat.shiftLeft_eq] at this
    exact this.symm
  have e6 : (BitVec.ofInt 64 ((a * 256 : Nat) : Int) ||| BitVec.ofInt 64 (d : Int)).toNat = a * 256 ||| d := by
    simp only [BitVec.ofInt_natCast, BitVec.toNat_or, BitVec.toNat_ofNat]
    rw [Nat.mod_eq_of_lt (by omega), Nat.mod_eq_of_lt (by omega)]
  show IntKind.u64.wrap ((BitVec.ofInt 64 ((a * 256 : Nat) : Int) ||| BitVec.ofInt 64 (d : Int)).toNat : Int) = _
  rw [e6, e4, wrap_u64 (by omega) (by omega)]
  push_cast
  rfl

/-- So many bytes from a place on. -/
def cutB (b : List Int) (off len : Nat) : List Int := (b.take (off + len)).drop off
theorem cutB_len {b : List Int} {off len : Nat} (h : off + len ≤ b.length) : (cutB b off len).length = len := by simp [cutB]; omega
theorem wfd.cut {b : List Int} (h : wfd b) (off len : Nat) : wfd (cutB b off len) := (h.take _).drop _

/-- What Get answers. -/
def getV (b : List Int) (off size : Nat) : Int × Int :=
  if inside off size b.length = false then (0, 10)
  else if 9223372036854775808 ≤ bn (cutB b off size) then (0, 11) else (bn (cutB b off size), 0)

theorem k_get (b : List Int) (off size : Nat) (hb : wfd b) (hl : b.length ≤ LIM) (ho : off ≤ LIM) (hs : 1 ≤ size ∧ size ≤ 8) :
    Imm Tryd.prog 62 [.d (byt b), i64 off, i64 size] (fun r => r = .tup [i64 (getV b off size).1, i64 (getV b off size).2]) := by
  unfold LIM at hl ho
  (refine Imm.of_awp told0 [] Tryd.func62 rfl (by decide) (Nat.le_of_ble_eq_true rfl) ?_; intro _w0 _S0 _E0 _B0; ((conv=>whnf);repeat'((first|(show(_=true→_)∧(_=false→_);first|refine gT ?_|refine gF ?_|refine gS ?_ ?_<;>(intro _h;try contradiction))|(show(_=false→_)∧(_=true→_);first|refine gU ?_|refine gV ?_|refine gZ ?_ ?_<;>(intro _h;try contradiction))|(intro _h;try contradiction)|(show _∧_;refine gA ?_)|fail);all_goals conv=>whnf)))
  refine acallI (k_within off size b.length (by unfold LIM; omega)) rfl fun r hr => ?_
  subst hr
  cases hin : inside off size b.length with
  | false =>
    ((conv=>whnf);repeat'((first|(show(_=true→_)∧(_=false→_);first|refine gT ?_|refine gF ?_|refine gS ?_ ?_<;>(intro _h;try contradiction))|(show(_=false→_)∧(_=true→_);first|refine gU ?_|refine gV ?_|refine gZ ?_ ?_<;>(intro _h;try contradiction))|(intro _h;try contradiction)|(show _∧_;refine gA ?_)|fail);all_goals conv=>whnf))
    exact Ends.imm rfl (by unfold getV; rw [if_pos hin])
  | true =>
    have hin2 : off + size ≤ b.length := by
      have := of_decide_eq_true hin
      omega
    have e1 : IntKind.i64.wrap ((off : Int) + size) = ((off + size : Nat) : Int) := by rw [wrap_i64 (by omega) (by omega)]; omega
    ((conv=>whnf);repeat'((first|(show(_=true→_)∧(_=false→_);first|refine gT ?_|refine gF ?_|refine gS ?_ ?_<;>(intro _h;try contradiction))|(show(_=false→_)∧(_=true→_);first|refine gU ?_|refine gV ?_|refine gZ ?_ ?_<;>(intro _h;try contradiction))|(intro _h;try contradiction)|(show _∧_;refine gA ?_)|fail);all_goals conv=>whnf))
    obtain ⟨ys, hys⟩ : ∃ ys, ys = cutB b off size := ⟨_, rfl⟩
    have hyl : ys.length = size := by rw [hys]; exact cutB_len hin2
    have hyw : wfd ys := by rw [hys]; exact hb.cut _ _
    refine aloop (T := told0) (ι := Nat) (fun k => [(8, .d (.int .u64 (bn (ys.take k)))), (30, .d (byt ys)), (31, i64 ys.length), (32, i64 k)]) (fun _ => []) 47 0
      (fun k => size - k) (fun k => k ≤ size)
      ⟨0, [], rfl, by omega, by
        (refine ⟨rfl, rfl, ?_, ?_⟩ <;> repeat' (first | exact True.intro | rfl | decide | (refine And.intro ?_ ?_)))
        · show AVal.d (.ints .u8 _) = AVal.d (.ints .u8 ys)
          rw [e1, hys]; rfl
        · show AVal.d (.int .i64 _) = AVal.d (.int .i64 ys.length)
          rw [e1, hys]; rfl⟩ ?_
    intro k hk
    have hlt : bn (ys.take k) < ((256 ^ k : Nat) : Int) := by
      have := bn_lt (hyw.take k)
      rwa [List.length_take, Nat.min_eq_left (by omega)] at this
    have hnn := bn_nonneg (hyw.take k)
    rcases Nat.lt_or_ge k size with hks | hks
    · have hp : 256 ^ k ≤ 256 ^ 7 := Nat.pow_le_pow_right (by omega) (by omega)
      have hg := hyw.get k
      have est : bn (ys.take (k + 1)) = bn (ys.take k) * 256 + ys.getD k 0 := by rw [take_snoc (by omega), bn_snoc]
      ((conv=>whnf);repeat'((first|(show(_=true→_)∧(_=false→_);first|refine gT ?_|refine gF ?_|refine gS ?_ ?_<;>(intro _h;try contradiction))|(show(_=false→_)∧(_=true→_);first|refine gU ?_|refine gV ?_|refine gZ ?_ ?_<;>(intro _h;try contradiction))|(intro _h;try contradiction)|(show _∧_;refine gA ?_)|fail);all_goals conv=>whnf))
      refine ⟨k + 1, [], by omega, by omega, rfl, ?_⟩
      (refine ⟨rfl, rfl, ?_, ?_⟩ <;> repeat' (first | exact True.intro | rfl | decide | (refine And.intro ?_ ?_)))
      · show AVal.d (.int .u64 _) = AVal.d (.int .u64 _)
        rw [est, or_u64 _ _ hnn (by omega) (by rw [Int.toNat_natCast]; exact hg.1) (by rw [Int.toNat_natCast]; omega), Int.toNat_natCast]
      · exact di (by rw [wrap_i64 (by omega) (by omega)]; rfl)
    · have hk' : k = size := by omega
      have hall : ys.take k = ys := List.take_of_length_le (by omega)
      rw [hall] at hlt hnn ⊢
      have hp : 256 ^ k ≤ 256 ^ 8 := Nat.pow_le_pow_right (by omega) (by omega)
      have e63 : min (Int.toNat 63) IntKind.u64.bits = 63 := rfl
      ((conv=>whnf);repeat'((first|(show(_=true→_)∧(_=false→_);first|refine gT ?_|refine gF ?_|refine gS ?_ ?_<;>(intro _h;try contradiction))|(show(_=false→_)∧(_=true→_);first|refine gU ?_|refine gV ?_|refine gZ ?_ ?_<;>(intro _h;try contradiction))|(intro _h;try contradiction)|(show _∧_;refine gA ?_)|fail);all_goals conv=>whnf))
      · refine Ends.imm rfl ?_
        rw [e63] at _h
        unfold getV
        rw [← hys, if_neg (by rw [hin]; simp), if_pos (by omega)]
      · refine Ends.imm rfl ?_
        rw [e63] at _h
        unfold getV
        rw [← hys, if_neg (by rw [hin]; simp), if_neg (by omega), wrap_i64 (by omega) (by omega)]

theorem u8w (n : Nat) : IntKind.u8.wrap (n : Int) = ((n % 256 : Nat) : Int) := by
  simp [IntKind.wrap, IntKind.bits, IntKind.signed]

theorem of_notMod {m : List Int} (h : notMod m = 0) : (64 ≤ m.length ∧ m.length ≤ 512 ∧ m.length % 64 = 0) ∧ ¬ m.getD 0 0 < 128 ∧ ¬ m.getD (m.length - 1) 0 % 2 = 0 := by
  unfold notMod at h
  cases hs : sized m.length with
  | false => rw [hs] at h; simp at h
  | true =>
    refine ⟨sized_spec.1 hs, ?_⟩
    rw [hs, if_neg (by simp)] at h
    split at h
    · omega
    · rename_i h2
      exact ⟨fun h => h2 (.inl h), fun h => h2 (.inr h)⟩


/-- -1 through an odd number, bit by bit. -/
def n0rec (low : Nat) : Nat → Nat
  | 0 => 0
  | k + 1 => if (n0rec low k * low + 1) / 2 ^ k % 2 = 1 then n0rec low k + 2 ^ k else n0rec low k

theorem n0rec_lt (low : Nat) : ∀ k, n0rec low k < 2 ^ k
  | 0 => by simp [n0rec]
  | k + 1 => by
    have := n0rec_lt low k
    simp only [n0rec]
    rw [Nat.pow_succ]
    split <;> omega

theorem n0rec_inv (low : Nat) (hl : low % 2 = 1) : ∀ k, (n0rec low k * low + 1) % 2 ^ k = 0
  | 0 => by simp [Nat.mod_one]
  | k + 1 => by
    have ih := n0rec_inv low hl k
    simp only [n0rec]
    obtain ⟨q, hq⟩ := Nat.dvd_of_mod_eq_zero ih
    have hp : 0 < 2 ^ k := Nat.two_pow_pos k
    have hd : (n0rec low k * low + 1) / 2 ^ k = q := by rw [hq, Nat.mul_div_cancel_left _ hp]
    rw [hd, Nat.pow_succ]
    split
    · rename_i h
      have e : (n0rec low k + 2 ^ k) * low + 1 = 2 ^ k * (q + low) := by
        rw [Nat.add_mul, Nat.mul_add, ← hq]; omega
      rw [e, Nat.mul_mod_mul_left]
      have : (q + low) % 2 = 0 := by omega
      rw [this, Nat.mul_zero]
    · rename_i h
      rw [hq, Nat.mul_mod_mul_left]
      have : q % 2 = 0 := by omega
      rw [this, Nat.mul_zero]

/-- The lowest limb of bytes. -/
def lowL (m : List Int) : Nat := (bn (m.drop (m.length - 4))).toNat


/-- A right modulus' key's bytes. -/
def keyC (m : List Int) : List Int := be 4 (8 * m.length) ++ be 4 (n0rec (lowL m) 32) ++ m ++ be m.length (2 ^ (16 * m.length) % (bn m).toNat)

theorem keyC_len (m : List Int) : (keyC m).length = 8 + 2 * m.length := by
  simp [keyC, be_length]; omega
theorem keyC_wfd {m : List Int} (hm : wfd m) : wfd (keyC m) := (((be_wfd _ _).append (be_wfd _ _)).append hm).append (be_wfd _ _)

theorem bn_append (xs ys : List Int) : bn (xs ++ ys) = bn xs * ((256 ^ ys.length : Nat) : Int) + bn ys := by
  unfold bn
  rw [List.reverse_append, dval_append, List.length_reverse]
  have e : dpw ys.length = ((256 ^ ys.length : Nat) : Int) := by unfold dpw; push_cast; rfl
  rw [e]
  grind

theorem lowL_eq {m : List Int} (hm : wfd m) (hl : 4 ≤ m.length) : ((lowL m : Nat) : Int) = bn m % 4294967296 := by
  have h1 := bn_append (m.take (m.length - 4)) (m.drop (m.length - 4))
  rw [List.take_append_drop] at h1
  have hdl : (m.drop (m.length - 4)).length = 4 := by simp; omega
  have h2 := bn_lt (hm.drop (m.length - 4))
  have h3 := bn_nonneg (hm.drop (m.length - 4))
  rw [hdl] at h1 h2
  unfold lowL
  have e : ((256 ^ 4 : Nat) : Int) = 4294967296 := rfl
  rw [e] at h1 h2
  omega

theorem inv_uniq {P low u v : Nat} (hc : Nat.Coprime P low) (hu : u < P) (hv : v < P) (h1 : (u * low + 1) % P = 0) (h2 : (low * v + 1) % P = 0) : v = u := by
  obtain ⟨c, hc1⟩ := Nat.dvd_of_mod_eq_zero h1
  obtain ⟨d, hd1⟩ := Nat.dvd_of_mod_eq_zero h2
  have a : (P : Int) ∣ (low : Int) * ((v : Int) - u) := by
    have e1 : ((u * low + 1 : Nat) : Int) = ((P * c : Nat) : Int) := by rw [hc1]
    have e2 : ((low * v + 1 : Nat) : Int) = ((P * d : Nat) : Int) := by rw [hd1]
    simp only [Int.natCast_add, Int.natCast_mul] at e1 e2
    exact ⟨d - c, by grind⟩
  have b : P ∣ low * ((v : Int) - u).natAbs := by
    have := Int.ofNat_dvd_left.1 a
    rwa [Int.natAbs_mul, Int.natAbs_natCast] at this
  have e := hc.dvd_of_dvd_mul_left b
  rcases Nat.eq_zero_or_pos ((v : Int) - u).natAbs with h | h
  · omega
  · have := Nat.le_of_dvd h e
    omega
theorem cop_two {low : Nat} (h : low % 2 = 1) (k : Nat) : Nat.Coprime (2 ^ k) low := by
  refine Nat.Coprime.pow_left k ?_
  show Nat.gcd 2 low = 1
  rw [Nat.gcd_rec, h]; rfl

theorem key_eq {m n : List Int} {n0 : Int} {rr : List Int} (h : Key m n n0 rr) : keyBytes m n0 rr = keyC m := by
  have hl := h.len
  obtain ⟨h1, h2, h3, hs⟩ := h.pos
  have hr := h.ring
  have hmr := of_notMod h.right
  have elow : n.getD 0 0 = (lowL m : Nat) := by
    rw [lowL_eq h.wf (by omega), ← h.val]
    have := val_step n
    have hg := hr.hn.get 0
    omega
  have hodd : lowL m % 2 = 1 := by
    have := bn_odd m (by omega)
    have h4 := lowL_eq h.wf (by omega)
    omega
  have i1 := n0rec_inv (lowL m) hodd 32
  have i2 := n0rec_lt (lowL m) 32
  have i3 := hr.hinv
  have i4 := hr.hn0
  obtain ⟨v, hv⟩ : ∃ v : Nat, n0 = v := ⟨n0.toNat, by omega⟩
  have ev : v = n0rec (lowL m) 32 := by
    rw [elow, hv] at i3
    rw [hv] at i4
    have e32 : (2 : Nat) ^ 32 = 4294967296 := by decide
    have c := cop_two hodd 32
    rw [e32] at c i1 i2
    refine inv_uniq c i2 (by omega) i1 ?_
    have i5 : ((lowL m * v + 1 : Nat) : Int) % ((4294967296 : Nat) : Int) = 0 := by
      rw [Int.natCast_add, Int.natCast_mul]
      exact i3
    exact Int.ofNat.inj ((Int.natCast_emod _ _).trans i5)
  have er : (val rr).toNat = 2 ^ (16 * m.length) % (bn m).toNat := by
    obtain ⟨Q, hQ⟩ := hr.hrr
    have b1 := val_nonneg hr.hr
    have b2 := hr.hrv
    rw [h.val] at hQ b2
    have b3 : pw n.length * pw n.length = ((2 ^ (16 * m.length) : Nat) : Int) := by
      rw [← pw_add, pw_two, hl]
      push_cast
      congr 1
      omega
    rw [b3] at hQ
    obtain ⟨M, hM⟩ : ∃ M : Nat, bn m = M := ⟨(bn m).toNat, by omega⟩
    obtain ⟨V, hV⟩ : ∃ V : Nat, val rr = V := ⟨(val rr).toNat, by omega⟩
    rw [hM, hV] at hQ b2
    rw [hM, hV]
    have b4 : (((2 ^ (16 * m.length) : Nat) : Int)) % (M : Int) = V := by
      rw [hQ, Int.add_mul_emod_self_right, Int.emod_eq_of_lt (by omega) b2]
    have b5 : ((2 ^ (16 * m.length) % M : Nat) : Int) = (V : Int) := by rw [Int.natCast_emod]; exact b4
    show V = 2 ^ (16 * m.length) % M
    omega
  unfold keyBytes keyC
  rw [er, hv, Int.toNat_natCast, ev]
  simp


def bitsOf (b : List Int) : Int := bn (cutB b 0 4)
def keySize (b : List Int) : Nat := (bitsOf b / 8).toNat
/-- The modulus that stands in a key's bytes. -/
def keyMod (b : List Int) : List Int := cutB b 8 (keySize b)
/-- What isn't right of a key's bytes. -/
def keyErr (b : List Int) : Int :=
  if b.length < 8 then 10
  else if bitsOf b % 8 ≠ 0 ∨ sized (keySize b) = false then 21
  else if b.length < 8 + 2 * keySize b then 10
  else if 8 + 2 * keySize b < b.length then 12
  else if notMod (keyMod b) ≠ 0 ∨ keyC (keyMod b) ≠ b then 22 else 0

theorem bits_range {b : List Int} (hb : wfd b) : 0 ≤ bitsOf b ∧ bitsOf b < 4294967296 := by
  refine ⟨bn_nonneg (hb.cut _ _), ?_⟩
  have h := bn_lt (hb.cut 0 4)
  have h2 : (cutB b 0 4).length ≤ 4 := by simp [cutB]; omega
  have h3 : 256 ^ (cutB b 0 4).length ≤ 256 ^ 4 := Nat.pow_le_pow_right (by omega) h2
  show bn (cutB b 0 4) < 4294967296
  omega
theorem get_bits {b : List Int} (hb : wfd b) (hl : 8 ≤ b.length) : getV b 0 4 = (bitsOf b, 0) := by
  have h := bits_range hb
  unfold getV
  rw [if_neg, if_neg]
  · rfl
  · show ¬ 9223372036854775808 ≤ bitsOf b
    omega
  · unfold inside
    rw [decide_eq_true (by omega)]; simp

theorem k_parse (b : List Int) (hb : wfd b) (hl : b.length ≤ 100000) : Imm Tryd.prog 28 [.d (byt b)] (fun r =>
    if keyErr b ≠ 0 then r = .tup [.d .nilp, i64 (keyErr b)] else ∃ n n0 rr, r = .tup [.d (keyD (keyMod b) n n0 rr), i64 0] ∧ Key (keyMod b) n n0 rr) := by
  have hbr := bits_range hb
  have hks : ((keySize b : Nat) : Int) = bitsOf b / 8 := by unfold keySize; omega
  (refine Imm.of_awp told0 [] Tryd.func28 rfl (by decide) (Nat.le_of_ble_eq_true rfl) ?_; intro _w0 _S0 _E0 _B0; ((conv=>whnf);repeat'((first|(show(_=true→_)∧(_=false→_);first|refine nTt ?_|refine nFf ?_|refine gS ?_ ?_<;>(intro _h;try contradiction))|(show(_=false→_)∧(_=true→_);first|refine nU ?_|refine nV ?_|refine gZ ?_ ?_<;>(intro _h;try contradiction))|(intro _h;try contradiction)|(show _∧_;refine gA ?_)|fail);all_goals conv=>whnf)))
  · refine Ends.imm rfl ?_
    have e : keyErr b = 10 := by unfold keyErr; rw [if_pos (by omega)]
    rw [e, if_pos (by decide)]
  have h8 : 8 ≤ b.length := by omega
  refine acallI (k_get b 0 4 hb (by unfold LIM; omega) (by unfold LIM; omega) (by omega)) rfl fun r hr => ?_
  rw [get_bits hb h8] at hr
  subst hr
  have e1 : IntKind.i64.wrap ((bitsOf b).tdiv 8) = (keySize b : Nat) := by rw [Int.tdiv_eq_ediv_of_nonneg (by omega), wrap_i64 (by omega) (by omega), hks]
  have e2 : (bitsOf b).tmod 8 = bitsOf b % 8 := Int.tmod_eq_emod_of_nonneg hbr.1
  have err21 : bitsOf b % 8 ≠ 0 ∨ sized (keySize b) = false → keyErr b = 21 := fun h => by unfold keyErr; rw [if_neg (by omega), if_pos h]
  by_cases t0 : (bitsOf b).tmod 8 = 0
  rotate_left
  · ((conv=>whnf);repeat'((first|(show(_=true→_)∧(_=false→_);first|refine gT ?_|refine gF ?_|refine gS ?_ ?_<;>(intro _h;try contradiction))|(show(_=false→_)∧(_=true→_);first|refine gU ?_|refine gV ?_|refine gZ ?_ ?_<;>(intro _h;try contradiction))|(intro _h;try contradiction)|(show _∧_;refine gA ?_)|fail);all_goals conv=>whnf))
    refine Ends.imm rfl ?_
    rw [e2] at t0
    rw [err21 (.inl t0), if_pos (by decide)]
  ((conv=>whnf);repeat'((first|(show(_=true→_)∧(_=false→_);first|refine gT ?_|refine gF ?_|refine gS ?_ ?_<;>(intro _h;try contradiction))|(show(_=false→_)∧(_=true→_);first|refine gU ?_|refine gV ?_|refine gZ ?_ ?_<;>(intro _h;try contradiction))|(intro _h;try contradiction)|(show _∧_;refine gA ?_)|fail);all_goals conv=>whnf))
  rw [e1]
  refine acallI (k_sized (keySize b) (by unfold LIM; omega)) rfl fun r hr => ?_
  subst hr
  cases hsz : sized (keySize b) with
  | false =>
    ((conv=>whnf);repeat'((first|(show(_=true→_)∧(_=false→_);first|refine gT ?_|refine gF ?_|refine gS ?_ ?_<;>(intro _h;try contradiction))|(show(_=false→_)∧(_=true→_);first|refine gU ?_|refine gV ?_|refine gZ ?_ ?_<;>(intro _h;try contradiction))|(intro _h;try contradiction)|(show _∧_;refine gA ?_)|fail);all_goals conv=>whnf))
    refine Ends.imm rfl ?_
    rw [err21 (.inr hsz), if_pos (by decide)]
  | true =>
    have ⟨s1, s2, s3⟩ := sized_spec.1 hsz
    have m1 : ¬ (bitsOf b % 8 ≠ 0 ∨ sized (keySize b) = false) := fun h => by
      rcases h with h | h
      · omega
      · rw [hsz] at h; cases h
    have e3 : IntKind.i64.wrap (2 * ((keySize b : Nat) : Int)) = ((2 * keySize b : Nat) : Int) := by rw [wrap_i64 (by omega) (by omega)]; omega
    have e4 : IntKind.i64.wrap (8 + ((2 * keySize b : Nat) : Int)) = ((8 + 2 * keySize b : Nat) : Int) := by rw [wrap_i64 (by omega) (by omega)]; omega
    have e5 : IntKind.i64.wrap (8 + ((keySize b : Nat) : Int)) = ((8 + keySize b : Nat) : Int) := by rw [wrap_i64 (by omega) (by omega)]; omega
    by_cases l1 : b.length < 8 + 2 * keySize b
    · have l1' : (b.length : Int) < IntKind.i64.wrap (8 + IntKind.i64.wrap (2 * ((keySize b : Nat) : Int))) := by rw [e3, e4]; omega
      ((conv=>whnf);repeat'((first|(show(_=true→_)∧(_=false→_);first|refine gT ?_|refine gF ?_|refine gS ?_ ?_<;>(intro _h;try contradiction))|(show(_=false→_)∧(_=true→_);first|refine gU ?_|refine gV ?_|refine gZ ?_ ?_<;>(intro _h;try contradiction))|(intro _h;try contradiction)|(show _∧_;refine gA ?_)|fail);all_goals conv=>whnf))
      refine Ends.imm rfl ?_
      have e : keyErr b = 10 := by unfold keyErr; rw [if_neg (by omega), if_neg m1, if_pos l1]
      rw [e, if_pos (by decide)]
    · have l1' : ¬ (b.length : Int) < IntKind.i64.wrap (8 + IntKind.i64.wrap (2 * ((keySize b : Nat) : Int))) := by rw [e3, e4]; omega
      by_cases l2 : 8 + 2 * keySize b < b.length
      · have l2' : IntKind.i64.wrap (8 + IntKind.i64.wrap (2 * ((keySize b : Nat) : Int))) < (b.length : Int) := by rw [e3, e4]; omega
        ((conv=>whnf);repeat'((first|(show(_=true→_)∧(_=false→_);first|refine gT ?_|refine gF ?_|refine gS ?_ ?_<;>(intro _h;try contradiction))|(show(_=false→_)∧(_=true→_);first|refine gU ?_|refine gV ?_|refine gZ ?_ ?_<;>(intro _h;try contradiction))|(intro _h;try contradiction)|(show _∧_;refine gA ?_)|fail);all_goals conv=>whnf))
        refine Ends.imm rfl ?_
        have e : keyErr b = 12 := by unfold keyErr; rw [if_neg (by omega), if_neg m1, if_neg l1, if_pos l2]
        rw [e, if_pos (by decide)]
      · have l2' : ¬ IntKind.i64.wrap (8 + IntKind.i64.wrap (2 * ((keySize b : Nat) : Int))) < (b.length : Int) := by rw [e3, e4]; omega
        ((conv=>whnf);repeat'((first|(show(_=true→_)∧(_=false→_);first|refine gT ?_|refine gF ?_|refine gS ?_ ?_<;>(intro _h;try contradiction))|(show(_=false→_)∧(_=true→_);first|refine gU ?_|refine gV ?_|refine gZ ?_ ?_<;>(intro _h;try contradiction))|(intro _h;try contradiction)|(show _∧_;refine gA ?_)|fail);all_goals conv=>whnf))
        have hcut : AVal.d (.ints .u8 ((b.take (IntKind.i64.wrap (8 + ((keySize b : Nat) : Int))).toNat).drop (Int.toNat 8))) = .d (byt (keyMod b)) := by rw [e5]; rfl
        have hml : (keyMod b).length = keySize b := cutB_len (by omega)
        refine acallI (k_make (keyMod b) (hb.cut _ _) (by unfold LIM; omega)) (by rw [← hcut]; rfl) fun r hr => ?_
        have err22 : notMod (keyMod b) ≠ 0 ∨ keyC (keyMod b) ≠ b → keyErr b = 22 := fun h => by unfold keyErr; rw [if_neg (by omega), if_neg m1, if_neg l1, if_neg l2, if_pos h]
        by_cases hn : notMod (keyMod b) ≠ 0
        · rw [if_pos hn] at hr
          subst hr
          ((conv=>whnf);repeat'((first|(show(_=true→_)∧(_=false→_);first|refine gT ?_|refine gF ?_|refine gS ?_ ?_<;>(intro _h;try contradiction))|(show(_=false→_)∧(_=true→_);first|refine gU ?_|refine gV ?_|refine gZ ?_ ?_<;>(intro _h;try contradiction))|(intro _h;try contradiction)|(show _∧_;refine gA ?_)|fail);all_goals conv=>whnf))
          refine Ends.imm rfl ?_
          rw [err22 (.inl hn), if_pos (by decide)]
        · rw [if_neg hn] at hr
          obtain ⟨n, n0, rr, rfl, hk⟩ := hr
          ((conv=>whnf);repeat'((first|(show(_=true→_)∧(_=false→_);first|refine gT ?_|refine gF ?_|refine gS ?_ ?_<;>(intro _h;try contradiction))|(show(_=false→_)∧(_=true→_);first|refine gU ?_|refine gV ?_|refine gZ ?_ ?_<;>(intro _h;try contradiction))|(intro _h;try contradiction)|(show _∧_;refine gA ?_)|fail);all_goals conv=>whnf))
          refine acallI (k_keyBytes (keyMod b) n n0 rr hk) rfl fun r hr => ?_
          rw [key_eq hk] at hr
          subst hr
          ((conv=>whnf);repeat'((first|(show(_=true→_)∧(_=false→_);first|refine gT ?_|refine gF ?_|refine gS ?_ ?_<;>(intro _h;try contradiction))|(show(_=false→_)∧(_=true→_);first|refine gU ?_|refine gV ?_|refine gZ ?_ ?_<;>(intro _h;try contradiction))|(intro _h;try contradiction)|(show _∧_;refine gA ?_)|fail);all_goals conv=>whnf))
          refine acallI (k_equal (keyC (keyMod b)) b) rfl fun r hr => ?_
          subst hr
          by_cases hc : keyC (keyMod b) = b
          · have e0 : keyErr b = 0 := by unfold keyErr; rw [if_neg (by omega), if_neg m1, if_neg l1, if_neg l2, if_neg (fun h => h.elim hn (fun h => h hc))]
            ((conv=>whnf);repeat'((first|(show(_=true→_)∧(_=false→_);first|refine gT ?_|refine gF ?_|refine gS ?_ ?_<;>(intro _h;try contradiction))|(show(_=false→_)∧(_=true→_);first|refine gU ?_|refine gV ?_|refine gZ ?_ ?_<;>(intro _h;try contradiction))|(intro _h;try contradiction)|(show _∧_;refine gA ?_)|fail);all_goals conv=>whnf))
            refine Ends.imm rfl ?_
            rw [e0, if_neg (by simp)]
            exact ⟨n, n0, rr, rfl, hk⟩
          · ((conv=>whnf);repeat'((first|(show(_=true→_)∧(_=false→_);first|refine gT ?_|refine gF ?_|refine gS ?_ ?_<;>(intro _h;try contradiction))|(show(_=false→_)∧(_=true→_);first|refine gU ?_|refine gV ?_|refine gZ ?_ ?_<;>(intro _h;try contradiction))|(intro _h;try contradiction)|(show _∧_;refine gA ?_)|fail);all_goals conv=>whnf))
            refine Ends.imm rfl ?_
            rw [err22 (.inr hc), if_pos (by decide)]

def toldRP : AW.Told := ⟨fun _ => false, fun _ _ => [], fun r => if r == 16 then .take 0 (.one 1 (.take 2 (.take 3 (.take 4 (.take 7 (.take 8 (.one 5 (.take 6 (.take 9 (.take 10 .done)))))))))) else .done⟩


def toldLKP : AW.Told := ⟨fun _ => false, fun _ _ => [], fun r => if r == 9 then .take 0 (.take 1 (.take 2 (.take 3 (.take 4 (.take 5 (.take 6 (.take 7 (.take 10 (.take 11 (.one 8 (.take 9 (.take 12 (.take 13 (.take 14 (.take 15 (.take 18 (.take 19 (.one 16 (.take 17 (.take 20 (.take 21 (.take 22 .done)))))))))))))))))))))) else .done⟩


theorem k_concatO (xss : List (List Int)) (h0 : 0 < xss.flatten.length) (hl : xss.flatten.length ≤ 1000000) (hx : xss.length ≤ 1000000) :
    CSpec Tryd.prog 67 [.d (.sl 1 (xss.map byt))] [] 0 (fun st nx r => st = [(0, .row .u8 5 xss.flatten)] ∧ nx = 1 ∧ r = .own 0) := by
  refine CSpec.ends (CSpec.of_awp told0 [] Tryd.func67 rfl (by decide) (Nat.le_of_ble_eq_true rfl) fun _w0 _S0 _E0 _B0 => ?_)
  ((conv=>whnf);repeat'((first|(show(_=true→_)∧(_=false→_);first|refine nTt ?_|refine nFf ?_|refine gS ?_ ?_<;>(intro _h;try contradiction))|(show(_=false→_)∧(_=true→_);first|refine nU ?_|refine nV ?_|refine gZ ?_ ?_<;>(intro _h;try contradiction))|(intro _h;try contradiction)|(show _∧_;refine gA ?_)|fail);all_goals conv=>whnf))
  refine aloop (T := told0) (fun k : Nat => [(0, .d (.sl 1 (xss.map byt))), (3, i64 (xss.take k).flatten.length), (9, .d (.sl 1 (xss.map byt))), (10, i64 xss.length), (11, i64 k)]) (fun _ => []) 36 0 (fun k => xss.length - k) (fun k => k ≤ xss.length)
    ⟨0, [], rfl, Nat.zero_le _, by (refine ⟨rfl, rfl, ?_, ?_⟩ <;> repeat' (first | exact True.intro | rfl | decide | (refine And.intro ?_ ?_))); simp [AW.upd, renV]⟩ ?_
  intro k hk
  have hf1 := flat_le xss (k + 1)
  rcases Nat.lt_or_ge k xss.length with hkl | hkl
  · have hfk := flat_take xss k hkl
    have hlen : (xss.take (k + 1)).flatten.length = (xss.take k).flatten.length + (xss.getD k []).length := by rw [hfk, List.length_append]
    have e1 : IntKind.i64.wrap (((xss.take k).flatten.length : Int) + (xss.getD k []).length) = ((xss.take (k + 1)).flatten.length : Nat) := by
      rw [wrap_i64 (by omega) (by omega)]; omega
    ((conv=>whnf);repeat'((first|(show(_=true→_)∧(_=false→_);first|refine gT ?_|refine gF ?_|refine gS ?_ ?_<;>(intro _h;try contradiction))|(show(_=false→_)∧(_=true→_);first|refine gU ?_|refine gV ?_|refine gZ ?_ ?_<;>(intro _h;try contradiction))|(intro _h;try contradiction)|(show _∧_;refine gA ?_)|fail);all_goals conv=>whnf))
    rw [Int.toNat_natCast, getD_map byt xss k [] default (by omega)]
    ((conv=>whnf);repeat'((first|(show(_=true→_)∧(_=false→_);first|refine gT ?_|refine gF ?_|refine gS ?_ ?_<;>(intro _h;try contradiction))|(show(_=false→_)∧(_=true→_);first|refine gU ?_|refine gV ?_|refine gZ ?_ ?_<;>(intro _h;try contradiction))|(intro _h;try contradiction)|(show _∧_;refine gA ?_)|fail);all_goals conv=>whnf))
    refine ⟨k + 1, [], by omega, by omega, rfl, ?_⟩
    (refine ⟨rfl, rfl, ?_, ?_⟩ <;> repeat' (first | exact True.intro | rfl | decide | (refine And.intro ?_ ?_)))
    · exact di e1
    · exact di (by rw [wrap_i64 (by omega) (by omega)]; rfl)
  · have hk' : k = xss.length := by omega
    subst hk'
    rw [List.take_length]
    ((conv=>whnf);repeat'((first|(show(_=true→_)∧(_=false→_);first|refine gT ?_|refine gF ?_|refine gS ?_ ?_<;>(intro _h;try contradiction))|(show(_=false→_)∧(_=true→_);first|refine gU ?_|refine gV ?_|refine gZ ?_ ?_<;>(intro _h;try contradiction))|(intro _h;try contradiction)|(show _∧_;refine gA ?_)|fail);all_goals conv=>whnf))
    refine acall [] (k_grow xss.flatten.length h0 hl) rfl (by simp [stIn]) rfl (fun _ => rfl) ?_
    rintro st nx r ⟨rfl, rfl, rfl⟩
    ((conv=>whnf);repeat'((first|(show(_=true→_)∧(_=false→_);first|refine gT ?_|refine gF ?_|refine gS ?_ ?_<;>(intro _h;try contradiction))|(show(_=false→_)∧(_=true→_);first|refine gU ?_|refine gV ?_|refine gZ ?_ ?_<;>(intro _h;try contradiction))|(intro _h;try contradiction)|(show _∧_;refine gA ?_)|fail);all_goals conv=>whnf))
    refine aloop (T := told0) (fun k : Nat => [(0, .d (.sl 1 (xss.map byt))), (6, .own 0), (25, .d (.sl 1 (xss.map byt))), (26, i64 xss.length), (27, i64 k)]) (fun k => [(0, .row .u8 5 (xss.take k).flatten)]) 36 1 (fun k => xss.length - k) (fun k => k ≤ xss.length)
      ⟨0, [0], rfl, Nat.zero_le _, by (refine ⟨rfl, rfl, ?_, ?_⟩ <;> repeat' (first | exact True.intro | rfl | decide | (refine And.intro ?_ ?_))); simp [AW.upd, renV]⟩ ?_
    intro k hk
    have hf1 := flat_le xss (k + 1)
    rcases Nat.lt_or_ge k xss.length with hkl | hkl
    · have hfk := flat_take xss k hkl
      have hlen : (xss.take (k + 1)).flatten.length = (xss.take k).flatten.length + (xss.getD k []).length := by rw [hfk, List.length_append]
      ((conv=>whnf);repeat'((first|(show(_=true→_)∧(_=false→_);first|refine gT ?_|refine gF ?_|refine gS ?_ ?_<;>(intro _h;try contradiction))|(show(_=false→_)∧(_=true→_);first|refine gU ?_|refine gV ?_|refine gZ ?_ ?_<;>(intro _h;try contradiction))|(intro _h;try contradiction)|(show _∧_;refine gA ?_)|fail);all_goals conv=>whnf))
      rw [Int.toNat_natCast, getD_map byt xss k [] default (by omega)]
      ((conv=>whnf);repeat'((first|(show(_=true→_)∧(_=false→_);first|refine gT ?_|refine gF ?_|refine gS ?_ ?_<;>(intro _h;try contradiction))|(show(_=false→_)∧(_=true→_);first|refine gU ?_|refine gV ?_|refine gZ ?_ ?_<;>(intro _h;try contradiction))|(intro _h;try contradiction)|(show _∧_;refine gA ?_)|fail);all_goals conv=>whnf))
      refine ⟨by show ((xss.take k).flatten.length + (xss.getD k []).length) * 1 ≤ 140737488355328; omega, ?_⟩
      ((conv=>whnf);repeat'((first|(show(_=true→_)∧(_=false→_);first|refine gT ?_|refine gF ?_|refine gS ?_ ?_<;>(intro _h;try contradiction))|(show(_=false→_)∧(_=true→_);first|refine gU ?_|refine gV ?_|refine gZ ?_ ?_<;>(intro _h;try contradiction))|(intro _h;try contradiction)|(show _∧_;refine gA ?_)|fail);all_goals conv=>whnf))
      refine ⟨k + 1, [0], by omega, by omega, rfl, ?_⟩
      (refine ⟨rfl, rfl, ?_, ?_⟩ <;> repeat' (first | exact True.intro | rfl | decide | (refine And.intro ?_ ?_)))
      · exact di (by rw [wrap_i64 (by omega) (by omega)]; rfl)
      · show some (Ob.row .u8 _ _) = some (Ob.row .u8 _ _)
        rw [hfk]
    · have hk' : k = xss.length := by omega
      subst hk'
      rw [List.take_length]
      ((conv=>whnf);repeat'((first|(show(_=true→_)∧(_=false→_);first|refine gT ?_|refine gF ?_|refine gS ?_ ?_<;>(intro _h;try contradiction))|(show(_=false→_)∧(_=true→_);first|refine gU ?_|refine gV ?_|refine gZ ?_ ?_<;>(intro _h;try contradiction))|(intro _h;try contradiction)|(show _∧_;refine gA ?_)|fail);all_goals conv=>whnf))
      exact ⟨[0], [(0, .row .u8 5 xss.flatten)], .own 0, ⟨rfl, ⟨⟨by decide, rfl⟩, trivial⟩, rfl⟩, rfl, rfl, rfl⟩

theorem k_keyBytesO (m n : List Int) (n0 : Int) (rr : List Int) (h : Key m n n0 rr) : CSpec Tryd.prog 30 [.d (keyD m n n0 rr)] [] 0 (fun st nx r => st = [(0, .row .u8 5 (keyBytes m n0 rr))] ∧ nx = 1 ∧ r = .own 0) := by
  obtain ⟨h1, h2, h3, hs⟩ := h.pos
  have hl := h.len
  have w1 : IntKind.i64.wrap (8 * (m.length : Int)) = ((8 * m.length : Nat) : Int) := by rw [wrap_i64 (by omega) (by omega)]; omega
  have hn0 := h.ring.hn0
  obtain ⟨v, hv⟩ : ∃ v : Nat, n0 = v := ⟨n0.toNat, by omega⟩
  refine CSpec.ends (CSpec.of_awp toldKB [] Tryd.func30 rfl (by decide) (Nat.le_of_ble_eq_true rfl) fun _w0 _S0 _E0 _B0 => ?_)
  ((conv=>whnf);repeat'((first|(show(_=true→_)∧(_=false→_);first|refine nTt ?_|refine nFf ?_|refine gS ?_ ?_<;>(intro _h;try contradiction))|(show(_=false→_)∧(_=true→_);first|refine nU ?_|refine nV ?_|refine gZ ?_ ?_<;>(intro _h;try contradiction))|(intro _h;try contradiction)|(show _∧_;refine gA ?_)|fail);all_goals conv=>whnf))
  refine acallI (k_size m n n0 rr) rfl fun r hr => ?_
  subst hr
  ((conv=>whnf);repeat'((first|(show(_=true→_)∧(_=false→_);first|refine gT ?_|refine gF ?_|refine gS ?_ ?_<;>(intro _h;try contradiction))|(show(_=false→_)∧(_=true→_);first|refine gU ?_|refine gV ?_|refine gZ ?_ ?_<;>(intro _h;try contradiction))|(intro _h;try contradiction)|(show _∧_;refine gA ?_)|fail);all_goals conv=>whnf))
  rw [w1]
  refine acallI (k_putN 4 (8 * m.length) (by omega) (by omega) (by omega)) rfl fun r hr => ?_
  unfold putQ at hr
  subst hr
  ((conv=>whnf);repeat'((first|(show(_=true→_)∧(_=false→_);first|refine gT ?_|refine gF ?_|refine gS ?_ ?_<;>(intro _h;try contradiction))|(show(_=false→_)∧(_=true→_);first|refine gU ?_|refine gV ?_|refine gZ ?_ ?_<;>(intro _h;try contradiction))|(intro _h;try contradiction)|(show _∧_;refine gA ?_)|fail);all_goals conv=>whnf))
  refine acallI (k_n0 n n0 rr hn0) rfl fun r hr => ?_
  subst hr
  ((conv=>whnf);repeat'((first|(show(_=true→_)∧(_=false→_);first|refine gT ?_|refine gF ?_|refine gS ?_ ?_<;>(intro _h;try contradiction))|(show(_=false→_)∧(_=true→_);first|refine gU ?_|refine gV ?_|refine gZ ?_ ?_<;>(intro _h;try contradiction))|(intro _h;try contradiction)|(show _∧_;refine gA ?_)|fail);all_goals conv=>whnf))
  refine acallI (k_put 4 v (by omega) (by omega) (by omega) ([] ++ be 4 (8 * m.length)) (fun h => by have := congrArg List.length h; simp [be_length] at this) (by simp [be_length])) (by rw [hv]; rfl) fun r hr => ?_
  unfold putQ at hr
  subst hr
  ((conv=>whnf);repeat'((first|(show(_=true→_)∧(_=false→_);first|refine gT ?_|refine gF ?_|refine gS ?_ ?_<;>(intro _h;try contradiction))|(show(_=false→_)∧(_=true→_);first|refine gU ?_|refine gV ?_|refine gZ ?_ ?_<;>(intro _h;try contradiction))|(intro _h;try contradiction)|(show _∧_;refine gA ?_)|fail);all_goals conv=>whnf))
  refine acallI (k_rr n n0 rr (fun h' => by have := h.ring.hrl; rw [h'] at this; simp at this; omega) (by have := h.ring.hrl; omega)) rfl fun r hr => ?_
  subst hr
  ((conv=>whnf);repeat'((first|(show(_=true→_)∧(_=false→_);first|refine gT ?_|refine gF ?_|refine gS ?_ ?_<;>(intro _h;try contradiction))|(show(_=false→_)∧(_=true→_);first|refine gU ?_|refine gV ?_|refine gZ ?_ ?_<;>(intro _h;try contradiction))|(intro _h;try contradiction)|(show _∧_;refine gA ?_)|fail);all_goals conv=>whnf))
  refine acallI (k_size m n n0 rr) rfl fun r hr => ?_
  subst hr
  ((conv=>whnf);repeat'((first|(show(_=true→_)∧(_=false→_);first|refine gT ?_|refine gF ?_|refine gS ?_ ?_<;>(intro _h;try contradiction))|(show(_=false→_)∧(_=true→_);first|refine gU ?_|refine gV ?_|refine gZ ?_ ?_<;>(intro _h;try contradiction))|(intro _h;try contradiction)|(show _∧_;refine gA ?_)|fail);all_goals conv=>whnf))
  have hrl := h.ring.hrl
  refine acallI (k_bytes rr m.length h.ring.hr ?_ (by omega) ?_) rfl fun r hr => ?_
  · unfold bad
    rw [hrl, decide_eq_false (by omega), decide_eq_false (by omega)]
    rfl
  · have a1 := h.ring.hrv
    have a2 := dval_lt h.wf.reverse
    rw [List.length_reverse] at a2
    have a3 : bn m < dpw m.length := a2
    have a4 := h.val
    omega
  subst hr
  ((conv=>whnf);repeat'((first|(show(_=true→_)∧(_=false→_);first|refine gT ?_|refine gF ?_|refine gS ?_ ?_<;>(intro _h;try contradiction))|(show(_=false→_)∧(_=true→_);first|refine gU ?_|refine gV ?_|refine gZ ?_ ?_<;>(intro _h;try contradiction))|(intro _h;try contradiction)|(show _∧_;refine gA ?_)|fail);all_goals conv=>whnf))
  refine acall [] (k_concatO [[] ++ be 4 (8 * m.length) ++ be 4 v, m, be m.length (val rr).toNat] (by simp [be_length]; omega) (by simp [be_length]; omega) (by simp)) rfl (by simp [stIn]) rfl (fun _ => rfl) ?_
  rintro st nx r ⟨rfl, rfl, rfl⟩
  ((conv=>whnf);repeat'((first|(show(_=true→_)∧(_=false→_);first|refine gT ?_|refine gF ?_|refine gS ?_ ?_<;>(intro _h;try contradiction))|(show(_=false→_)∧(_=true→_);first|refine gU ?_|refine gV ?_|refine gZ ?_ ?_<;>(intro _h;try contradiction))|(intro _h;try contradiction)|(show _∧_;refine gA ?_)|fail);all_goals conv=>whnf))
  refine ⟨[1], [(0, .row .u8 5 (keyBytes m n0 rr))], .own 0, ⟨rfl, ⟨⟨by decide, ?_⟩, trivial⟩, rfl⟩, rfl, rfl, rfl⟩
  have e : keyBytes m n0 rr = [[] ++ be 4 (8 * m.length) ++ be 4 v, m, be m.length (val rr).toNat].flatten := by simp [keyBytes, hv]
  rw [e]
  rfl

def toldLKN : AW.Told := ⟨fun _ => false, fun r i => if r == 10 && i == 0 then [9] else [], fun r => if r == 13 then .take 0 (.take 3 (.take 4 (.one 1 (.take 2 (.take 5 (.take 6 (.take 7 (.take 10 (.take 11 (.one 8 (.take 9 (.take 12 (.take 13 (.take 14 .done)))))))))))))) else .done⟩


abbrev wd (xs : List Int) : D := .ints .u32 xs

def xor2 (a b : Int) : Int := bitsK .xor .u32 a b
def and2 (a b : Int) : Int := bitsK .and .u32 a b
def not2 (a : Int) : Int := bitsK .xor .u32 4294967295 a
def add2 (a b : Int) : Int := IntKind.u32.wrap (a + b)
/-- A word turned to the right. -/
def rot2 (x : Int) (n : Nat) : Int := bitsK .or .u32 (x / 2 ^ n) (IntKind.u32.wrap (x * 2 ^ (32 - n)))

theorem wrap32_range (n : Int) : 0 ≤ IntKind.u32.wrap n ∧ IntKind.u32.wrap n < 4294967296 := by
  simp [IntKind.wrap, IntKind.bits, IntKind.signed]; omega
theorem or_comm2 (a b : Int) : bitsK .or .u32 a b = bitsK .or .u32 b a := by
  unfold bitsK
  dsimp only
  rw [BitVec.or_comm]

def sml0 (x : Int) : Int := xor2 (xor2 (rot2 x 7) (rot2 x 18)) (x / 2 ^ 3)
def sml1 (x : Int) : Int := xor2 (xor2 (rot2 x 17) (rot2 x 19)) (x / 2 ^ 10)
def big0 (x : Int) : Int := xor2 (xor2 (rot2 x 2) (rot2 x 13)) (rot2 x 22)
def big1 (x : Int) : Int := xor2 (xor2 (rot2 x 6) (rot2 x 11)) (rot2 x 25)
def chx (e f g : Int) : Int := xor2 (and2 e f) (and2 (not2 e) g)
def mjx (a b c : Int) : Int := xor2 (xor2 (and2 a b) (and2 a c)) (and2 b c)

/-- Word number i of a block's spread, those ahead of it given. -/
def nextW (b ws : List Int) (i : Nat) : Int :=
  if i < 16 then bn (cutB b (4 * i) 4)
  else add2 (add2 (add2 (ws.getD (i - 16) 0) (sml0 (ws.getD (i - 15) 0))) (ws.getD (i - 7) 0)) (sml1 (ws.getD (i - 2) 0))
def schW (b : List Int) : Nat → List Int
  | 0 => []
  | k + 1 => schW b k ++ [nextW b (schW b k) k]
theorem schW_len (b : List Int) : ∀ k, (schW b k).length = k
  | 0 => rfl
  | k + 1 => by simp [schW, schW_len b k]
/-- The rounds' constants. -/
def KK : List Int := [0x428a2f98, 0x71374491, 0xb5c0fbcf, 0xe9b5dba5, 0x3956c25b, 0x59f111f1, 0x923f82a4, 0xab1c5ed5,
  0xd807aa98, 0x12835b01, 0x243185be, 0x550c7dc3, 0x72be5d74, 0x80deb1fe, 0x9bdc06a7, 0xc19bf174,
  0xe49b69c1, 0xefbe4786, 0x0fc19dc6, 0x240ca1cc, 0x2de92c6f, 0x4a7484aa, 0x5cb0a9dc, 0x76f988da,
  0x983e5152, 0xa831c66d, 0xb00327c8, 0xbf597fc7, 0xc6e00bf3, 0xd5a79147, 0x06ca6351, 0x14292967,
  0x27b70a85, 0x2e1b2138, 0x4d2c6dfc, 0x53380d13, 0x650a7354, 0x766a0abb, 0x81c2c92e, 0x92722c85,
  0xa2bfe8a1, 0xa81a664b, 0xc24b8b70, 0xc76c51a3, 0xd192e819, 0xd6990624, 0xf40e3585, 0x106aa070,
  0x19a4c116, 0x1e376c08, 0x2748774c, 0x34b0bcb5, 0x391c0cb3, 0x4ed8aa4a, 0x5b9cca4f, 0x682e6ff3,
  0x748f82ee, 0x78a5636f, 0x84c87814, 0x8cc70208, 0x90befffa, 0xa4506ceb, 0xbef9a3f7, 0xc67178f2]
/-- The state at first. -/
def H0 : List Int := [0x6a09e667, 0xbb67ae85, 0x3c6ef372, 0xa54ff53a, 0x510e527f, 0x9b05688c, 0x1f83d9ab, 0x5be0cd19]

def tmp1 (s : List Int) (k w : Int) : Int := add2 (add2 (add2 (add2 (s.getD 7 0) (big1 (s.getD 4 0))) (chx (s.getD 4 0) (s.getD 5 0) (s.getD 6 0))) k) w
def tmp2 (s : List Int) : Int := add2 (big0 (s.getD 0 0)) (mjx (s.getD 0 0) (s.getD 1 0) (s.getD 2 0))
/-- A round. -/
def rnd (s : List Int) (k w : Int) : List Int :=
  [add2 (tmp1 s k w) (tmp2 s), s.getD 0 0, s.getD 1 0, s.getD 2 0, add2 (s.getD 3 0) (tmp1 s k w), s.getD 4 0, s.getD 5 0, s.getD 6 0]
def rnds (s ws : List Int) : Nat → List Int
  | 0 => s
  | k + 1 => rnd (rnds s ws k) (KK.getD k 0) (ws.getD k 0)
/-- The state behind a block. -/
def blkS (s b : List Int) : List Int := (List.range 8).map fun i => add2 (s.getD i 0) ((rnds s (schW b 64) 64).getD i 0)
theorem blkS_len (s b : List Int) : (blkS s b).length = 8 := by simp [blkS]
/-- The state behind so many blocks. -/
def foldS (s p : List Int) : Nat → List Int
  | 0 => s
  | k + 1 => blkS (foldS s p k) (cutB p (64 * k) 64)
theorem foldS_len (s p : List Int) (hs : s.length = 8) : ∀ k, (foldS s p k).length = 8
  | 0 => hs
  | k + 1 => blkS_len _ _
/-- A text, a bit 1, noughts, and how many bits it has. -/
def padS (b : List Int) : List Int := b ++ [128] ++ List.replicate ((119 - b.length % 64) % 64) 0 ++ be 8 (8 * b.length % 18446744073709551616)
/-- THE SUM. -/
def sumS (b : List Int) : List Int := (foldS H0 (padS b) ((padS b).length / 64)).flatMap fun x => be 4 x.toNat

theorem flat_len (xs : List Int) : (xs.flatMap fun x => be 4 x.toNat).length = 4 * xs.length := by
  induction xs with
  | nil => rfl
  | cons x xs ih => simp [be_length, ih]; omega
theorem sumS_len (b : List Int) : (sumS b).length = 32 := by
  unfold sumS
  rw [flat_len, foldS_len _ _ rfl]
/-! ### Words turned -/
theorem minb {n : Nat} (h : n ≤ 32) : min n (IntKind.bits .u32) = n := Nat.min_eq_left (by simp [IntKind.bits]; omega)

theorem s_rotl (x : Int) (n : Nat) (hn : 1 ≤ n ∧ n ≤ 31) : Imm Tryd.prog 133 [u32 x, i64 (IntKind.i64.wrap (0 - (n : Int)))] (fun r => r = u32 (rot2 x n)) := by
  have e : bitsK .and .u64 (IntKind.u64.wrap (IntKind.i64.wrap (0 - (n : Int)))) 31 = ((32 - n : Nat) : Int) := by
    have : ∀ k : Fin 32, 1 ≤ k.val → bitsK .and .u64 (IntKind.u64.wrap (IntKind.i64.wrap (0 - (k.val : Int)))) 31 = ((32 - k.val : Nat) : Int) := by decide
    exact this ⟨n, by omega⟩ hn.1
  have e2 : IntKind.u64.wrap (32 - ((32 - n : Nat) : Int)) = (n : Int) := by rw [wrap_u64 (by omega) (by omega)]; omega
  have e3 : 0 ≤ IntKind.u64.wrap (32 - bitsK .and .u64 (IntKind.u64.wrap (IntKind.i64.wrap (0 - (n : Int)))) 31) := by rw [e, e2]; omega
  (refine Imm.of_awp told0 [] Tryd.func133 rfl (by decide) (Nat.le_of_ble_eq_true rfl) ?_; intro _w0 _S0 _E0 _B0; ((conv=>whnf);repeat'((first|(show(_=true→_)∧(_=false→_);first|refine gT ?_|refine gF ?_|refine gS ?_ ?_<;>(intro _h;try contradiction))|(show(_=false→_)∧(_=true→_);first|refine gU ?_|refine gV ?_|refine gZ ?_ ?_<;>(intro _h;try contradiction))|(intro _h;try contradiction)|(show _∧_;refine gA ?_)|fail);all_goals conv=>whnf)))
  refine Ends.imm rfl ?_
  rw [e, e2, Int.toNat_natCast, Int.toNat_natCast, minb (by omega), minb (by omega), or_comm2]
  rfl

theorem s_turn (x : Int) (n : Nat) (hn : 1 ≤ n ∧ n ≤ 31) : Imm Tryd.prog 129 [u32 x, i64 n] (fun r => r = u32 (rot2 x n)) := by
  (refine Imm.of_awp told0 [] Tryd.func129 rfl (by decide) (Nat.le_of_ble_eq_true rfl) ?_; intro _w0 _S0 _E0 _B0; ((conv=>whnf);repeat'((first|(show(_=true→_)∧(_=false→_);first|refine nTt ?_|refine nFf ?_|refine gS ?_ ?_<;>(intro _h;try contradiction))|(show(_=false→_)∧(_=true→_);first|refine nU ?_|refine nV ?_|refine gZ ?_ ?_<;>(intro _h;try contradiction))|(intro _h;try contradiction)|(show _∧_;refine gA ?_)|fail);all_goals conv=>whnf)))
  refine acallI (s_rotl x n hn) rfl fun r hr => ?_
  subst hr
  ((conv=>whnf);repeat'((first|(show(_=true→_)∧(_=false→_);first|refine nTt ?_|refine nFf ?_|refine gS ?_ ?_<;>(intro _h;try contradiction))|(show(_=false→_)∧(_=true→_);first|refine nU ?_|refine nV ?_|refine gZ ?_ ?_<;>(intro _h;try contradiction))|(intro _h;try contradiction)|(show _∧_;refine gA ?_)|fail);all_goals conv=>whnf))
  exact Ends.imm rfl rfl

def toldW : AW.Told := ⟨fun _ => false, fun _ _ => [], fun r =>
  if r == 14 || r == 15 then .take 0 (.take 1 (.take 2 (.take 3 (.take 4 (.take 6 (.take 7 (.take 8 (.take 9 (.take 10 (.take 13 (.take 14 (.take 15 (.take 16 (.take 17 (.take 18 (.one 5 (.one 11 (.take 12 (.take 19 (.take 20 .done))))))))))))))))))))
  else if r == 16 then .take 0 (.take 1 (.take 2 (.take 3 (.take 4 (.take 6 (.take 8 (.take 9 (.take 10 (.take 11 (.take 14 (.two 5 (.take 7 (.one 12 (.take 13 (.take 15 (.one 16 (.one 17 (.take 18 .done))))))) 12 (.one 5 (.take 7 (.take 13 (.take 15 (.one 16 (.one 17 (.take 18 .done))))))))))))))))))
  else .done⟩


def toldSch : AW.Told := ⟨fun _ => false, fun _ _ => [], fun r =>
  if r == 13 then .take 0 (.take 1 (.take 2 (.take 3 (.take 4 (.take 5 (.take 6 (.take 7 (.take 8 (.take 9 .done)))))))))
  else if r == 14 then .take 0 (.take 1 (.take 2 (.take 3 (.take 4 (.take 5 (.take 7 (.take 10 (.take 11 (.take 14 (.take 15 (.take 16 (.take 17 (.take 19 (.take 21 (.take 24 (.take 25 (.one 6 (.one 8 (.take 9 (.take 12 (.take 13 (.take 18 (.one 20 (.one 22 (.take 23 (.take 26 (.take 27 (.take 28 (.one 29 .done)))))))))))))))))))))))))))))
  else .done⟩

theorem or2_step (x c : Int) (hx : 0 ≤ x) (hx2 : x < 16777216) (hc : 0 ≤ c) (hc2 : c < 256) :
    bitsK .or .u32 (IntKind.u32.wrap (x * 2 ^ (min (8 : Int).toNat (IntKind.bits .u32)))) (IntKind.u32.wrap c) = x * 256 + c := by
  obtain ⟨a, rfl⟩ : ∃ a : Nat, x = a := ⟨x.toNat, by omega⟩
  obtain ⟨d, rfl⟩ : ∃ a : Nat, c = a := ⟨c.toNat, by omega⟩
  have e0 : (a : Int) * 2 ^ (min (8 : Int).toNat (IntKind.bits .u32)) = ((a * 256 : Nat) : Int) := by
    rw [show min (8 : Int).toNat (IntKind.bits .u32) = 8 from rfl]; push_cast; rfl
  rw [e0, wrap_u32 (by omega) (by omega), wrap_u32 (by omega) (by omega)]
  have e4 : a * 256 ||| d = a * 256 + d := by
    have := Nat.shiftLeft_add_eq_or_of_lt (show d < 2 ^ 8 by omega) a
    rw [Nat.shiftLeft_eq] at this
    exact this.symm
  have e6 : (BitVec.ofInt 32 ((a * 256 : Nat) : Int) ||| BitVec.ofInt 32 (d : Int)).toNat = a * 256 ||| d := by
    simp only [BitVec.ofInt_natCast, BitVec.toNat_or, BitVec.toNat_ofNat]
    rw [Nat.mod_eq_of_lt (by omega), Nat.mod_eq_of_lt (by omega)]
  show IntKind.u32.wrap ((BitVec.ofInt 32 ((a * 256 : Nat) : Int) ||| BitVec.ofInt 32 (d : Int)).toNat : Int) = _
  rw [e6, e4, wrap_u32 (by omega) (by omega)]
  push_cast
  rfl

theorem app_get (xs ys : List Int) {j : Nat} (h : j < xs.length) : (xs ++ ys).getD j 0 = xs.getD j 0 := by
  rw [List.getD_eq_getElem?_getD, List.getElem?_append_left h, ← List.getD_eq_getElem?_getD]
theorem app_set (xs ys : List Int) (x y : Int) : (xs ++ x :: ys).set xs.length y = xs ++ y :: ys := by
  rw [List.set_append_right _ _ (Nat.le_refl _), Nat.sub_self]; rfl
theorem app_at (xs ys : List Int) (x : Int) : (xs ++ x :: ys).getD xs.length 0 = x := by
  rw [List.getD_eq_getElem?_getD, List.getElem?_append_right (Nat.le_refl _), Nat.sub_self]; rfl

theorem ones_ok (st : List (Nat × Ob)) : ∀ ns : List Int, ((flatDs (ns.map (D.int .u32))).map AVal.d).all (oneV st) = true
  | [] => rfl
  | n :: ns => by
    have := ones_ok st ns
    simp only [List.map_cons, flatDs, flatD, List.map_append, List.all_append, this, Bool.and_true]
    rfl

theorem s_sched (b : List Int) (hb : wfd b) (hl : b.length = 64) : Imm Tryd.prog 128 [.d (byt b)] (fun r => r = .d (.agg ((schW b 64).map (D.int .u32)))) := by
  (refine Imm.of_awp toldSch [] Tryd.func128 rfl (by decide) (Nat.le_of_ble_eq_true rfl) ?_; intro _w0 _S0 _E0 _B0; ((conv=>whnf);repeat'((first|(show(_=true→_)∧(_=false→_);first|refine nTt ?_|refine nFf ?_|refine gS ?_ ?_<;>(intro _h;try contradiction))|(show(_=false→_)∧(_=true→_);first|refine nU ?_|refine nV ?_|refine gZ ?_ ?_<;>(intro _h;try contradiction))|(intro _h;try contradiction)|(show _∧_;refine gA ?_)|fail);all_goals conv=>whnf)))
  refine aloop (T := toldSch) (ι := Nat) (fun k => [(0, .d (byt b)), (2, .optr 0 0), (9, i64 k)]) (fun k => [(0, .row .u32 152 (schW b k ++ List.replicate (64 - k) 0))]) 77 1
    (fun k => 16 - k) (fun k => k ≤ 16)
    ⟨0, [0], rfl, by omega, by (refine ⟨rfl, rfl, ?_, ?_⟩ <;> repeat' (first | exact True.intro | rfl | decide | (refine And.intro ?_ ?_)))⟩ ?_
  intro k hk
  have hsl := schW_len b k
  rcases Nat.lt_or_ge k 16 with h16 | h16
  · obtain ⟨ys, hys⟩ : ∃ ys, ys = cutB b (4 * k) 4 := ⟨_, rfl⟩
    have hyl : ys.length = 4 := by rw [hys]; exact cutB_len (by omega)
    have hyw : wfd ys := by rw [hys]; exact hb.cut _ _
    have e1 : IntKind.i64.wrap (4 * (k : Int)) = ((4 * k : Nat) : Int) := by rw [wrap_i64 (by omega) (by omega)]; omega
    have e2 : IntKind.i64.wrap (IntKind.i64.wrap (4 * (k : Int)) + 4) = ((4 * k + 4 : Nat) : Int) := by rw [e1, wrap_i64 (by omega) (by omega)]; omega
    have erep : List.replicate (64 - k) (0 : Int) = 0 :: List.replicate (63 - k) 0 := by rw [show 64 - k = (63 - k) + 1 by omega, List.replicate_succ]
    ((conv=>whnf);repeat'((first|(show(_=true→_)∧(_=false→_);first|refine gT ?_|refine gF ?_|refine gS ?_ ?_<;>(intro _h;try contradiction))|(show(_=false→_)∧(_=true→_);first|refine gU ?_|refine gV ?_|refine gZ ?_ ?_<;>(intro _h;try contradiction))|(intro _h;try contradiction)|(show _∧_;refine gA ?_)|fail);all_goals conv=>whnf))
    refine aloop (T := toldSch) (ι := Nat) (fun j => [(0, .d (byt b)), (2, .optr 0 0), (3, i64 k), (9, i64 k), (18, .d (byt ys)), (19, i64 4), (20, i64 j)]) (fun j => [(0, .row .u32 152 (schW b k ++ bn (ys.take j) :: List.replicate (63 - k) 0))]) 77 1
      (fun j => 4 - j) (fun j => j ≤ 4)
      ⟨0, [0], rfl, by omega, by
        (refine ⟨rfl, rfl, ?_, ?_⟩ <;> repeat' (first | exact True.intro | rfl | decide | (refine And.intro ?_ ?_)))
        · show AVal.d (.ints .u8 _) = AVal.d (.ints .u8 ys)
          rw [e2, e1, hys]; rfl
        · show AVal.d (.int .i64 _) = AVal.d (.int .i64 4)
          rw [e2, e1]
          have : ((b.take ((4 * k + 4 : Nat) : Int).toNat).drop ((4 * k : Nat) : Int).toNat).length = 4 := by
            rw [Int.toNat_natCast, Int.toNat_natCast]; simp; omega
          rw [this]; rfl
        · show some (Ob.row .u32 _ _) = some (Ob.row .u32 _ _)
          rw [erep]; rfl⟩ ?_
    intro j hj
    have hlt : bn (ys.take j) < ((256 ^ j : Nat) : Int) := by
      have := bn_lt (hyw.take j)
      rwa [List.length_take, Nat.min_eq_left (by omega)] at this
    have hnn := bn_nonneg (hyw.take j)
    have hrl : (schW b k ++ bn (ys.take j) :: List.replicate (63 - k) 0).length = 64 := by simp [hsl]; omega
    rcases Nat.lt_or_ge j 4 with h4 | h4
    · have hp : 256 ^ j ≤ 256 ^ 3 := Nat.pow_le_pow_right (by omega) (by omega)
      have est : bn (ys.take (j + 1)) = bn (ys.take j) * 256 + ys.getD j 0 := by rw [take_snoc (by omega), bn_snoc]
      have hg := hyw.get j
      ((conv=>whnf);repeat'((first|(show(_=true→_)∧(_=false→_);first|refine gT ?_|refine gF ?_|refine gS ?_ ?_<;>(intro _h;try contradiction))|(show(_=false→_)∧(_=true→_);first|refine gU ?_|refine gV ?_|refine gZ ?_ ?_<;>(intro _h;try contradiction))|(intro _h;try contradiction)|(show _∧_;refine gA ?_)|fail);all_goals conv=>whnf))
      refine ⟨j + 1, [0], by omega, by omega, rfl, ?_⟩
      (refine ⟨rfl, rfl, ?_, ?_⟩ <;> repeat' (first | exact True.intro | rfl | decide | (refine And.intro ?_ ?_)))
      · exact di (by rw [wrap_i64 (by omega) (by omega)]; rfl)
      · show some (Ob.row .u32 _ _) = some (Ob.row .u32 _ _)
        rw [Nat.zero_add, Int.toNat_natCast, Int.toNat_natCast]
        have hat := app_at (schW b k) (List.replicate (63 - k) 0) (bn (ys.take j))
        rw [hsl] at hat
        rw [hat, or2_step _ _ hnn (by omega) hg.1 (by omega), est]
        have := app_set (schW b k) (List.replicate (63 - k) 0) (bn (ys.take j)) (bn (ys.take j) * 256 + ys.getD j 0)
        rw [hsl] at this
        rw [this]
    · have hj4 : j = 4 := by omega
      have hall : ys.take j = ys := List.take_of_length_le (by omega)
      rw [hall]
      ((conv=>whnf);repeat'((first|(show(_=true→_)∧(_=false→_);first|refine gT ?_|refine gF ?_|refine gS ?_ ?_<;>(intro _h;try contradiction))|(show(_=false→_)∧(_=true→_);first|refine gU ?_|refine gV ?_|refine gZ ?_ ?_<;>(intro _h;try contradiction))|(intro _h;try contradiction)|(show _∧_;refine gA ?_)|fail);all_goals conv=>whnf))
      refine ⟨k + 1, [0], by omega, by omega, rfl, ?_⟩
      (refine ⟨rfl, rfl, ?_, ?_⟩ <;> repeat' (first | exact True.intro | rfl | decide | (refine And.intro ?_ ?_)))
      · exact di (by rw [wrap_i64 (by omega) (by omega)]; rfl)
      · show some (Ob.row .u32 _ _) = some (Ob.row .u32 _ _)
        simp only [schW, nextW]
        rw [if_pos h16, ← hys, List.append_assoc, show 64 - (k + 1) = 63 - k by omega]
        rfl
  · have hk16 : k = 16 := by omega
    subst hk16
    ((conv=>whnf);repeat'((first|(show(_=true→_)∧(_=false→_);first|refine gT ?_|refine gF ?_|refine gS ?_ ?_<;>(intro _h;try contradiction))|(show(_=false→_)∧(_=true→_);first|refine gU ?_|refine gV ?_|refine gZ ?_ ?_<;>(intro _h;try contradiction))|(intro _h;try contradiction)|(show _∧_;refine gA ?_)|fail);all_goals conv=>whnf))
    refine aloop (T := toldSch) (ι := Nat) (fun k => [(2, .optr 0 0), (6, i64 k)]) (fun k => [(0, .row .u32 152 (schW b k ++ List.replicate (64 - k) 0))]) 77 1
      (fun k => 64 - k) (fun k => 16 ≤ k ∧ k ≤ 64)
      ⟨16, [0], rfl, by omega, by (refine ⟨rfl, rfl, ?_, ?_⟩ <;> repeat' (first | exact True.intro | rfl | decide | (refine And.intro ?_ ?_)))⟩ ?_
    intro k ⟨hk1, hk2⟩
    have hsl := schW_len b k
    have hrl : (schW b k ++ List.replicate (64 - k) 0).length = 64 := by simp [hsl]; omega
    rcases Nat.lt_or_ge k 64 with h64 | h64
    · have e15 : IntKind.i64.wrap ((k : Int) - 15) = (k - 15 : Nat) := by rw [wrap_i64 (by omega) (by omega)]; omega
      have e2 : IntKind.i64.wrap ((k : Int) - 2) = (k - 2 : Nat) := by rw [wrap_i64 (by omega) (by omega)]; omega
      have e16 : IntKind.i64.wrap ((k : Int) - 16) = (k - 16 : Nat) := by rw [wrap_i64 (by omega) (by omega)]; omega
      have e7 : IntKind.i64.wrap ((k : Int) - 7) = (k - 7 : Nat) := by rw [wrap_i64 (by omega) (by omega)]; omega
      have g : ∀ (z : Int) (j : Nat), z = (j : Nat) → j < k → (schW b k ++ List.replicate (64 - k) 0).getD (0 + z.toNat) 0 = (schW b k).getD j 0 := fun z j hz hj => by
        rw [hz, Int.toNat_natCast, Nat.zero_add, app_get _ _ (by omega)]
      have g15 := g _ _ e15 (by omega)
      have g2 := g _ _ e2 (by omega)
      have g16 := g _ _ e16 (by omega)
      have g7 := g _ _ e7 (by omega)
      ((conv=>whnf);repeat'((first|(show(_=true→_)∧(_=false→_);first|refine gT ?_|refine gF ?_|refine gS ?_ ?_<;>(intro _h;try contradiction))|(show(_=false→_)∧(_=true→_);first|refine gU ?_|refine gV ?_|refine gZ ?_ ?_<;>(intro _h;try contradiction))|(intro _h;try contradiction)|(show _∧_;refine gA ?_)|fail);all_goals conv=>whnf))
      refine acallI (s_turn ((schW b k).getD (k - 15) 0) 7 (by omega)) (by rw [← g15]; rfl) fun r hr => ?_
      subst hr
      ((conv=>whnf);repeat'((first|(show(_=true→_)∧(_=false→_);first|refine gT ?_|refine gF ?_|refine gS ?_ ?_<;>(intro _h;try contradiction))|(show(_=false→_)∧(_=true→_);first|refine gU ?_|refine gV ?_|refine gZ ?_ ?_<;>(intro _h;try contradiction))|(intro _h;try contradiction)|(show _∧_;refine gA ?_)|fail);all_goals conv=>whnf))
      refine acallI (s_turn ((schW b k).getD (k - 15) 0) 18 (by omega)) (by rw [← g15]; rfl) fun r hr => ?_
      subst hr
      ((conv=>whnf);repeat'((first|(show(_=true→_)∧(_=false→_);first|refine gT ?_|refine gF ?_|refine gS ?_ ?_<;>(intro _h;try contradiction))|(show(_=false→_)∧(_=true→_);first|refine gU ?_|refine gV ?_|refine gZ ?_ ?_<;>(intro _h;try contradiction))|(intro _h;try contradiction)|(show _∧_;refine gA ?_)|fail);all_goals conv=>whnf))
      refine acallI (s_turn ((schW b k).getD (k - 2) 0) 17 (by omega)) (by rw [← g2]; rfl) fun r hr => ?_
      subst hr
      ((conv=>whnf);repeat'((first|(show(_=true→_)∧(_=false→_);first|refine gT ?_|refine gF ?_|refine gS ?_ ?_<;>(intro _h;try contradiction))|(show(_=false→_)∧(_=true→_);first|refine gU ?_|refine gV ?_|refine gZ ?_ ?_<;>(intro _h;try contradiction))|(intro _h;try contradiction)|(show _∧_;refine gA ?_)|fail);all_goals conv=>whnf))
      refine acallI (s_turn ((schW b k).getD (k - 2) 0) 19 (by omega)) (by rw [← g2]; rfl) fun r hr => ?_
      subst hr
      ((conv=>whnf);repeat'((first|(show(_=true→_)∧(_=false→_);first|refine gT ?_|refine gF ?_|refine gS ?_ ?_<;>(intro _h;try contradiction))|(show(_=false→_)∧(_=true→_);first|refine gU ?_|refine gV ?_|refine gZ ?_ ?_<;>(intro _h;try contradiction))|(intro _h;try contradiction)|(show _∧_;refine gA ?_)|fail);all_goals conv=>whnf))
      refine ⟨k + 1, [0], by omega, by omega, rfl, ?_⟩
      (refine ⟨rfl, rfl, ?_, ?_⟩ <;> repeat' (first | exact True.intro | rfl | decide | (refine And.intro ?_ ?_)))
      · exact di (by rw [wrap_i64 (by omega) (by omega)]; rfl)
      · show some (Ob.row .u32 _ _) = some (Ob.row .u32 _ _)
        rw [g15, g2, g16, g7, Nat.zero_add, Int.toNat_natCast]
        have erep : List.replicate (64 - k) (0 : Int) = 0 :: List.replicate (63 - k) 0 := by rw [show 64 - k = (63 - k) + 1 by omega, List.replicate_succ]
        rw [erep]
        have hset := fun y => app_set (schW b k) (List.replicate (63 - k) 0) 0 y
        rw [hsl] at hset
        rw [hset]
        simp only [schW, nextW]
        rw [if_neg (by omega), List.append_assoc, show 64 - (k + 1) = 63 - k by omega]
        rfl
    · have hk64 : k = 64 := by omega
      obtain ⟨ws, hws⟩ : ∃ ws, ws = schW b k ++ List.replicate (64 - k) 0 := ⟨_, rfl⟩
      have hwe : ws = schW b 64 := by rw [hws, hk64]; simp
      rw [← hws] at hrl ⊢
      have hz : (szT Tryd.prog 152).getD 0 = 64 := rfl
      have hw2 : (ws.drop 0).take ((szT Tryd.prog 152).getD 0) = ws := by rw [hz, List.drop_zero]; exact List.take_of_length_le (by omega)
      ((conv=>whnf);repeat'((first|(show(_=true→_)∧(_=false→_);first|refine gT ?_|refine gF ?_|refine gS ?_ ?_<;>(intro _h;try contradiction))|(show(_=false→_)∧(_=true→_);first|refine gU ?_|refine gV ?_|refine gZ ?_ ?_<;>(intro _h;try contradiction))|(intro _h;try contradiction)|(show _∧_;refine gA ?_)|fail);all_goals conv=>whnf))
      refine ⟨ones_ok _ _, ?_⟩
      conv => whnf
      refine ⟨ws, by rw [hw2], by rw [hrl]; rfl, by omega, by omega, ?_⟩
      ((conv=>whnf);repeat'((first|(show(_=true→_)∧(_=false→_);first|refine gT ?_|refine gF ?_|refine gS ?_ ?_<;>(intro _h;try contradiction))|(show(_=false→_)∧(_=true→_);first|refine gU ?_|refine gV ?_|refine gZ ?_ ?_<;>(intro _h;try contradiction))|(intro _h;try contradiction)|(show _∧_;refine gA ?_)|fail);all_goals conv=>whnf))
      have e : ws.take 0 ++ ws ++ ws.drop (0 + ws.length) = ws := by simp
      refine Ends.imm rfl ?_
      rw [e, hw2, hwe]

/-- Eight words, as a struct's parts. -/
def st8 (s : List Int) : List AVal := [u32 (s.getD 0 0), u32 (s.getD 1 0), u32 (s.getD 2 0), u32 (s.getD 3 0), u32 (s.getD 4 0), u32 (s.getD 5 0), u32 (s.getD 6 0), u32 (s.getD 7 0)]
/-- A sum under way. -/
def hashC (s : List Int) (rest : AVal) (cnt : Int) : List AVal := [u32 (s.getD 0 0), u32 (s.getD 1 0), u32 (s.getD 2 0), u32 (s.getD 3 0), u32 (s.getD 4 0), u32 (s.getD 5 0), u32 (s.getD 6 0), u32 (s.getD 7 0), rest, .d (.int .u64 cnt)]
def ROUNDS : D := .agg (KK.map (D.int .u32))

def toldTake : AW.Told := ⟨fun _ => false, fun _ _ => [], fun r =>
  if r == 5 then .take 0 (.take 1 (.take 2 (.take 3 (.take 4 (.take 5 .done)))))
  else if r == 6 then .take 0 (.take 1 (.take 2 (.take 4 (.take 7 (.take 11 (.take 12 (.take 13 (.take 14 (.take 15 (.take 16 (.take 17 (.take 18 (.take 19 (.take 20 (.take 22 (.take 24 (.take 25 (.take 26 (.one 3 (.one 5 (.take 6 (.one 8 (.take 9 (.take 10 (.take 21 (.take 23 (.take 27 (.take 28 .done))))))))))))))))))))))))))))
  else if r == 7 then .take 0 (.take 2 (.take 5 (.take 8 (.take 9 (.take 10 (.take 11 (.take 12 (.take 13 (.take 14 (.take 15 (.take 16 (.take 17 (.take 18 (.take 19 (.take 20 (.take 21 (.take 22 (.one 1 (.one 3 (.take 4 (.one 6 (.take 7 (.take 23 (.take 24 .done))))))))))))))))))))))))
  else if r == 13 then .take 0 (.take 1 (.take 2 (.take 3 (.take 4 (.take 5 (.take 6 (.take 7 (.take 8 (.take 9 (.take 10 (.one 11 .done)))))))))))
  else .done⟩

theorem s_take (hG : Globs.gl 4 = some ROUNDS) (s b rest : List Int) (cnt : Int) (hs : s.length = 8) (hb : wfd b) (hl : b.length = 64) :
    CSpec Tryd.prog 116 [.optr 0 0, .d (byt b)] [(0, .cell 136 (hashC s (.d (byt rest)) cnt))] 1
      (fun st nx r => st = [(0, .cell 136 (hashC (blkS s b) (.d (byt rest)) cnt))] ∧ nx = 1 ∧ r = .tup []) := by
  refine CSpec.ends (CSpec.of_awp toldTake [] Tryd.func116 rfl (by decide) (Nat.le_of_ble_eq_true rfl) fun _w0 _S0 _E0 _B0 => ?_)
  obtain ⟨s', hs'⟩ : ∃ s', s' = blkS s b := ⟨_, rfl⟩
  rw [← hs']
  obtain ⟨ws, hws⟩ : ∃ ws, ws = schW b 64 := ⟨_, rfl⟩
  have hwl : ws.length = 64 := by rw [hws]; exact schW_len b 64
  have hsc := s_sched b hb hl
  rw [← hws] at hsc
  ((conv=>whnf);repeat'((first|(show(_=true→_)∧(_=false→_);first|refine nTt ?_|refine nFf ?_|refine gS ?_ ?_<;>(intro _h;try contradiction))|(show(_=false→_)∧(_=true→_);first|refine nU ?_|refine nV ?_|refine gZ ?_ ?_<;>(intro _h;try contradiction))|(intro _h;try contradiction)|(show _∧_;refine gA ?_)|fail);all_goals conv=>whnf))
  refine acallI hsc rfl fun r hr => ?_
  subst hr
  clear hsc
  ((conv=>whnf);repeat'((first|(show(_=true→_)∧(_=false→_);first|refine nTt ?_|refine nFf ?_|refine gS ?_ ?_<;>(intro _h;try contradiction))|(show(_=false→_)∧(_=true→_);first|refine nU ?_|refine nV ?_|refine gZ ?_ ?_<;>(intro _h;try contradiction))|(intro _h;try contradiction)|(show _∧_;refine gA ?_)|fail);all_goals conv=>whnf))
  refine ⟨ones_ok _ _, ?_⟩
  conv => whnf
  refine ⟨ws, rfl, by rw [hwl]; rfl, by omega, by rw [List.length_replicate, hwl]; omega, ?_⟩
  have ews : (List.replicate 64 (0 : Int)).take 0 ++ ws ++ (List.replicate 64 (0 : Int)).drop (0 + ws.length) = ws := by rw [hwl]; simp
  rw [ews]
  ((conv=>whnf);repeat'((first|(show(_=true→_)∧(_=false→_);first|refine nTt ?_|refine nFf ?_|refine gS ?_ ?_<;>(intro _h;try contradiction))|(show(_=false→_)∧(_=true→_);first|refine nU ?_|refine nV ?_|refine gZ ?_ ?_<;>(intro _h;try contradiction))|(intro _h;try contradiction)|(show _∧_;refine gA ?_)|fail);all_goals conv=>whnf))
  rw [aev_global hG]
  ((conv=>whnf);repeat'((first|(show(_=true→_)∧(_=false→_);first|refine nTt ?_|refine nFf ?_|refine gS ?_ ?_<;>(intro _h;try contradiction))|(show(_=false→_)∧(_=true→_);first|refine nU ?_|refine nV ?_|refine gZ ?_ ?_<;>(intro _h;try contradiction))|(intro _h;try contradiction)|(show _∧_;refine gA ?_)|fail);all_goals conv=>whnf))
  refine aloop (T := toldTake) (ι := Nat) (fun k => [(0, .optr 0 0), (4, .optr 1 0), (5, .optr 2 0), (20, .d ROUNDS), (21, i64 k)])
    (fun k => [(0, .cell 136 (hashC s (.d (byt rest)) cnt)), (1, .row .u32 152 ws), (2, .cell 134 (st8 (rnds s ws k)))]) 117 3
    (fun k => 64 - k) (fun k => k ≤ 64)
    ⟨0, [0, 1, 2], rfl, by omega, by (refine ⟨rfl, rfl, ?_, ?_⟩ <;> repeat' (first | exact True.intro | rfl | decide | (refine And.intro ?_ ?_)))⟩ ?_
  intro k hk
  obtain ⟨v, hv⟩ : ∃ v, v = rnds s ws k := ⟨_, rfl⟩
  rw [← hv]
  rcases Nat.lt_or_ge k 64 with h64 | h64
  · have hkw : k < ws.length := by omega
    ((conv=>whnf);repeat'((first|(show(_=true→_)∧(_=false→_);first|refine gT ?_|refine gF ?_|refine gS ?_ ?_<;>(intro _h;try contradiction))|(show(_=false→_)∧(_=true→_);first|refine gU ?_|refine gV ?_|refine gZ ?_ ?_<;>(intro _h;try contradiction))|(intro _h;try contradiction)|(show _∧_;refine gA ?_)|fail);all_goals conv=>whnf))
    refine acallI (s_turn (v.getD 4 0) 6 (by omega)) rfl fun r hr => ?_
    subst hr
    ((conv=>whnf);repeat'((first|(show(_=true→_)∧(_=false→_);first|refine gT ?_|refine gF ?_|refine gS ?_ ?_<;>(intro _h;try contradiction))|(show(_=false→_)∧(_=true→_);first|refine gU ?_|refine gV ?_|refine gZ ?_ ?_<;>(intro _h;try contradiction))|(intro _h;try contradiction)|(show _∧_;refine gA ?_)|fail);all_goals conv=>whnf))
    refine acallI (s_turn (v.getD 4 0) 11 (by omega)) rfl fun r hr => ?_
    subst hr
    ((conv=>whnf);repeat'((first|(show(_=true→_)∧(_=false→_);first|refine gT ?_|refine gF ?_|refine gS ?_ ?_<;>(intro _h;try contradiction))|(show(_=false→_)∧(_=true→_);first|refine gU ?_|refine gV ?_|refine gZ ?_ ?_<;>(intro _h;try contradiction))|(intro _h;try contradiction)|(show _∧_;refine gA ?_)|fail);all_goals conv=>whnf))
    refine acallI (s_turn (v.getD 4 0) 25 (by omega)) rfl fun r hr => ?_
    subst hr
    ((conv=>whnf);repeat'((first|(show(_=true→_)∧(_=false→_);first|refine gT ?_|refine gF ?_|refine gS ?_ ?_<;>(intro _h;try contradiction))|(show(_=false→_)∧(_=true→_);first|refine gU ?_|refine gV ?_|refine gZ ?_ ?_<;>(intro _h;try contradiction))|(intro _h;try contradiction)|(show _∧_;refine gA ?_)|fail);all_goals conv=>whnf))
    refine acallI (s_turn (v.getD 0 0) 2 (by omega)) rfl fun r hr => ?_
    subst hr
    ((conv=>whnf);repeat'((first|(show(_=true→_)∧(_=false→_);first|refine gT ?_|refine gF ?_|refine gS ?_ ?_<;>(intro _h;try contradiction))|(show(_=false→_)∧(_=true→_);first|refine gU ?_|refine gV ?_|refine gZ ?_ ?_<;>(intro _h;try contradiction))|(intro _h;try contradiction)|(show _∧_;refine gA ?_)|fail);all_goals conv=>whnf))
    refine acallI (s_turn (v.getD 0 0) 13 (by omega)) rfl fun r hr => ?_
    subst hr
    ((conv=>whnf);repeat'((first|(show(_=true→_)∧(_=false→_);first|refine gT ?_|refine gF ?_|refine gS ?_ ?_<;>(intro _h;try contradiction))|(show(_=false→_)∧(_=true→_);first|refine gU ?_|refine gV ?_|refine gZ ?_ ?_<;>(intro _h;try contradiction))|(intro _h;try contradiction)|(show _∧_;refine gA ?_)|fail);all_goals conv=>whnf))
    refine acallI (s_turn (v.getD 0 0) 22 (by omega)) rfl fun r hr => ?_
    subst hr
    ((conv=>whnf);repeat'((first|(show(_=true→_)∧(_=false→_);first|refine gT ?_|refine gF ?_|refine gS ?_ ?_<;>(intro _h;try contradiction))|(show(_=false→_)∧(_=true→_);first|refine gU ?_|refine gV ?_|refine gZ ?_ ?_<;>(intro _h;try contradiction))|(intro _h;try contradiction)|(show _∧_;refine gA ?_)|fail);all_goals conv=>whnf))
    refine ⟨k + 1, [0, 1, 2], by omega, by omega, rfl, ?_⟩
    (refine ⟨rfl, rfl, ?_, ?_⟩ <;> repeat' (first | exact True.intro | rfl | decide | (refine And.intro ?_ ?_)))
    · exact di (by rw [wrap_i64 (by omega) (by omega)]; rfl)
    · have e : rnds s ws (k + 1) = rnd v (KK.getD k 0) (ws.getD (0 + (k : Int).toNat) 0) := by rw [hv, Nat.zero_add]; rfl
      show some (Ob.cell _ _) = some (Ob.cell _ (st8 (rnds s ws (k + 1))))
      rw [e]
      rfl
  · have hk64 : k = 64 := by omega
    ((conv=>whnf);repeat'((first|(show(_=true→_)∧(_=false→_);first|refine gT ?_|refine gF ?_|refine gS ?_ ?_<;>(intro _h;try contradiction))|(show(_=false→_)∧(_=true→_);first|refine gU ?_|refine gV ?_|refine gZ ?_ ?_<;>(intro _h;try contradiction))|(intro _h;try contradiction)|(show _∧_;refine gA ?_)|fail);all_goals conv=>whnf))
    refine AWp.rounds toldTake 9 ?_
    ((conv=>whnf);repeat'((first|(show(_=true→_)∧(_=false→_);first|refine gT ?_|refine gF ?_|refine gS ?_ ?_<;>(intro _h;try contradiction))|(show(_=false→_)∧(_=true→_);first|refine gU ?_|refine gV ?_|refine gZ ?_ ?_<;>(intro _h;try contradiction))|(intro _h;try contradiction)|(show _∧_;refine gA ?_)|fail);all_goals conv=>whnf))
    have e0 : blkS s b = (List.range 8).map fun i => add2 (s.getD i 0) (v.getD i 0) := by unfold blkS; rw [hv, hk64, hws]
    refine ⟨[0], [(0, .cell 136 (hashC s' (.d (byt rest)) cnt))], .tup [], ⟨rfl, ⟨⟨by decide, ?_⟩, trivial⟩, rfl⟩, rfl, rfl, rfl⟩
    show some (Ob.cell _ _) = some (Ob.cell _ (hashC s' (.d (byt rest)) cnt))
    rw [hs', e0]
    rfl
end Go.Proofs.YtniaeiikdgbnfaaDoor.R
namespace Go.Proofs.YtniaeiikdgbnfaaDoor.R
open Go Go.RowKit Go.Proofs Go.Proofs.YtniaeiikdgbnfaaDoor.AW
set_option linter.unusedSectionVars false
variable [Globs]
attribute [local go_sem] Oper.semAt_some
set_option maxRecDepth 100000
set_option linter.unusedSimpArgs false
set_option linter.unusedVariables false
set_option maxHeartbeats 4000000

theorem itC (l b o b3 o3 b2 o2 c : Nat) (xs : List Int) (n : Nat) (J : Nat → World → Prop) (Jx : World → Prop) (W : World) (hl : xs.length ≤ 1000000000) (hn : xs.length = 64 * n) (hc0 : xs.length ≤ c)
   (hG : ∀ k W, J k W → W.cell? ⟨b, o, none⟩ = some (.slice (some ⟨b2, o2, none⟩) xs.length c) ∧ W.cell? ⟨b3, o3, none⟩ = some (.int .i64 64))
   (hY : ∀ k W, k < n → J k W → YieldAt (fence none) 0 Tryd.prog l #[.slice (some ⟨b2, o2 + 64 * k, none⟩) 64 64] W fun e W' => (e = .returned (.bool true) ∧ J (k + 1) W') ∨ (e = .returned (.bool false) ∧ Jx W'))
   (hJg : ∀ k W W', J k W → W.grownBy W' none → J k W')
   (h0 : J 0 W) : CallsIn Fence.wide 0 Tryd.prog 130 #[.func (.yield l) #[] #[], .pointer (some ⟨b, o, none⟩), .pointer (some ⟨b3, o3, none⟩)] W fun e W' => (∃ v, e = .returned v) ∧ (J n W' ∨ Jx W') := by
  have hc := (hG 0 W h0).1
  have hd := (hG 0 W h0).2
  refine callsIn_of_wp Tryd.func130 rfl trivial ?_ rfl
  simp only [Tryd.ntmps130, List.size_toArray, List.length_cons, List.length_nil, Nat.reduceAdd, Nat.reduceSub, Array.replicate_succ, Array.replicate_zero, List.push_toArray, List.append_toArray, List.nil_append, List.cons_append]
  gi_wp2
  clear hc hd
  gi_loopw [4] (fun i wr => ∃ k : Nat, k ≤ n ∧ i = .int .i64 (64 * (k : Int)) ∧ J k wr) (fun i _ => (xs.length - intOf i).toNat)
  case atStart => exact ⟨0, Nat.zero_le _, by simp, h0⟩
  case round =>
    obtain ⟨k, hk, rfl, hJ⟩ := hrel
    by_cases hlt : k < n
    · have hc := (hG k _ hJ).1
      have hd := (hG k _ hJ).2
      have hJ2 : J k wr.drew := hJg k wr _ hJ ⟨rfl, rfl, rfl, Nat.le_refl _, fun _ _ _ => rfl⟩
      obtain ⟨fn, tmps, assign, body, hy, hR⟩ := hY k _ hlt hJ2
      have hG2 : id (∀ k W, J k W → W.cell? ⟨b, o, none⟩ = some (.slice (some ⟨b2, o2, none⟩) xs.length c) ∧ W.cell? ⟨b3, o3, none⟩ = some (.int .i64 64)) := hG
      clear hG hY hJg
      gi_wp2
      gi_region
      gi_wp2
      refine ⟨rfl, RoundIn.mono hR ?_⟩
      rintro e W' (⟨rfl, hJ'⟩ | ⟨rfl, hJ'⟩)
      · have hd' := (hG2 _ _ hJ').2
        clear hG2 hc hd hR hy
        gi_wp2
        go_roundw
        case rel => exact ⟨k + 1, by omega, by simp; omega, hJ'⟩
        case measure => simp [intOf]; omega
      · clear hG2
        gi_wp2
        exact bodyPost_ret (results_none rfl _ _ _) rfl ⟨⟨_, rfl⟩, .inr hJ'⟩
    · have : k = n := by omega
      subst this
      have hc := (hG k _ hJ).1
      clear hG hY
      gi_wp2
      go_end0
      exact ⟨⟨_, rfl⟩, .inl hJ⟩

/-- The stretches of 64 of a list, one by one. -/
theorem aiC (xs : List Int) (n : Nat) (hn : xs.length = 64 * n) (hl : xs.length ≤ 1000000000) (h0 : 0 < n) : AIter Tryd.prog 130 [.ptr (byt xs), .ptr (.int .i64 64)] n (fun k => [byt (cutB xs (64 * k) 64)]) := by
  refine ⟨⟨_, Tryd.func130, rfl, by decide⟩, fun w S lb h => ?_⟩
  simp only [RepAll, Rep] at h
  obtain ⟨c1, c2, e, ⟨b, o, rfl, hSb, vs, hcb, A, c, rfl, hle, hL, hwf, hne⟩, c3, c4, rfl, ⟨b3, o3, rfl, hSb3, vs3, hcb3, rfl, _⟩, rfl⟩ := h
  have hlb : lb = #[.pointer (some ⟨b, o, none⟩), .pointer (some ⟨b3, o3, none⟩)] := by apply Array.ext'; simpa using e
  subst hlb
  obtain ⟨b2, o2, rfl, hS2, hc2⟩ := hne (fun h => by subst h; simp at hn; omega)
  refine ⟨fun k => #[.slice (some ⟨b2, o2 + 64 * k, none⟩) 64 64], fun k hk => ?_, fun l J Jx W hJg hJxg hG hY h0 => ?_⟩
  · have hcl : (cutB xs (64 * k) 64).length = 64 := cutB_len (by omega)
    simp only [List.map_cons, List.map_nil, VAll, VRel, Rep]
    refine ⟨_, _, rfl, ⟨[.slice (some ⟨b2, o2 + 64 * k, none⟩) 64 64], ⟨some ⟨b2, o2 + 64 * k, none⟩, 64, by rw [hcl], by omega, by rw [hcl]; unfold LIM; omega, fun x hx => hwf x (List.mem_of_mem_take (List.mem_of_mem_drop hx)), fun _ => ⟨b2, o2 + 64 * k, rfl, hS2, ?_⟩⟩, rfl⟩, rfl⟩
    intro i v hv
    have hi : i < 64 := by
      have := (List.getElem?_eq_some_iff.1 hv).1
      simpa [hcl] using this
    have := hc2 (64 * k + i) v (by
      rw [← hv, List.getElem?_map, List.getElem?_map]
      unfold cutB
      rw [List.getElem?_drop, List.getElem?_take_of_lt (by omega)])
    rwa [← Nat.add_assoc] at this
  · have hcell : ∀ W : World, (∀ b, S b → W.heap[b]? = w.heap[b]?) → W.cell? ⟨b, o, none⟩ = some (.slice (some ⟨b2, o2, none⟩) xs.length c) ∧ W.cell? ⟨b3, o3, none⟩ = some (.int .i64 64) := fun W hW => by
      have h1 := (Cells.keep hcb (hW b hSb)) 0 _ rfl
      have h2 := (Cells.keep hcb3 (hW b3 hSb3)) 0 _ rfl
      exact ⟨by simpa using h1, by simpa using h2⟩
    refine callsIn_fence.1 (?_ : CallsIn Fence.wide 0 _ _ _ _ _)
    exact itC l b o b3 o3 b2 o2 c xs n J Jx W hl hn hle (fun k W hJ => hcell W (hG k W hJ)) hY hJg h0
end Go.Proofs.YtniaeiikdgbnfaaDoor.R
