/- Parts K25, S1, S2, S3, S4, S5, S6. No condition of its own. -/
import Derived.Test.YtniaeiikdgbnfaaDoorSD11
import Derived.Test.YtniaeiikdgbnfaaDoorSD13
import Derived.Test.YtniaeiikdgbnfaaDoorSD6
import Derived.Test.YtniaeiikdgbnfaaDoorSD10

namespace Go.Proofs.YtniaeiikdgbnfaaDoor.R
open Go Go.RowKit Go.Proofs Go.Proofs.YtniaeiikdgbnfaaDoor.AW
set_option linter.unusedSectionVars false
variable [Globs]
set_option maxRecDepth 100000
set_option linter.unusedSimpArgs false
set_option linter.unusedVariables false
set_option maxHeartbeats 4000000

theorem undo0 (x : Nat) : x ^ (keyS 0 * 65537) % keyM 0 = x % keyM 0 := by
  have h := NT.rsa (e := keyS 0 * 65537) NT.key0p NT.key0q (by decide +kernel) (by decide +kernel) (by decide +kernel) (by decide +kernel) x
  have e : keyM 0 = _ * _ := (by decide +kernel : keyM 0 = 112289642932016304371756649481332778992551393574107444139052838912955283313407 * 112278977878014794934387468732230951909665353991314206570858853383570697513071)
  rw [e]
  exact h
theorem undo1 (x : Nat) : x ^ (keyS 1 * 65537) % keyM 1 = x % keyM 1 := by
  have h := NT.rsa (e := keyS 1 * 65537) NT.key1p NT.key1q (by decide +kernel) (by decide +kernel) (by decide +kernel) (by decide +kernel) x
  have e : keyM 1 = _ * _ := (by decide +kernel : keyM 1 = 95350817846681796337898091958903254439827423116154551737010290600988810741873 * 92279200474456872667267992849871381863045564664392769007913652786505232254317)
  rw [e]
  exact h
theorem undo2 (x : Nat) : x ^ (keyS 2 * 65537) % keyM 2 = x % keyM 2 := by
  have h := NT.rsa (e := keyS 2 * 65537) NT.key2p NT.key2q (by decide +kernel) (by decide +kernel) (by decide +kernel) (by decide +kernel) x
  have e : keyM 2 = _ * _ := (by decide +kernel : keyM 2 = 12329477222992863067035609111604184371805710698277106172196551772303302632927049457756976661843525144868265139576196260095675556062881725217631014058728183 * 10381621340989602630438101892975909089594587423182068202124588783094168422741567990413141241492069066522569929192747298242483237121291479479353985992550099)
  rw [e]
  exact h
theorem undo (k : Nat) (hk : k ≤ 2) (x : Nat) : x ^ (keyS k * 65537) % keyM k = x % keyM k := by
  have : k = 0 ∨ k = 1 ∨ k = 2 := by omega
  rcases this with rfl | rfl | rfl
  · exact undo0 x
  · exact undo1 x
  · exact undo2 x

theorem sec_ev (k : Nat) (hk : k ≤ 2) : ev (secB k) = keyS k := by
  have : k = 0 ∨ k = 1 ∨ k = 2 := by omega
  rcases this with rfl | rfl | rfl <;> decide +kernel
theorem mod_bn (k : Nat) (hk : k ≤ 3) : bn (modB k) = (keyM k : Nat) := by
  have : k = 0 ∨ k = 1 ∨ k = 2 ∨ k = 3 := by omega
  rcases this with rfl | rfl | rfl | rfl <;> exact bn_be (by decide +kernel)
theorem keyM_lt (k : Nat) (hk : k ≤ 3) : keyM k < 256 ^ keyL k ∧ 1 < keyM k := by
  have : k = 0 ∨ k = 1 ∨ k = 2 ∨ k = 3 := by omega
  rcases this with rfl | rfl | rfl | rfl <;> decide +kernel
theorem be_bn {b : List Int} (hb : wfd b) : be b.length (bn b).toNat = b := by
  have h1 := bn_lt hb
  have h2 := bn_nonneg hb
  have h3 : dval (be b.length (bn b).toNat).reverse = dval b.reverse := by
    rw [dval_be, Nat.mod_eq_of_lt (by omega)]
    show (((bn b).toNat : Nat) : Int) = bn b
    omega
  have h4 := dval_inj (be_wfd _ _).reverse hb.reverse (by simp [be_length]) h3
  simpa using h4

/-- A block, closed with a key's secret. -/
def sigB (k : Nat) (b : List Int) : List Int := be (keyL k) ((bn b).toNat ^ keyS k % keyM k)
theorem sigB_wfd (k : Nat) (b : List Int) : wfd (sigB k b) := be_wfd _ _
theorem sigB_len (k : Nat) (b : List Int) : (sigB k b).length = keyL k := be_length _ _
theorem sigB_bn (k : Nat) (hk : k ≤ 2) (b : List Int) : bn (sigB k b) = (((bn b).toNat ^ keyS k % keyM k : Nat) : Int) := by
  have h := keyM_lt k (by omega)
  exact bn_be (Nat.lt_trans (Nat.mod_lt _ (by omega)) h.1)

theorem close_sig (k : Nat) (hk : k ≤ 2) {b : List Int} (hb : wfd b) (hl : b.length = keyL k) (hlt : bn b < (keyM k : Nat)) : powV (modB k) b (secB k) = .tup [.d (byt (sigB k b)), i64 0] := by
  have h0 := bn_nonneg hb
  have hs := secB_len k
  have hkl := keyL_le k
  unfold powV
  rw [if_neg (by rw [modB_len, hl]; simp), mod_bn k (by omega), if_neg (by omega), if_neg (by rw [hs]; omega), sec_ev k hk, modB_len]
  unfold sigB
  obtain ⟨x, hx⟩ : ∃ x : Nat, bn b = x := ⟨(bn b).toNat, by omega⟩
  rw [hx, Int.toNat_natCast, ← Int.natCast_pow, ← Int.natCast_emod, Int.toNat_natCast]
theorem undo' (k : Nat) (hk : k ≤ 2) (x : Nat) : x ^ (keyS k * ev [1, 0, 1]) % keyM k = x % keyM k := by
  rw [ev_exp]
  exact undo k hk x
theorem open_sig (k : Nat) (hk : k ≤ 2) {b : List Int} (hb : wfd b) (hl : b.length = keyL k) (hlt : bn b < (keyM k : Nat)) : powV (modB k) (sigB k b) [1, 0, 1] = .tup [.d (byt b), i64 0] := by
  have h0 := bn_nonneg hb
  have hm := keyM_lt k (by omega)
  have h1 := sigB_bn k hk b
  have h2 : (bn b).toNat ^ keyS k % keyM k < keyM k := Nat.mod_lt _ (by omega)
  unfold powV
  rw [if_neg (by rw [modB_len, sigB_len]; simp), mod_bn k (by omega), h1, if_neg (by omega), if_neg (by decide), modB_len]
  have hu := undo' k hk
  generalize ev [1, 0, 1] = e at *
  obtain ⟨x, hx⟩ : ∃ x : Nat, bn b = x := ⟨(bn b).toNat, by omega⟩
  rw [hx, Int.toNat_natCast, ← Int.natCast_pow, ← Int.natCast_emod, Int.toNat_natCast, ← Nat.pow_mod, ← Nat.pow_mul, hu, Nat.mod_eq_of_lt (by omega)]
  have := be_bn hb
  rw [hx, Int.toNat_natCast, hl] at this
  rw [this]

theorem bn_app (xs ys : List Int) : bn (xs ++ ys) = bn xs * ((256 ^ ys.length : Nat) : Int) + bn ys := by
  unfold bn
  rw [List.reverse_append, dval_append, List.length_reverse]
  have e : dpw ys.length = ((256 ^ ys.length : Nat) : Int) := by unfold dpw; push_cast; rfl
  rw [e]
  grind

theorem bn_cons (x : Int) (xs : List Int) : bn (x :: xs) = x * ((256 ^ xs.length : Nat) : Int) + bn xs := by
  have := bn_app [x] xs
  rw [List.singleton_append] at this
  rw [this]
  have : bn [x] = x := by simp [bn, dval]
  rw [this]

abbrev wd (xs : List Int) : D := .ints .u32 xs

def xor2 (a b : Int) : Int := bitsK .xor .u32 a b
def and2 (a b : Int) : Int := bitsK .and .u32 a b
def not2 (a : Int) : Int := bitsK .xor .u32 4294967295 a
def add2 (a b : Int) : Int := IntKind.u32.wrap (a + b)
/-- A word turned to the right. -/
def rot2 (x : Int) (n : Nat) : Int := bitsK .or .u32 (x / 2 ^ n) (IntKind.u32.wrap (x * 2 ^ (32 - n)))

theorem wrap32_range (n : Int) : 0 ≤ IntKind.u32.wrap n ∧ IntKind.u32.wrap n < 4294967296 := by
  simp [IntKind.wrap, IntKind.bits, IntKind.signed]; omega
theorem wrap32 (n : Int) : IntKind.u32.wrap n = n % 4294967296 := by
  simp [IntKind.wrap, IntKind.bits, IntKind.signed]
theorem add2_assoc (a b c : Int) : add2 (add2 a b) c = add2 a (add2 b c) := by
  unfold add2
  rw [wrap32, wrap32, wrap32, wrap32]
  omega
theorem or_comm2 (a b : Int) : bitsK .or .u32 a b = bitsK .or .u32 b a := by
  unfold bitsK
  dsimp only
  rw [BitVec.or_comm]

def sml0 (x : Int) : Int := xor2 (xor2 (rot2 x 7) (rot2 x 18)) (x / 2 ^ 3)
def sml1 (x : Int) : Int := xor2 (xor2 (rot2 x 17) (rot2 x 19)) (x / 2 ^ 10)
def big0 (x : Int) : Int := xor2 (xor2 (rot2 x 2) (rot2 x 13)) (rot2 x 22)
def big1 (x : Int) : Int := xor2 (xor2 (rot2 x 6) (rot2 x 11)) (rot2 x 25)
def chx (e f g : Int) : Int := xor2 (and2 e f) (and2 (not2 e) g)
def mjx (a b c : Int) : Int := xor2 (xor2 (and2 a b) (and2 a c)) (and2 b c)

/-- Word number i of a block's spread, those ahead of it given. -/
def nextW (b ws : List Int) (i : Nat) : Int :=
  if i < 16 then bn (cutB b (4 * i) 4)
  else add2 (add2 (add2 (ws.getD (i - 16) 0) (sml0 (ws.getD (i - 15) 0))) (ws.getD (i - 7) 0)) (sml1 (ws.getD (i - 2) 0))
def schW (b : List Int) : Nat → List Int
  | 0 => []
  | k + 1 => schW b k ++ [nextW b (schW b k) k]
theorem schW_len (b : List Int) : ∀ k, (schW b k).length = k
  | 0 => rfl
  | k + 1 => by simp [schW, schW_len b k]
/-- The rounds' constants. -/
def KK : List Int := [0x428a2f98, 0x71374491, 0xb5c0fbcf, 0xe9b5dba5, 0x3956c25b, 0x59f111f1, 0x923f82a4, 0xab1c5ed5,
  0xd807aa98, 0x12835b01, 0x243185be, 0x550c7dc3, 0x72be5d74, 0x80deb1fe, 0x9bdc06a7, 0xc19bf174,
  0xe49b69c1, 0xefbe4786, 0x0fc19dc6, 0x240ca1cc, 0x2de92c6f, 0x4a7484aa, 0x5cb0a9dc, 0x76f988da,
  0x983e5152, 0xa831c66d, 0xb00327c8, 0xbf597fc7, 0xc6e00bf3, 0xd5a79147, 0x06ca6351, 0x14292967,
  0x27b70a85, 0x2e1b2138, 0x4d2c6dfc, 0x53380d13, 0x650a7354, 0x766a0abb, 0x81c2c92e, 0x92722c85,
  0xa2bfe8a1, 0xa81a664b, 0xc24b8b70, 0xc76c51a3, 0xd192e819, 0xd6990624, 0xf40e3585, 0x106aa070,
  0x19a4c116, 0x1e376c08, 0x2748774c, 0x34b0bcb5, 0x391c0cb3, 0x4ed8aa4a, 0x5b9cca4f, 0x682e6ff3,
  0x748f82ee, 0x78a5636f, 0x84c87814, 0x8cc70208, 0x90befffa, 0xa4506ceb, 0xbef9a3f7, 0xc67178f2]
/-- The state at first. -/
def H0 : List Int := [0x6a09e667, 0xbb67ae85, 0x3c6ef372, 0xa54ff53a, 0x510e527f, 0x9b05688c, 0x1f83d9ab, 0x5be0cd19]

def tmp1 (s : List Int) (k w : Int) : Int := add2 (add2 (add2 (add2 (s.getD 7 0) (big1 (s.getD 4 0))) (chx (s.getD 4 0) (s.getD 5 0) (s.getD 6 0))) k) w
def tmp2 (s : List Int) : Int := add2 (big0 (s.getD 0 0)) (mjx (s.getD 0 0) (s.getD 1 0) (s.getD 2 0))
/-- A round. -/
def rnd (s : List Int) (k w : Int) : List Int :=
  [add2 (tmp1 s k w) (tmp2 s), s.getD 0 0, s.getD 1 0, s.getD 2 0, add2 (s.getD 3 0) (tmp1 s k w), s.getD 4 0, s.getD 5 0, s.getD 6 0]
def rnds (s ws : List Int) : Nat → List Int
  | 0 => s
  | k + 1 => rnd (rnds s ws k) (KK.getD k 0) (ws.getD k 0)
theorem rnds_len (s ws : List Int) (hs : s.length = 8) : ∀ k, (rnds s ws k).length = 8
  | 0 => hs
  | k + 1 => rfl
/-- The state behind a block. -/
def blkS (s b : List Int) : List Int := (List.range 8).map fun i => add2 (s.getD i 0) ((rnds s (schW b 64) 64).getD i 0)
theorem blkS_len (s b : List Int) : (blkS s b).length = 8 := by simp [blkS]
/-- The state behind so many blocks. -/
def foldS (s p : List Int) : Nat → List Int
  | 0 => s
  | k + 1 => blkS (foldS s p k) (cutB p (64 * k) 64)
theorem foldS_len (s p : List Int) (hs : s.length = 8) : ∀ k, (foldS s p k).length = 8
  | 0 => hs
  | k + 1 => blkS_len _ _
/-- A text, a bit 1, noughts, and how many bits it has. -/
def padS (b : List Int) : List Int := b ++ [128] ++ List.replicate ((119 - b.length % 64) % 64) 0 ++ be 8 (8 * b.length % 18446744073709551616)
theorem padS_len (b : List Int) : (padS b).length % 64 = 0 := by
  simp [padS, be_length]; omega
/-- THE SUM. -/
def sumS (b : List Int) : List Int := (foldS H0 (padS b) ((padS b).length / 64)).flatMap fun x => be 4 x.toNat

theorem flat_len (xs : List Int) : (xs.flatMap fun x => be 4 x.toNat).length = 4 * xs.length := by
  induction xs with
  | nil => rfl
  | cons x xs ih => simp [be_length, ih]; omega
theorem sumS_len (b : List Int) : (sumS b).length = 32 := by
  unfold sumS
  rw [flat_len, foldS_len _ _ rfl]
theorem sumS_wfd (b : List Int) : wfd (sumS b) := fun x hx => by
  unfold sumS at hx
  obtain ⟨y, _, h⟩ := List.mem_flatMap.1 hx
  exact be_wfd _ _ x h

/-! ### Words turned -/
theorem minb {n : Nat} (h : n ≤ 32) : min n (IntKind.bits .u32) = n := Nat.min_eq_left (by simp [IntKind.bits]; omega)

theorem s_right (x : Int) (n : Nat) (hn : 1 ≤ n ∧ n ≤ 31) : Imm Tryd.prog 120 [u32 x, i64 n] (fun r => r = u32 (rot2 x n)) := by
  have e1 : IntKind.i64.wrap (32 - (n : Int)) = ((32 - n : Nat) : Int) := by rw [wrap_i64 (by omega) (by omega)]; omega
  (refine Imm.of_awp (⟨fun _ => false, fun _ _ => [], fun r => if r == 1 then .take 0 (.take 1 (.take 2 (.take 3 (.take 4 (.take 5 (.take 6 (.take 7 (.take 8 .done)))))))) else .done⟩ : AW.Told) [] Tryd.func120 rfl (by decide) (Nat.le_of_ble_eq_true rfl) ?_; intro _w0 _S0 _E0 _B0; ((conv=>whnf);repeat'((first|(show(_=true→_)∧(_=false→_);first|refine gT ?_|refine gF ?_|refine gS ?_ ?_<;>(intro _h;try contradiction))|(show(_=false→_)∧(_=true→_);first|refine gU ?_|refine gV ?_|refine gZ ?_ ?_<;>(intro _h;try contradiction))|(intro _h;try contradiction)|(show _∧_;refine gA ?_)|fail);all_goals conv=>whnf)))
  refine Ends.imm rfl ?_
  unfold rot2
  rw [e1, Int.toNat_natCast, Int.toNat_natCast, minb (by omega), minb (by omega)]

theorem s_rotl (x : Int) (n : Nat) (hn : 1 ≤ n ∧ n ≤ 31) : Imm Tryd.prog 133 [u32 x, i64 (IntKind.i64.wrap (0 - (n : Int)))] (fun r => r = u32 (rot2 x n)) := by
  have e : bitsK .and .u64 (IntKind.u64.wrap (IntKind.i64.wrap (0 - (n : Int)))) 31 = ((32 - n : Nat) : Int) := by
    have : ∀ k : Fin 32, 1 ≤ k.val → bitsK .and .u64 (IntKind.u64.wrap (IntKind.i64.wrap (0 - (k.val : Int)))) 31 = ((32 - k.val : Nat) : Int) := by decide
    exact this ⟨n, by omega⟩ hn.1
  have e2 : IntKind.u64.wrap (32 - ((32 - n : Nat) : Int)) = (n : Int) := by rw [wrap_u64 (by omega) (by omega)]; omega
  have e3 : 0 ≤ IntKind.u64.wrap (32 - bitsK .and .u64 (IntKind.u64.wrap (IntKind.i64.wrap (0 - (n : Int)))) 31) := by rw [e, e2]; omega
  (refine Imm.of_awp told0 [] Tryd.func133 rfl (by decide) (Nat.le_of_ble_eq_true rfl) ?_; intro _w0 _S0 _E0 _B0; ((conv=>whnf);repeat'((first|(show(_=true→_)∧(_=false→_);first|refine gT ?_|refine gF ?_|refine gS ?_ ?_<;>(intro _h;try contradiction))|(show(_=false→_)∧(_=true→_);first|refine gU ?_|refine gV ?_|refine gZ ?_ ?_<;>(intro _h;try contradiction))|(intro _h;try contradiction)|(show _∧_;refine gA ?_)|fail);all_goals conv=>whnf)))
  refine Ends.imm rfl ?_
  rw [e, e2, Int.toNat_natCast, Int.toNat_natCast, minb (by omega), minb (by omega), or_comm2]
  rfl

theorem s_turn (x : Int) (n : Nat) (hn : 1 ≤ n ∧ n ≤ 31) : Imm Tryd.prog 129 [u32 x, i64 n] (fun r => r = u32 (rot2 x n)) := by
  (refine Imm.of_awp told0 [] Tryd.func129 rfl (by decide) (Nat.le_of_ble_eq_true rfl) ?_; intro _w0 _S0 _E0 _B0; ((conv=>whnf);repeat'((first|(show(_=true→_)∧(_=false→_);first|refine nTt ?_|refine nFf ?_|refine gS ?_ ?_<;>(intro _h;try contradiction))|(show(_=false→_)∧(_=true→_);first|refine nU ?_|refine nV ?_|refine gZ ?_ ?_<;>(intro _h;try contradiction))|(intro _h;try contradiction)|(show _∧_;refine gA ?_)|fail);all_goals conv=>whnf)))
  refine acallI (s_rotl x n hn) rfl fun r hr => ?_
  subst hr
  ((conv=>whnf);repeat'((first|(show(_=true→_)∧(_=false→_);first|refine nTt ?_|refine nFf ?_|refine gS ?_ ?_<;>(intro _h;try contradiction))|(show(_=false→_)∧(_=true→_);first|refine nU ?_|refine nV ?_|refine gZ ?_ ?_<;>(intro _h;try contradiction))|(intro _h;try contradiction)|(show _∧_;refine gA ?_)|fail);all_goals conv=>whnf))
  exact Ends.imm rfl rfl

def toldW : AW.Told := ⟨fun _ => false, fun _ _ => [], fun r =>
  if r == 14 || r == 15 then .take 0 (.take 1 (.take 2 (.take 3 (.take 4 (.take 6 (.take 7 (.take 8 (.take 9 (.take 10 (.take 13 (.take 14 (.take 15 (.take 16 (.take 17 (.take 18 (.one 5 (.one 11 (.take 12 (.take 19 (.take 20 .done))))))))))))))))))))
  else if r == 16 then .take 0 (.take 1 (.take 2 (.take 3 (.take 4 (.take 6 (.take 8 (.take 9 (.take 10 (.take 11 (.take 14 (.two 5 (.take 7 (.one 12 (.take 13 (.take 15 (.one 16 (.one 17 (.take 18 .done))))))) 12 (.one 5 (.take 7 (.take 13 (.take 15 (.one 16 (.one 17 (.take 18 .done))))))))))))))))))
  else .done⟩

theorem cutB_get (b : List Int) (off len j : Nat) (h : j < len) : (cutB b off len).getD j 0 = b.getD (off + j) 0 := by
  unfold cutB
  rw [List.getD_eq_getElem?_getD, List.getElem?_drop, List.getElem?_take, if_pos (by omega), ← List.getD_eq_getElem?_getD]

theorem s_words (b : List Int) (hb : wfd b) (hl : b.length = 64) : Imm Tryd.prog 118 [.d (byt b)] (fun r => r = .d (wd (schW b 64))) := by
  (refine Imm.of_awp toldW [2] Tryd.func118 rfl (by decide) (Nat.le_of_ble_eq_true rfl) ?_; intro _w0 _S0 _E0 _B0; ((conv=>whnf);repeat'((first|(show(_=true→_)∧(_=false→_);first|refine nTt ?_|refine nFf ?_|refine gS ?_ ?_<;>(intro _h;try contradiction))|(show(_=false→_)∧(_=true→_);first|refine nU ?_|refine nV ?_|refine gZ ?_ ?_<;>(intro _h;try contradiction))|(intro _h;try contradiction)|(show _∧_;refine gA ?_)|fail);all_goals conv=>whnf)))
  refine AWp.adopt 3 (.row .u32 79 []) rfl rfl ?_
  refine aloop (T := toldW) (ι := Nat) (fun k => [(0, .d (byt b)), (3, .own 0), (4, i64 k)]) (fun k => [(0, .row .u32 79 (schW b k))]) 96 1
    (fun k => 16 - k) (fun k => k ≤ 16)
    ⟨0, [0], rfl, by omega, by (refine ⟨rfl, rfl, ?_, ?_⟩ <;> repeat' (first | exact True.intro | rfl | decide | (refine And.intro ?_ ?_)))⟩ ?_
  intro k hk
  have hsl := schW_len b k
  rcases Nat.lt_or_ge k 16 with h16 | h16
  · have hcl : (cutB b (4 * k) 4).length = 4 := cutB_len (by omega)
    have hcw : wfd (cutB b (4 * k) 4) := hb.cut _ _
    ((conv=>whnf);repeat'((first|(show(_=true→_)∧(_=false→_);first|refine gT ?_|refine gF ?_|refine gS ?_ ?_<;>(intro _h;try contradiction))|(show(_=false→_)∧(_=true→_);first|refine gU ?_|refine gV ?_|refine gZ ?_ ?_<;>(intro _h;try contradiction))|(intro _h;try contradiction)|(show _∧_;refine gA ?_)|fail);all_goals conv=>whnf))
    refine aloop (T := toldW) (ι := Nat) (fun j => [(0, .d (byt b)), (3, .own 0), (4, i64 k), (5, u32 (bn ((cutB b (4 * k) 4).take j))), (6, i64 j)]) (fun j => [(0, .row .u32 79 (schW b k))]) 96 1
      (fun j => 4 - j) (fun j => j ≤ 4)
      ⟨0, [0], rfl, by omega, by (refine ⟨rfl, rfl, ?_, ?_⟩ <;> repeat' (first | exact True.intro | rfl | decide | (refine And.intro ?_ ?_)))⟩ ?_
    intro j hj
    have hlt : bn ((cutB b (4 * k) 4).take j) < ((256 ^ j : Nat) : Int) := by
      have := bn_lt (hcw.take j)
      rwa [List.length_take, Nat.min_eq_left (by omega)] at this
    have hnn := bn_nonneg (hcw.take j)
    rcases Nat.lt_or_ge j 4 with h4 | h4
    · have hp : 256 ^ j ≤ 256 ^ 3 := Nat.pow_le_pow_right (by omega) (by omega)
      have est : bn ((cutB b (4 * k) 4).take (j + 1)) = bn ((cutB b (4 * k) 4).take j) * 256 + b.getD (4 * k + j) 0 := by
        rw [take_snoc (by omega), bn_snoc, cutB_get _ _ _ _ h4]
      have hg := hb.get (4 * k + j)
      have e1 : IntKind.i64.wrap (IntKind.i64.wrap (4 * (k : Int)) + j) = ((4 * k + j : Nat) : Int) := by rw [wrap_i64 (n := 4 * (k : Int)) (by omega) (by omega), wrap_i64 (by omega) (by omega)]; omega
      ((conv=>whnf);repeat'((first|(show(_=true→_)∧(_=false→_);first|refine gT ?_|refine gF ?_|refine gS ?_ ?_<;>(intro _h;try contradiction))|(show(_=false→_)∧(_=true→_);first|refine gU ?_|refine gV ?_|refine gZ ?_ ?_<;>(intro _h;try contradiction))|(intro _h;try contradiction)|(show _∧_;refine gA ?_)|fail);all_goals conv=>whnf))
      refine ⟨j + 1, [0], by omega, by omega, rfl, ?_⟩
      (refine ⟨rfl, rfl, ?_, ?_⟩ <;> repeat' (first | exact True.intro | rfl | decide | (refine And.intro ?_ ?_)))
      · show AVal.d (.int .u32 _) = AVal.d (.int .u32 _)
        rw [e1, Int.toNat_natCast, est, wrap_u32 (n := bn _ * 256) (by omega) (by omega), wrap_u32 (n := b.getD (4 * k + j) 0) (by omega) (by omega), wrap_u32 (by omega) (by omega)]
      · exact di (by rw [wrap_i64 (by omega) (by omega)]; rfl)
    · have hj4 : j = 4 := by omega
      have hall : (cutB b (4 * k) 4).take j = cutB b (4 * k) 4 := List.take_of_length_le (by omega)
      rw [hall]
      ((conv=>whnf);repeat'((first|(show(_=true→_)∧(_=false→_);first|refine gT ?_|refine gF ?_|refine gS ?_ ?_<;>(intro _h;try contradiction))|(show(_=false→_)∧(_=true→_);first|refine gU ?_|refine gV ?_|refine gZ ?_ ?_<;>(intro _h;try contradiction))|(intro _h;try contradiction)|(show _∧_;refine gA ?_)|fail);all_goals conv=>whnf))
      refine ⟨by rw [hsl]; show (k + 1) * 4 ≤ 140737488355328; omega, ?_⟩
      ((conv=>whnf);repeat'((first|(show(_=true→_)∧(_=false→_);first|refine gT ?_|refine gF ?_|refine gS ?_ ?_<;>(intro _h;try contradiction))|(show(_=false→_)∧(_=true→_);first|refine gU ?_|refine gV ?_|refine gZ ?_ ?_<;>(intro _h;try contradiction))|(intro _h;try contradiction)|(show _∧_;refine gA ?_)|fail);all_goals conv=>whnf))
      refine ⟨k + 1, [0], by omega, by omega, rfl, ?_⟩
      (refine ⟨rfl, rfl, ?_, ?_⟩ <;> repeat' (first | exact True.intro | rfl | decide | (refine And.intro ?_ ?_)))
      · exact di (by rw [wrap_i64 (by omega) (by omega)]; rfl)
      · show some (Ob.row .u32 _ _) = some (Ob.row .u32 _ _)
        simp only [schW, nextW]
        rw [if_pos h16]
  · have hk16 : k = 16 := by omega
    subst hk16
    ((conv=>whnf);repeat'((first|(show(_=true→_)∧(_=false→_);first|refine gT ?_|refine gF ?_|refine gS ?_ ?_<;>(intro _h;try contradiction))|(show(_=false→_)∧(_=true→_);first|refine gU ?_|refine gV ?_|refine gZ ?_ ?_<;>(intro _h;try contradiction))|(intro _h;try contradiction)|(show _∧_;refine gA ?_)|fail);all_goals conv=>whnf))
    refine aloop (T := toldW) (ι := Nat) (fun k => [(3, .own 0), (7, i64 k)]) (fun k => [(0, .row .u32 79 (schW b k))]) 96 1
      (fun k => 64 - k) (fun k => 16 ≤ k ∧ k ≤ 64)
      ⟨16, [0], rfl, by omega, by (refine ⟨rfl, rfl, ?_, ?_⟩ <;> repeat' (first | exact True.intro | rfl | decide | (refine And.intro ?_ ?_)))⟩ ?_
    intro k ⟨hk1, hk2⟩
    have hsl := schW_len b k
    rcases Nat.lt_or_ge k 64 with h64 | h64
    · have e15 : IntKind.i64.wrap ((k : Int) - 15) = (k - 15 : Nat) := by rw [wrap_i64 (by omega) (by omega)]; omega
      have e2 : IntKind.i64.wrap ((k : Int) - 2) = (k - 2 : Nat) := by rw [wrap_i64 (by omega) (by omega)]; omega
      have e16 : IntKind.i64.wrap ((k : Int) - 16) = (k - 16 : Nat) := by rw [wrap_i64 (by omega) (by omega)]; omega
      have e7 : IntKind.i64.wrap ((k : Int) - 7) = (k - 7 : Nat) := by rw [wrap_i64 (by omega) (by omega)]; omega
      ((conv=>whnf);repeat'((first|(show(_=true→_)∧(_=false→_);first|refine gT ?_|refine gF ?_|refine gS ?_ ?_<;>(intro _h;try contradiction))|(show(_=false→_)∧(_=true→_);first|refine gU ?_|refine gV ?_|refine gZ ?_ ?_<;>(intro _h;try contradiction))|(intro _h;try contradiction)|(show _∧_;refine gA ?_)|fail);all_goals conv=>whnf))
      rw [e15, Int.toNat_natCast]
      refine acallI (s_right ((schW b k).getD (k - 15) 0) 7 (by omega)) rfl fun r hr => ?_
      subst hr
      ((conv=>whnf);repeat'((first|(show(_=true→_)∧(_=false→_);first|refine gT ?_|refine gF ?_|refine gS ?_ ?_<;>(intro _h;try contradiction))|(show(_=false→_)∧(_=true→_);first|refine gU ?_|refine gV ?_|refine gZ ?_ ?_<;>(intro _h;try contradiction))|(intro _h;try contradiction)|(show _∧_;refine gA ?_)|fail);all_goals conv=>whnf))
      refine acallI (s_right ((schW b k).getD (k - 15) 0) 18 (by omega)) rfl fun r hr => ?_
      subst hr
      ((conv=>whnf);repeat'((first|(show(_=true→_)∧(_=false→_);first|refine gT ?_|refine gF ?_|refine gS ?_ ?_<;>(intro _h;try contradiction))|(show(_=false→_)∧(_=true→_);first|refine gU ?_|refine gV ?_|refine gZ ?_ ?_<;>(intro _h;try contradiction))|(intro _h;try contradiction)|(show _∧_;refine gA ?_)|fail);all_goals conv=>whnf))
      rw [e2, Int.toNat_natCast]
      refine acallI (s_right ((schW b k).getD (k - 2) 0) 17 (by omega)) rfl fun r hr => ?_
      subst hr
      ((conv=>whnf);repeat'((first|(show(_=true→_)∧(_=false→_);first|refine gT ?_|refine gF ?_|refine gS ?_ ?_<;>(intro _h;try contradiction))|(show(_=false→_)∧(_=true→_);first|refine gU ?_|refine gV ?_|refine gZ ?_ ?_<;>(intro _h;try contradiction))|(intro _h;try contradiction)|(show _∧_;refine gA ?_)|fail);all_goals conv=>whnf))
      refine acallI (s_right ((schW b k).getD (k - 2) 0) 19 (by omega)) rfl fun r hr => ?_
      subst hr
      ((conv=>whnf);repeat'((first|(show(_=true→_)∧(_=false→_);first|refine gT ?_|refine gF ?_|refine gS ?_ ?_<;>(intro _h;try contradiction))|(show(_=false→_)∧(_=true→_);first|refine gU ?_|refine gV ?_|refine gZ ?_ ?_<;>(intro _h;try contradiction))|(intro _h;try contradiction)|(show _∧_;refine gA ?_)|fail);all_goals conv=>whnf))
      refine And.intro ?_ ?_
      all_goals
        ((conv=>whnf);repeat'((first|(show(_=true→_)∧(_=false→_);first|refine gT ?_|refine gF ?_|refine gS ?_ ?_<;>(intro _h;try contradiction))|(show(_=false→_)∧(_=true→_);first|refine gU ?_|refine gV ?_|refine gZ ?_ ?_<;>(intro _h;try contradiction))|(intro _h;try contradiction)|(show _∧_;refine gA ?_)|fail);all_goals conv=>whnf))
        refine ⟨by rw [hsl]; show (k + 1) * 4 ≤ 140737488355328; omega, ?_⟩
        ((conv=>whnf);repeat'((first|(show(_=true→_)∧(_=false→_);first|refine gT ?_|refine gF ?_|refine gS ?_ ?_<;>(intro _h;try contradiction))|(show(_=false→_)∧(_=true→_);first|refine gU ?_|refine gV ?_|refine gZ ?_ ?_<;>(intro _h;try contradiction))|(intro _h;try contradiction)|(show _∧_;refine gA ?_)|fail);all_goals conv=>whnf))
        refine ⟨k + 1, [0], by omega, by omega, rfl, ?_⟩
        (refine ⟨rfl, rfl, ?_, ?_⟩ <;> repeat' (first | exact True.intro | rfl | decide | (refine And.intro ?_ ?_)))
        · exact di (by rw [wrap_i64 (by omega) (by omega)]; rfl)
        · show some (Ob.row .u32 _ _) = some (Ob.row .u32 _ _)
          rw [e16, e7, Int.toNat_natCast, Int.toNat_natCast]
          simp only [schW, nextW]
          rw [if_neg (by omega)]
          rfl
    · have hk64 : k = 64 := by omega
      obtain ⟨ws, hws⟩ : ∃ ws, ws = schW b k := ⟨_, rfl⟩
      rw [← hws] at hsl ⊢
      ((conv=>whnf);repeat'((first|(show(_=true→_)∧(_=false→_);first|refine gT ?_|refine gF ?_|refine gS ?_ ?_<;>(intro _h;try contradiction))|(show(_=false→_)∧(_=true→_);first|refine gU ?_|refine gV ?_|refine gZ ?_ ?_<;>(intro _h;try contradiction))|(intro _h;try contradiction)|(show _∧_;refine gA ?_)|fail);all_goals conv=>whnf))
      refine Ends.imm rfl ?_
      rw [hws, hk64]

def toldSch : AW.Told := ⟨fun _ => false, fun _ _ => [], fun r =>
  if r == 13 then .take 0 (.take 1 (.take 2 (.take 3 (.take 4 (.take 5 (.take 6 (.take 7 (.take 8 (.take 9 .done)))))))))
  else if r == 14 then .take 0 (.take 1 (.take 2 (.take 3 (.take 4 (.take 5 (.take 7 (.take 10 (.take 11 (.take 14 (.take 15 (.take 16 (.take 17 (.take 19 (.take 21 (.take 24 (.take 25 (.one 6 (.one 8 (.take 9 (.take 12 (.take 13 (.take 18 (.one 20 (.one 22 (.take 23 (.take 26 (.take 27 (.take 28 (.one 29 .done)))))))))))))))))))))))))))))
  else .done⟩

theorem or2_step (x c : Int) (hx : 0 ≤ x) (hx2 : x < 16777216) (hc : 0 ≤ c) (hc2 : c < 256) :
    bitsK .or .u32 (IntKind.u32.wrap (x * 2 ^ (min (8 : Int).toNat (IntKind.bits .u32)))) (IntKind.u32.wrap c) = x * 256 + c := by
  obtain ⟨a, rfl⟩ : ∃ a : Nat, x = a := ⟨x.toNat, by omega⟩
  obtain ⟨d, rfl⟩ : ∃ a : Nat, c = a := ⟨c.toNat, by omega⟩
  have e0 : (a : Int) * 2 ^ (min (8 : Int).toNat (IntKind.bits .u32)) = ((a * 256 : Nat) : Int) := by
    rw [show min (8 : Int).toNat (IntKind.bits .u32) = 8 from rfl]; push_cast; rfl
  rw [e0, wrap_u32 (by omega) (by omega), wrap_u32 (by omega) (by omega)]
  have e4 : a * 256 ||| d = a * 256 + d := by
    have := Nat.shiftLeft_add_eq_or_of_lt (show d < 2 ^ 8 by omega) a
    rw [Nat.shiftLeft_eq] at this
    exact this.symm
  have e6 : (BitVec.ofInt 32 ((a * 256 : Nat) : Int) ||| BitVec.ofInt 32 (d : Int)).toNat = a * 256 ||| d := by
    simp only [BitVec.ofInt_natCast, BitVec.toNat_or, BitVec.toNat_ofNat]
    rw [Nat.mod_eq_of_lt (by omega), Nat.mod_eq_of_lt (by omega)]
  show IntKind.u32.wrap ((BitVec.ofInt 32 ((a * 256 : Nat) : Int) ||| BitVec.ofInt 32 (d : Int)).toNat : Int) = _
  rw [e6, e4, wrap_u32 (by omega) (by omega)]
  push_cast
  rfl

theorem app_get (xs ys : List Int) {j : Nat} (h : j < xs.length) : (xs ++ ys).getD j 0 = xs.getD j 0 := by
  rw [List.getD_eq_getElem?_getD, List.getElem?_append_left h, ← List.getD_eq_getElem?_getD]
theorem app_set (xs ys : List Int) (x y : Int) : (xs ++ x :: ys).set xs.length y = xs ++ y :: ys := by
  rw [List.set_append_right _ _ (Nat.le_refl _), Nat.sub_self]; rfl
theorem app_at (xs ys : List Int) (x : Int) : (xs ++ x :: ys).getD xs.length 0 = x := by
  rw [List.getD_eq_getElem?_getD, List.getElem?_append_right (Nat.le_refl _), Nat.sub_self]; rfl

theorem ones_ok (st : List (Nat × Ob)) : ∀ ns : List Int, ((flatDs (ns.map (D.int .u32))).map AVal.d).all (oneV st) = true
  | [] => rfl
  | n :: ns => by
    have := ones_ok st ns
    simp only [List.map_cons, flatDs, flatD, List.map_append, List.all_append, this, Bool.and_true]
    rfl

theorem s_sched (b : List Int) (hb : wfd b) (hl : b.length = 64) : Imm Tryd.prog 128 [.d (byt b)] (fun r => r = .d (.agg ((schW b 64).map (D.int .u32)))) := by
  (refine Imm.of_awp toldSch [] Tryd.func128 rfl (by decide) (Nat.le_of_ble_eq_true rfl) ?_; intro _w0 _S0 _E0 _B0; ((conv=>whnf);repeat'((first|(show(_=true→_)∧(_=false→_);first|refine nTt ?_|refine nFf ?_|refine gS ?_ ?_<;>(intro _h;try contradiction))|(show(_=false→_)∧(_=true→_);first|refine nU ?_|refine nV ?_|refine gZ ?_ ?_<;>(intro _h;try contradiction))|(intro _h;try contradiction)|(show _∧_;refine gA ?_)|fail);all_goals conv=>whnf)))
  refine aloop (T := toldSch) (ι := Nat) (fun k => [(0, .d (byt b)), (2, .optr 0 0), (9, i64 k)]) (fun k => [(0, .row .u32 152 (schW b k ++ List.replicate (64 - k) 0))]) 77 1
    (fun k => 16 - k) (fun k => k ≤ 16)
    ⟨0, [0], rfl, by omega, by (refine ⟨rfl, rfl, ?_, ?_⟩ <;> repeat' (first | exact True.intro | rfl | decide | (refine And.intro ?_ ?_)))⟩ ?_
  intro k hk
  have hsl := schW_len b k
  rcases Nat.lt_or_ge k 16 with h16 | h16
  · obtain ⟨ys, hys⟩ : ∃ ys, ys = cutB b (4 * k) 4 := ⟨_, rfl⟩
    have hyl : ys.length = 4 := by rw [hys]; exact cutB_len (by omega)
    have hyw : wfd ys := by rw [hys]; exact hb.cut _ _
    have e1 : IntKind.i64.wrap (4 * (k : Int)) = ((4 * k : Nat) : Int) := by rw [wrap_i64 (by omega) (by omega)]; omega
    have e2 : IntKind.i64.wrap (IntKind.i64.wrap (4 * (k : Int)) + 4) = ((4 * k + 4 : Nat) : Int) := by rw [e1, wrap_i64 (by omega) (by omega)]; omega
    have erep : List.replicate (64 - k) (0 : Int) = 0 :: List.replicate (63 - k) 0 := by rw [show 64 - k = (63 - k) + 1 by omega, List.replicate_succ]
    ((conv=>whnf);repeat'((first|(show(_=true→_)∧(_=false→_);first|refine gT ?_|refine gF ?_|refine gS ?_ ?_<;>(intro _h;try contradiction))|(show(_=false→_)∧(_=true→_);first|refine gU ?_|refine gV ?_|refine gZ ?_ ?_<;>(intro _h;try contradiction))|(intro _h;try contradiction)|(show _∧_;refine gA ?_)|fail);all_goals conv=>whnf))
    refine aloop (T := toldSch) (ι := Nat) (fun j => [(0, .d (byt b)), (2, .optr 0 0), (3, i64 k), (9, i64 k), (18, .d (byt ys)), (19, i64 4), (20, i64 j)]) (fun j => [(0, .row .u32 152 (schW b k ++ bn (ys.take j) :: List.replicate (63 - k) 0))]) 77 1
      (fun j => 4 - j) (fun j => j ≤ 4)
      ⟨0, [0], rfl, by omega, by
        (refine ⟨rfl, rfl, ?_, ?_⟩ <;> repeat' (first | exact True.intro | rfl | decide | (refine And.intro ?_ ?_)))
        · show AVal.d (.ints .u8 _) = AVal.d (.ints .u8 ys)
          rw [e2, e1, hys]; rfl
        · show AVal.d (.int .i64 _) = AVal.d (.int .i64 4)
          rw [e2, e1]
          have : ((b.take ((4 * k + 4 : Nat) : Int).toNat).drop ((4 * k : Nat) : Int).toNat).length = 4 := by
            rw [Int.toNat_natCast, Int.toNat_natCast]; simp; omega
          rw [this]; rfl
        · show some (Ob.row .u32 _ _) = some (Ob.row .u32 _ _)
          rw [erep]; rfl⟩ ?_
    intro j hj
    have hlt : bn (ys.take j) < ((256 ^ j : Nat) : Int) := by
      have := bn_lt (hyw.take j)
      rwa [List.length_take, Nat.min_eq_left (by omega)] at this
    have hnn := bn_nonneg (hyw.take j)
    have hrl : (schW b k ++ bn (ys.take j) :: List.replicate (63 - k) 0).length = 64 := by simp [hsl]; omega
    rcases Nat.lt_or_ge j 4 with h4 | h4
    · have hp : 256 ^ j ≤ 256 ^ 3 := Nat.pow_le_pow_right (by omega) (by omega)
      have est : bn (ys.take (j + 1)) = bn (ys.take j) * 256 + ys.getD j 0 := by rw [take_snoc (by omega), bn_snoc]
      have hg := hyw.get j
      ((conv=>whnf);repeat'((first|(show(_=true→_)∧(_=false→_);first|refine gT ?_|refine gF ?_|refine gS ?_ ?_<;>(intro _h;try contradiction))|(show(_=false→_)∧(_=true→_);first|refine gU ?_|refine gV ?_|refine gZ ?_ ?_<;>(intro _h;try contradiction))|(intro _h;try contradiction)|(show _∧_;refine gA ?_)|fail);all_goals conv=>whnf))
      refine ⟨j + 1, [0], by omega, by omega, rfl, ?_⟩
      (refine ⟨rfl, rfl, ?_, ?_⟩ <;> repeat' (first | exact True.intro | rfl | decide | (refine And.intro ?_ ?_)))
      · exact di (by rw [wrap_i64 (by omega) (by omega)]; rfl)
      · show some (Ob.row .u32 _ _) = some (Ob.row .u32 _ _)
        rw [Nat.zero_add, Int.toNat_natCast, Int.toNat_natCast]
        have hat := app_at (schW b k) (List.replicate (63 - k) 0) (bn (ys.take j))
        rw [hsl] at hat
        rw [hat, or2_step _ _ hnn (by omega) hg.1 (by omega), est]
        have := app_set (schW b k) (List.replicate (63 - k) 0) (bn (ys.take j)) (bn (ys.take j) * 256 + ys.getD j 0)
        rw [hsl] at this
        rw [this]
    · have hj4 : j = 4 := by omega
      have hall : ys.take j = ys := List.take_of_length_le (by omega)
      rw [hall]
      ((conv=>whnf);repeat'((first|(show(_=true→_)∧(_=false→_);first|refine gT ?_|refine gF ?_|refine gS ?_ ?_<;>(intro _h;try contradiction))|(show(_=false→_)∧(_=true→_);first|refine gU ?_|refine gV ?_|refine gZ ?_ ?_<;>(intro _h;try contradiction))|(intro _h;try contradiction)|(show _∧_;refine gA ?_)|fail);all_goals conv=>whnf))
      refine ⟨k + 1, [0], by omega, by omega, rfl, ?_⟩
      (refine ⟨rfl, rfl, ?_, ?_⟩ <;> repeat' (first | exact True.intro | rfl | decide | (refine And.intro ?_ ?_)))
      · exact di (by rw [wrap_i64 (by omega) (by omega)]; rfl)
      · show some (Ob.row .u32 _ _) = some (Ob.row .u32 _ _)
        simp only [schW, nextW]
        rw [if_pos h16, ← hys, List.append_assoc, show 64 - (k + 1) = 63 - k by omega]
        rfl
  · have hk16 : k = 16 := by omega
    subst hk16
    ((conv=>whnf);repeat'((first|(show(_=true→_)∧(_=false→_);first|refine gT ?_|refine gF ?_|refine gS ?_ ?_<;>(intro _h;try contradiction))|(show(_=false→_)∧(_=true→_);first|refine gU ?_|refine gV ?_|refine gZ ?_ ?_<;>(intro _h;try contradiction))|(intro _h;try contradiction)|(show _∧_;refine gA ?_)|fail);all_goals conv=>whnf))
    refine aloop (T := toldSch) (ι := Nat) (fun k => [(2, .optr 0 0), (6, i64 k)]) (fun k => [(0, .row .u32 152 (schW b k ++ List.replicate (64 - k) 0))]) 77 1
      (fun k => 64 - k) (fun k => 16 ≤ k ∧ k ≤ 64)
      ⟨16, [0], rfl, by omega, by (refine ⟨rfl, rfl, ?_, ?_⟩ <;> repeat' (first | exact True.intro | rfl | decide | (refine And.intro ?_ ?_)))⟩ ?_
    intro k ⟨hk1, hk2⟩
    have hsl := schW_len b k
    have hrl : (schW b k ++ List.replicate (64 - k) 0).length = 64 := by simp [hsl]; omega
    rcases Nat.lt_or_ge k 64 with h64 | h64
    · have e15 : IntKind.i64.wrap ((k : Int) - 15) = (k - 15 : Nat) := by rw [wrap_i64 (by omega) (by omega)]; omega
      have e2 : IntKind.i64.wrap ((k : Int) - 2) = (k - 2 : Nat) := by rw [wrap_i64 (by omega) (by omega)]; omega
      have e16 : IntKind.i64.wrap ((k : Int) - 16) = (k - 16 : Nat) := by rw [wrap_i64 (by omega) (by omega)]; omega
      have e7 : IntKind.i64.wrap ((k : Int) - 7) = (k - 7 : Nat) := by rw [wrap_i64 (by omega) (by omega)]; omega
      have g : ∀ (z : Int) (j : Nat), z = (j : Nat) → j < k → (schW b k ++ List.replicate (64 - k) 0).getD (0 + z.toNat) 0 = (schW b k).getD j 0 := fun z j hz hj => by
        rw [hz, Int.toNat_natCast, Nat.zero_add, app_get _ _ (by omega)]
      have g15 := g _ _ e15 (by omega)
      have g2 := g _ _ e2 (by omega)
      have g16 := g _ _ e16 (by omega)
      have g7 := g _ _ e7 (by omega)
      ((conv=>whnf);repeat'((first|(show(_=true→_)∧(_=false→_);first|refine gT ?_|refine gF ?_|refine gS ?_ ?_<;>(intro _h;try contradiction))|(show(_=false→_)∧(_=true→_);first|refine gU ?_|refine gV ?_|refine gZ ?_ ?_<;>(intro _h;try contradiction))|(intro _h;try contradiction)|(show _∧_;refine gA ?_)|fail);all_goals conv=>whnf))
      refine acallI (s_turn ((schW b k).getD (k - 15) 0) 7 (by omega)) (by rw [← g15]; rfl) fun r hr => ?_
      subst hr
      ((conv=>whnf);repeat'((first|(show(_=true→_)∧(_=false→_);first|refine gT ?_|refine gF ?_|refine gS ?_ ?_<;>(intro _h;try contradiction))|(show(_=false→_)∧(_=true→_);first|refine gU ?_|refine gV ?_|refine gZ ?_ ?_<;>(intro _h;try contradiction))|(intro _h;try contradiction)|(show _∧_;refine gA ?_)|fail);all_goals conv=>whnf))
      refine acallI (s_turn ((schW b k).getD (k - 15) 0) 18 (by omega)) (by rw [← g15]; rfl) fun r hr => ?_
      subst hr
      ((conv=>whnf);repeat'((first|(show(_=true→_)∧(_=false→_);first|refine gT ?_|refine gF ?_|refine gS ?_ ?_<;>(intro _h;try contradiction))|(show(_=false→_)∧(_=true→_);first|refine gU ?_|refine gV ?_|refine gZ ?_ ?_<;>(intro _h;try contradiction))|(intro _h;try contradiction)|(show _∧_;refine gA ?_)|fail);all_goals conv=>whnf))
      refine acallI (s_turn ((schW b k).getD (k - 2) 0) 17 (by omega)) (by rw [← g2]; rfl) fun r hr => ?_
      subst hr
      ((conv=>whnf);repeat'((first|(show(_=true→_)∧(_=false→_);first|refine gT ?_|refine gF ?_|refine gS ?_ ?_<;>(intro _h;try contradiction))|(show(_=false→_)∧(_=true→_);first|refine gU ?_|refine gV ?_|refine gZ ?_ ?_<;>(intro _h;try contradiction))|(intro _h;try contradiction)|(show _∧_;refine gA ?_)|fail);all_goals conv=>whnf))
      refine acallI (s_turn ((schW b k).getD (k - 2) 0) 19 (by omega)) (by rw [← g2]; rfl) fun r hr => ?_
      subst hr
      ((conv=>whnf);repeat'((first|(show(_=true→_)∧(_=false→_);first|refine gT ?_|refine gF ?_|refine gS ?_ ?_<;>(intro _h;try contradiction))|(show(_=false→_)∧(_=true→_);first|refine gU ?_|refine gV ?_|refine gZ ?_ ?_<;>(intro _h;try contradiction))|(intro _h;try contradiction)|(show _∧_;refine gA ?_)|fail);all_goals conv=>whnf))
      refine ⟨k + 1, [0], by omega, by omega, rfl, ?_⟩
      (refine ⟨rfl, rfl, ?_, ?_⟩ <;> repeat' (first | exact True.intro | rfl | decide | (refine And.intro ?_ ?_)))
      · exact di (by rw [wrap_i64 (by omega) (by omega)]; rfl)
      · show some (Ob.row .u32 _ _) = some (Ob.row .u32 _ _)
        rw [g15, g2, g16, g7, Nat.zero_add, Int.toNat_natCast]
        have erep : List.replicate (64 - k) (0 : Int) = 0 :: List.replicate (63 - k) 0 := by rw [show 64 - k = (63 - k) + 1 by omega, List.replicate_succ]
        rw [erep]
        have hset := fun y => app_set (schW b k) (List.replicate (63 - k) 0) 0 y
        rw [hsl] at hset
        rw [hset]
        simp only [schW, nextW]
        rw [if_neg (by omega), List.append_assoc, show 64 - (k + 1) = 63 - k by omega]
        rfl
    · have hk64 : k = 64 := by omega
      obtain ⟨ws, hws⟩ : ∃ ws, ws = schW b k ++ List.replicate (64 - k) 0 := ⟨_, rfl⟩
      have hwe : ws = schW b 64 := by rw [hws, hk64]; simp
      rw [← hws] at hrl ⊢
      have hz : (szT Tryd.prog 152).getD 0 = 64 := rfl
      have hw2 : (ws.drop 0).take ((szT Tryd.prog 152).getD 0) = ws := by rw [hz, List.drop_zero]; exact List.take_of_length_le (by omega)
      ((conv=>whnf);repeat'((first|(show(_=true→_)∧(_=false→_);first|refine gT ?_|refine gF ?_|refine gS ?_ ?_<;>(intro _h;try contradiction))|(show(_=false→_)∧(_=true→_);first|refine gU ?_|refine gV ?_|refine gZ ?_ ?_<;>(intro _h;try contradiction))|(intro _h;try contradiction)|(show _∧_;refine gA ?_)|fail);all_goals conv=>whnf))
      refine ⟨ones_ok _ _, ?_⟩
      conv => whnf
      refine ⟨ws, by rw [hw2], by rw [hrl]; rfl, by omega, by omega, ?_⟩
      ((conv=>whnf);repeat'((first|(show(_=true→_)∧(_=false→_);first|refine gT ?_|refine gF ?_|refine gS ?_ ?_<;>(intro _h;try contradiction))|(show(_=false→_)∧(_=true→_);first|refine gU ?_|refine gV ?_|refine gZ ?_ ?_<;>(intro _h;try contradiction))|(intro _h;try contradiction)|(show _∧_;refine gA ?_)|fail);all_goals conv=>whnf))
      have e : ws.take 0 ++ ws ++ ws.drop (0 + ws.length) = ws := by simp
      refine Ends.imm rfl ?_
      rw [e, hw2, hwe]

/-- Eight words, as a struct's parts. -/
def st8 (s : List Int) : List AVal := [u32 (s.getD 0 0), u32 (s.getD 1 0), u32 (s.getD 2 0), u32 (s.getD 3 0), u32 (s.getD 4 0), u32 (s.getD 5 0), u32 (s.getD 6 0), u32 (s.getD 7 0)]
/-- A sum under way. -/
def hashC (s : List Int) (rest : AVal) (cnt : Int) : List AVal := [u32 (s.getD 0 0), u32 (s.getD 1 0), u32 (s.getD 2 0), u32 (s.getD 3 0), u32 (s.getD 4 0), u32 (s.getD 5 0), u32 (s.getD 6 0), u32 (s.getD 7 0), rest, .d (.int .u64 cnt)]
def ROUNDS : D := .agg (KK.map (D.int .u32))

def toldTake : AW.Told := ⟨fun _ => false, fun _ _ => [], fun r =>
  if r == 5 then .take 0 (.take 1 (.take 2 (.take 3 (.take 4 (.take 5 .done)))))
  else if r == 6 then .take 0 (.take 1 (.take 2 (.take 4 (.take 7 (.take 11 (.take 12 (.take 13 (.take 14 (.take 15 (.take 16 (.take 17 (.take 18 (.take 19 (.take 20 (.take 22 (.take 24 (.take 25 (.take 26 (.one 3 (.one 5 (.take 6 (.one 8 (.take 9 (.take 10 (.take 21 (.take 23 (.take 27 (.take 28 .done))))))))))))))))))))))))))))
  else if r == 7 then .take 0 (.take 2 (.take 5 (.take 8 (.take 9 (.take 10 (.take 11 (.take 12 (.take 13 (.take 14 (.take 15 (.take 16 (.take 17 (.take 18 (.take 19 (.take 20 (.take 21 (.take 22 (.one 1 (.one 3 (.take 4 (.one 6 (.take 7 (.take 23 (.take 24 .done))))))))))))))))))))))))
  else if r == 13 then .take 0 (.take 1 (.take 2 (.take 3 (.take 4 (.take 5 (.take 6 (.take 7 (.take 8 (.take 9 (.take 10 (.one 11 .done)))))))))))
  else .done⟩

theorem s_take (hG : Globs.gl 4 = some ROUNDS) (s b rest : List Int) (cnt : Int) (hs : s.length = 8) (hb : wfd b) (hl : b.length = 64) :
    CSpec Tryd.prog 116 [.optr 0 0, .d (byt b)] [(0, .cell 136 (hashC s (.d (byt rest)) cnt))] 1
      (fun st nx r => st = [(0, .cell 136 (hashC (blkS s b) (.d (byt rest)) cnt))] ∧ nx = 1 ∧ r = .tup []) := by
  refine CSpec.ends (CSpec.of_awp toldTake [] Tryd.func116 rfl (by decide) (Nat.le_of_ble_eq_true rfl) fun _w0 _S0 _E0 _B0 => ?_)
  obtain ⟨s', hs'⟩ : ∃ s', s' = blkS s b := ⟨_, rfl⟩
  rw [← hs']
  obtain ⟨ws, hws⟩ : ∃ ws, ws = schW b 64 := ⟨_, rfl⟩
  have hwl : ws.length = 64 := by rw [hws]; exact schW_len b 64
  have hsc := s_sched b hb hl
  rw [← hws] at hsc
  ((conv=>whnf);repeat'((first|(show(_=true→_)∧(_=false→_);first|refine nTt ?_|refine nFf ?_|refine gS ?_ ?_<;>(intro _h;try contradiction))|(show(_=false→_)∧(_=true→_);first|refine nU ?_|refine nV ?_|refine gZ ?_ ?_<;>(intro _h;try contradiction))|(intro _h;try contradiction)|(show _∧_;refine gA ?_)|fail);all_goals conv=>whnf))
  refine acallI hsc rfl fun r hr => ?_
  subst hr
  clear hsc
  ((conv=>whnf);repeat'((first|(show(_=true→_)∧(_=false→_);first|refine nTt ?_|refine nFf ?_|refine gS ?_ ?_<;>(intro _h;try contradiction))|(show(_=false→_)∧(_=true→_);first|refine nU ?_|refine nV ?_|refine gZ ?_ ?_<;>(intro _h;try contradiction))|(intro _h;try contradiction)|(show _∧_;refine gA ?_)|fail);all_goals conv=>whnf))
  refine ⟨ones_ok _ _, ?_⟩
  conv => whnf
  refine ⟨ws, rfl, by rw [hwl]; rfl, by omega, by rw [List.length_replicate, hwl]; omega, ?_⟩
  have ews : (List.replicate 64 (0 : Int)).take 0 ++ ws ++ (List.replicate 64 (0 : Int)).drop (0 + ws.length) = ws := by rw [hwl]; simp
  rw [ews]
  ((conv=>whnf);repeat'((first|(show(_=true→_)∧(_=false→_);first|refine nTt ?_|refine nFf ?_|refine gS ?_ ?_<;>(intro _h;try contradiction))|(show(_=false→_)∧(_=true→_);first|refine nU ?_|refine nV ?_|refine gZ ?_ ?_<;>(intro _h;try contradiction))|(intro _h;try contradiction)|(show _∧_;refine gA ?_)|fail);all_goals conv=>whnf))
  rw [aev_global hG]
  ((conv=>whnf);repeat'((first|(show(_=true→_)∧(_=false→_);first|refine nTt ?_|refine nFf ?_|refine gS ?_ ?_<;>(intro _h;try contradiction))|(show(_=false→_)∧(_=true→_);first|refine nU ?_|refine nV ?_|refine gZ ?_ ?_<;>(intro _h;try contradiction))|(intro _h;try contradiction)|(show _∧_;refine gA ?_)|fail);all_goals conv=>whnf))
  refine aloop (T := toldTake) (ι := Nat) (fun k => [(0, .optr 0 0), (4, .optr 1 0), (5, .optr 2 0), (20, .d ROUNDS), (21, i64 k)])
    (fun k => [(0, .cell 136 (hashC s (.d (byt rest)) cnt)), (1, .row .u32 152 ws), (2, .cell 134 (st8 (rnds s ws k)))]) 117 3
    (fun k => 64 - k) (fun k => k ≤ 64)
    ⟨0, [0, 1, 2], rfl, by omega, by (refine ⟨rfl, rfl, ?_, ?_⟩ <;> repeat' (first | exact True.intro | rfl | decide | (refine And.intro ?_ ?_)))⟩ ?_
  intro k hk
  obtain ⟨v, hv⟩ : ∃ v, v = rnds s ws k := ⟨_, rfl⟩
  rw [← hv]
  rcases Nat.lt_or_ge k 64 with h64 | h64
  · have hkw : k < ws.length := by omega
    ((conv=>whnf);repeat'((first|(show(_=true→_)∧(_=false→_);first|refine gT ?_|refine gF ?_|refine gS ?_ ?_<;>(intro _h;try contradiction))|(show(_=false→_)∧(_=true→_);first|refine gU ?_|refine gV ?_|refine gZ ?_ ?_<;>(intro _h;try contradiction))|(intro _h;try contradiction)|(show _∧_;refine gA ?_)|fail);all_goals conv=>whnf))
    refine acallI (s_turn (v.getD 4 0) 6 (by omega)) rfl fun r hr => ?_
    subst hr
    ((conv=>whnf);repeat'((first|(show(_=true→_)∧(_=false→_);first|refine gT ?_|refine gF ?_|refine gS ?_ ?_<;>(intro _h;try contradiction))|(show(_=false→_)∧(_=true→_);first|refine gU ?_|refine gV ?_|refine gZ ?_ ?_<;>(intro _h;try contradiction))|(intro _h;try contradiction)|(show _∧_;refine gA ?_)|fail);all_goals conv=>whnf))
    refine acallI (s_turn (v.getD 4 0) 11 (by omega)) rfl fun r hr => ?_
    subst hr
    ((conv=>whnf);repeat'((first|(show(_=true→_)∧(_=false→_);first|refine gT ?_|refine gF ?_|refine gS ?_ ?_<;>(intro _h;try contradiction))|(show(_=false→_)∧(_=true→_);first|refine gU ?_|refine gV ?_|refine gZ ?_ ?_<;>(intro _h;try contradiction))|(intro _h;try contradiction)|(show _∧_;refine gA ?_)|fail);all_goals conv=>whnf))
    refine acallI (s_turn (v.getD 4 0) 25 (by omega)) rfl fun r hr => ?_
    subst hr
    ((conv=>whnf);repeat'((first|(show(_=true→_)∧(_=false→_);first|refine gT ?_|refine gF ?_|refine gS ?_ ?_<;>(intro _h;try contradiction))|(show(_=false→_)∧(_=true→_);first|refine gU ?_|refine gV ?_|refine gZ ?_ ?_<;>(intro _h;try contradiction))|(intro _h;try contradiction)|(show _∧_;refine gA ?_)|fail);all_goals conv=>whnf))
    refine acallI (s_turn (v.getD 0 0) 2 (by omega)) rfl fun r hr => ?_
    subst hr
    ((conv=>whnf);repeat'((first|(show(_=true→_)∧(_=false→_);first|refine gT ?_|refine gF ?_|refine gS ?_ ?_<;>(intro _h;try contradiction))|(show(_=false→_)∧(_=true→_);first|refine gU ?_|refine gV ?_|refine gZ ?_ ?_<;>(intro _h;try contradiction))|(intro _h;try contradiction)|(show _∧_;refine gA ?_)|fail);all_goals conv=>whnf))
    refine acallI (s_turn (v.getD 0 0) 13 (by omega)) rfl fun r hr => ?_
    subst hr
    ((conv=>whnf);repeat'((first|(show(_=true→_)∧(_=false→_);first|refine gT ?_|refine gF ?_|refine gS ?_ ?_<;>(intro _h;try contradiction))|(show(_=false→_)∧(_=true→_);first|refine gU ?_|refine gV ?_|refine gZ ?_ ?_<;>(intro _h;try contradiction))|(intro _h;try contradiction)|(show _∧_;refine gA ?_)|fail);all_goals conv=>whnf))
    refine acallI (s_turn (v.getD 0 0) 22 (by omega)) rfl fun r hr => ?_
    subst hr
    ((conv=>whnf);repeat'((first|(show(_=true→_)∧(_=false→_);first|refine gT ?_|refine gF ?_|refine gS ?_ ?_<;>(intro _h;try contradiction))|(show(_=false→_)∧(_=true→_);first|refine gU ?_|refine gV ?_|refine gZ ?_ ?_<;>(intro _h;try contradiction))|(intro _h;try contradiction)|(show _∧_;refine gA ?_)|fail);all_goals conv=>whnf))
    refine ⟨k + 1, [0, 1, 2], by omega, by omega, rfl, ?_⟩
    (refine ⟨rfl, rfl, ?_, ?_⟩ <;> repeat' (first | exact True.intro | rfl | decide | (refine And.intro ?_ ?_)))
    · exact di (by rw [wrap_i64 (by omega) (by omega)]; rfl)
    · have e : rnds s ws (k + 1) = rnd v (KK.getD k 0) (ws.getD (0 + (k : Int).toNat) 0) := by rw [hv, Nat.zero_add]; rfl
      show some (Ob.cell _ _) = some (Ob.cell _ (st8 (rnds s ws (k + 1))))
      rw [e]
      rfl
  · have hk64 : k = 64 := by omega
    ((conv=>whnf);repeat'((first|(show(_=true→_)∧(_=false→_);first|refine gT ?_|refine gF ?_|refine gS ?_ ?_<;>(intro _h;try contradiction))|(show(_=false→_)∧(_=true→_);first|refine gU ?_|refine gV ?_|refine gZ ?_ ?_<;>(intro _h;try contradiction))|(intro _h;try contradiction)|(show _∧_;refine gA ?_)|fail);all_goals conv=>whnf))
    refine AWp.rounds toldTake 9 ?_
    ((conv=>whnf);repeat'((first|(show(_=true→_)∧(_=false→_);first|refine gT ?_|refine gF ?_|refine gS ?_ ?_<;>(intro _h;try contradiction))|(show(_=false→_)∧(_=true→_);first|refine gU ?_|refine gV ?_|refine gZ ?_ ?_<;>(intro _h;try contradiction))|(intro _h;try contradiction)|(show _∧_;refine gA ?_)|fail);all_goals conv=>whnf))
    have e0 : blkS s b = (List.range 8).map fun i => add2 (s.getD i 0) (v.getD i 0) := by unfold blkS; rw [hv, hk64, hws]
    refine ⟨[0], [(0, .cell 136 (hashC s' (.d (byt rest)) cnt))], .tup [], ⟨rfl, ⟨⟨by decide, ?_⟩, trivial⟩, rfl⟩, rfl, rfl, rfl⟩
    show some (Ob.cell _ _) = some (Ob.cell _ (hashC s' (.d (byt rest)) cnt))
    rw [hs', e0]
    rfl
end Go.Proofs.YtniaeiikdgbnfaaDoor.R
namespace Go.Proofs.YtniaeiikdgbnfaaDoor.R
open Go Go.RowKit Go.Proofs Go.Proofs.YtniaeiikdgbnfaaDoor.AW
set_option linter.unusedSectionVars false
variable [Globs]
attribute [local go_sem] Oper.semAt_some
set_option maxRecDepth 100000
set_option linter.unusedSimpArgs false
set_option linter.unusedVariables false
set_option maxHeartbeats 4000000

theorem itC (l b o b3 o3 b2 o2 c : Nat) (xs : List Int) (n : Nat) (J : Nat → World → Prop) (Jx : World → Prop) (W : World) (hl : xs.length ≤ 1000000000) (hn : xs.length = 64 * n) (hc0 : xs.length ≤ c)
   (hG : ∀ k W, J k W → W.cell? ⟨b, o, none⟩ = some (.slice (some ⟨b2, o2, none⟩) xs.length c) ∧ W.cell? ⟨b3, o3, none⟩ = some (.int .i64 64))
   (hY : ∀ k W, k < n → J k W → YieldAt (fence none) 0 Tryd.prog l #[.slice (some ⟨b2, o2 + 64 * k, none⟩) 64 64] W fun e W' => (e = .returned (.bool true) ∧ J (k + 1) W') ∨ (e = .returned (.bool false) ∧ Jx W'))
   (hJg : ∀ k W W', J k W → W.grownBy W' none → J k W')
   (h0 : J 0 W) : CallsIn Fence.wide 0 Tryd.prog 130 #[.func (.yield l) #[] #[], .pointer (some ⟨b, o, none⟩), .pointer (some ⟨b3, o3, none⟩)] W fun e W' => (∃ v, e = .returned v) ∧ (J n W' ∨ Jx W') := by
  have hc := (hG 0 W h0).1
  have hd := (hG 0 W h0).2
  refine callsIn_of_wp Tryd.func130 rfl trivial ?_ rfl
  simp only [Tryd.ntmps130, List.size_toArray, List.length_cons, List.length_nil, Nat.reduceAdd, Nat.reduceSub, Array.replicate_succ, Array.replicate_zero, List.push_toArray, List.append_toArray, List.nil_append, List.cons_append]
  gi_wp2
  clear hc hd
  gi_loopw [4] (fun i wr => ∃ k : Nat, k ≤ n ∧ i = .int .i64 (64 * (k : Int)) ∧ J k wr) (fun i _ => (xs.length - intOf i).toNat)
  case atStart => exact ⟨0, Nat.zero_le _, by simp, h0⟩
  case round =>
    obtain ⟨k, hk, rfl, hJ⟩ := hrel
    by_cases hlt : k < n
    · have hc := (hG k _ hJ).1
      have hd := (hG k _ hJ).2
      have hJ2 : J k wr.drew := hJg k wr _ hJ ⟨rfl, rfl, rfl, Nat.le_refl _, fun _ _ _ => rfl⟩
      obtain ⟨fn, tmps, assign, body, hy, hR⟩ := hY k _ hlt hJ2
      have hG2 : id (∀ k W, J k W → W.cell? ⟨b, o, none⟩ = some (.slice (some ⟨b2, o2, none⟩) xs.length c) ∧ W.cell? ⟨b3, o3, none⟩ = some (.int .i64 64)) := hG
      clear hG hY hJg
      gi_wp2
      gi_region
      gi_wp2
      refine ⟨rfl, RoundIn.mono hR ?_⟩
      rintro e W' (⟨rfl, hJ'⟩ | ⟨rfl, hJ'⟩)
      · have hd' := (hG2 _ _ hJ').2
        clear hG2 hc hd hR hy
        gi_wp2
        go_roundw
        case rel => exact ⟨k + 1, by omega, by simp; omega, hJ'⟩
        case measure => simp [intOf]; omega
      · clear hG2
        gi_wp2
        exact bodyPost_ret (results_none rfl _ _ _) rfl ⟨⟨_, rfl⟩, .inr hJ'⟩
    · have : k = n := by omega
      subst this
      have hc := (hG k _ hJ).1
      clear hG hY
      gi_wp2
      go_end0
      exact ⟨⟨_, rfl⟩, .inl hJ⟩

/-- The stretches of 64 of a list, one by one. -/
theorem aiC (xs : List Int) (n : Nat) (hn : xs.length = 64 * n) (hl : xs.length ≤ 1000000000) (h0 : 0 < n) : AIter Tryd.prog 130 [.ptr (byt xs), .ptr (.int .i64 64)] n (fun k => [byt (cutB xs (64 * k) 64)]) := by
  refine ⟨⟨_, Tryd.func130, rfl, by decide⟩, fun w S lb h => ?_⟩
  simp only [RepAll, Rep] at h
  obtain ⟨c1, c2, e, ⟨b, o, rfl, hSb, vs, hcb, A, c, rfl, hle, hL, hwf, hne⟩, c3, c4, rfl, ⟨b3, o3, rfl, hSb3, vs3, hcb3, rfl, _⟩, rfl⟩ := h
  have hlb : lb = #[.pointer (some ⟨b, o, none⟩), .pointer (some ⟨b3, o3, none⟩)] := by apply Array.ext'; simpa using e
  subst hlb
  obtain ⟨b2, o2, rfl, hS2, hc2⟩ := hne (fun h => by subst h; simp at hn; omega)
  refine ⟨fun k => #[.slice (some ⟨b2, o2 + 64 * k, none⟩) 64 64], fun k hk => ?_, fun l J Jx W hJg hJxg hG hY h0 => ?_⟩
  · have hcl : (cutB xs (64 * k) 64).length = 64 := cutB_len (by omega)
    simp only [List.map_cons, List.map_nil, VAll, VRel, Rep]
    refine ⟨_, _, rfl, ⟨[.slice (some ⟨b2, o2 + 64 * k, none⟩) 64 64], ⟨some ⟨b2, o2 + 64 * k, none⟩, 64, by rw [hcl], by omega, by rw [hcl]; unfold LIM; omega, fun x hx => hwf x (List.mem_of_mem_take (List.mem_of_mem_drop hx)), fun _ => ⟨b2, o2 + 64 * k, rfl, hS2, ?_⟩⟩, rfl⟩, rfl⟩
    intro i v hv
    have hi : i < 64 := by
      have := (List.getElem?_eq_some_iff.1 hv).1
      simpa [hcl] using this
    have := hc2 (64 * k + i) v (by
      rw [← hv, List.getElem?_map, List.getElem?_map]
      unfold cutB
      rw [List.getElem?_drop, List.getElem?_take_of_lt (by omega)])
    rwa [← Nat.add_assoc] at this
  · have hcell : ∀ W : World, (∀ b, S b → W.heap[b]? = w.heap[b]?) → W.cell? ⟨b, o, none⟩ = some (.slice (some ⟨b2, o2, none⟩) xs.length c) ∧ W.cell? ⟨b3, o3, none⟩ = some (.int .i64 64) := fun W hW => by
      have h1 := (Cells.keep hcb (hW b hSb)) 0 _ rfl
      have h2 := (Cells.keep hcb3 (hW b3 hSb3)) 0 _ rfl
      exact ⟨by simpa using h1, by simpa using h2⟩
    refine callsIn_fence.1 (?_ : CallsIn Fence.wide 0 _ _ _ _ _)
    exact itC l b o b3 o3 b2 o2 c xs n J Jx W hl hn hle (fun k W hJ => hcell W (hG k W hJ)) hY hJg h0
end Go.Proofs.YtniaeiikdgbnfaaDoor.R
namespace Go.Proofs.YtniaeiikdgbnfaaDoor.R
open Go Go.RowKit Go.Proofs Go.Proofs.YtniaeiikdgbnfaaDoor.AW
set_option linter.unusedSectionVars false
variable [Globs]
set_option maxRecDepth 100000
set_option linter.unusedSimpArgs false
set_option linter.unusedVariables false
set_option maxHeartbeats 4000000

theorem cutB_app (t b : List Int) {off len : Nat} (h : off + len ≤ t.length) : cutB (t ++ b) off len = cutB t off len := by
  unfold cutB
  rw [List.take_append_of_le_length h]
theorem cutB_drop (t : List Int) (k off len : Nat) : cutB (t.drop k) off len = cutB t (k + off) len := by
  unfold cutB
  rw [List.take_drop, List.drop_drop, ← Nat.add_assoc]
theorem foldS_app (s t b : List Int) : ∀ {k : Nat}, 64 * k ≤ t.length → foldS s (t ++ b) k = foldS s t k
  | 0, _ => rfl
  | k + 1, h => by simp only [foldS]; rw [foldS_app s t b (show 64 * k ≤ t.length by omega), cutB_app _ _ (by omega)]
theorem foldS_split (s p : List Int) (k : Nat) : ∀ j, foldS s p (k + j) = foldS (foldS s p k) (p.drop (64 * k)) j
  | 0 => rfl
  | j + 1 => by
    rw [← Nat.add_assoc]
    simp only [foldS]
    rw [foldS_split s p k j, cutB_drop, Nat.mul_add]

/-- The state, what is left, and how many there were, behind a text. -/
def stS (t : List Int) : List Int := foldS H0 t (t.length / 64)
def reS (t : List Int) : List Int := t.drop (64 * (t.length / 64))
theorem stS_len (t : List Int) : (stS t).length = 8 := foldS_len _ _ rfl _
theorem reS_len (t : List Int) : (reS t).length = t.length % 64 := by simp [reS]; omega
theorem reS_wfd {t : List Int} (h : wfd t) : wfd (reS t) := h.drop _
theorem stS_app (t b : List Int) : stS (t ++ b) = foldS (stS t) (reS t ++ b) ((reS t ++ b).length / 64) ∧ reS (t ++ b) = (reS t ++ b).drop (64 * ((reS t ++ b).length / 64)) := by
  have hl := reS_len t
  have e : (t ++ b).length / 64 = t.length / 64 + (reS t ++ b).length / 64 := by simp [hl]; omega
  have e2 : (t ++ b).drop (64 * (t.length / 64)) = reS t ++ b := by
    unfold reS
    rw [List.drop_append_of_le_length (by omega)]
  constructor
  · unfold stS
    rw [e, foldS_split, e2, foldS_app H0 t b (by omega)]
  · rw [show reS (t ++ b) = (t ++ b).drop (64 * ((t ++ b).length / 64)) from rfl, e, Nat.mul_add, ← List.drop_drop, e2]

def FIRST : D := .agg (H0.map (D.int .u32))

theorem s_new (hF : Globs.gl 1 = some FIRST) : CSpec Tryd.prog 98 [] [] 0
    (fun st nx r => st = [(1, .row .u8 5 []), (0, .cell 136 (hashC H0 (.own 1) 0))] ∧ nx = 2 ∧ r = .optr 0 0) := by
  have h : CSpec Tryd.prog 98 [] [] 0 (fun st nx r => st = [(0, .cell 136 (hashC H0 (.nls (byt [])) 0))] ∧ nx = 1 ∧ r = .optr 0 0) := by
    refine CSpec.ends (CSpec.of_awp told0 [] Tryd.func98 rfl (by decide) (Nat.le_of_ble_eq_true rfl) fun _w0 _S0 _E0 _B0 => ?_)
    ((conv=>whnf);repeat'((first|(show(_=true→_)∧(_=false→_);first|refine nTt ?_|refine nFf ?_|refine gS ?_ ?_<;>(intro _h;try contradiction))|(show(_=false→_)∧(_=true→_);first|refine nU ?_|refine nV ?_|refine gZ ?_ ?_<;>(intro _h;try contradiction))|(intro _h;try contradiction)|(show _∧_;refine gA ?_)|fail);all_goals conv=>whnf))
    rw [aev_global hF]
    ((conv=>whnf);repeat'((first|(show(_=true→_)∧(_=false→_);first|refine nTt ?_|refine nFf ?_|refine gS ?_ ?_<;>(intro _h;try contradiction))|(show(_=false→_)∧(_=true→_);first|refine nU ?_|refine nV ?_|refine gZ ?_ ?_<;>(intro _h;try contradiction))|(intro _h;try contradiction)|(show _∧_;refine gA ?_)|fail);all_goals conv=>whnf))
    exact ⟨[0], [(0, .cell 136 (hashC H0 (.nls (byt [])) 0))], .optr 0 0, ⟨rfl, ⟨⟨by decide, rfl⟩, trivial⟩, rfl⟩, rfl, rfl, rfl⟩
  refine h.adoptPart fun st nx r ⟨e1, e2, e3⟩ => .inr ⟨0, 136, hashC H0 (.nls (byt [])) 0, 8, .nls (byt []), .u8, 5, by rw [e1]; rfl, rfl, rfl, ?_, ?_, e3⟩
  · rw [e1, e2]; rfl
  · rw [e2]

def toldWr : AW.Told := ⟨fun f => f == 116, fun r i => if r == 1 && i == 7 then [20] else [], fun _ => .done⟩

/-- A copy, of whatever length: the caller's own. -/
theorem k_cloneA (xs : List Int) (hl : xs.length ≤ 1000000000) : CSpec Tryd.prog 47 [.d (byt xs)] [] 0 (fun st nx r => st = [(0, .row .u8 5 xs)] ∧ nx = 1 ∧ r = .own 0) := by
  have h : CSpec Tryd.prog 47 [.d (byt xs)] [] 0 (fun st nx r => st = [(0, .row .u8 5 xs)] ∧ nx = 1 ∧ r = .own 0 ∨ xs = [] ∧ st = [] ∧ nx = 0 ∧ isEm r = true) := by
    refine CSpec.ends (CSpec.of_awp told0 [] Tryd.func47 rfl (by decide) (Nat.le_of_ble_eq_true rfl) fun _w0 _S0 _E0 _B0 => ?_)
    ((conv=>whnf);repeat'((first|(show(_=true→_)∧(_=false→_);first|refine nTt ?_|refine nFf ?_|refine gS ?_ ?_<;>(intro _h;try contradiction))|(show(_=false→_)∧(_=true→_);first|refine nU ?_|refine nV ?_|refine gZ ?_ ?_<;>(intro _h;try contradiction))|(intro _h;try contradiction)|(show _∧_;refine gA ?_)|fail);all_goals conv=>whnf))
    refine ⟨fun h0 => ?_, ?_⟩
    · ((conv=>whnf);repeat'((first|(show(_=true→_)∧(_=false→_);first|refine nTt ?_|refine nFf ?_|refine gS ?_ ?_<;>(intro _h;try contradiction))|(show(_=false→_)∧(_=true→_);first|refine nU ?_|refine nV ?_|refine gZ ?_ ?_<;>(intro _h;try contradiction))|(intro _h;try contradiction)|(show _∧_;refine gA ?_)|fail);all_goals conv=>whnf))
      exact ⟨[], [], .nls (byt []), ⟨rfl, trivial, rfl⟩, .inr ⟨h0, rfl, rfl, rfl⟩⟩
    · ((conv=>whnf);repeat'((first|(show(_=true→_)∧(_=false→_);first|refine nTt ?_|refine nFf ?_|refine gS ?_ ?_<;>(intro _h;try contradiction))|(show(_=false→_)∧(_=true→_);first|refine nU ?_|refine nV ?_|refine gZ ?_ ?_<;>(intro _h;try contradiction))|(intro _h;try contradiction)|(show _∧_;refine gA ?_)|fail);all_goals conv=>whnf))
      refine ⟨by show (0 + xs.length) * 1 ≤ 140737488355328; omega, ?_⟩
      ((conv=>whnf);repeat'((first|(show(_=true→_)∧(_=false→_);first|refine nTt ?_|refine nFf ?_|refine gS ?_ ?_<;>(intro _h;try contradiction))|(show(_=false→_)∧(_=true→_);first|refine nU ?_|refine nV ?_|refine gZ ?_ ?_<;>(intro _h;try contradiction))|(intro _h;try contradiction)|(show _∧_;refine gA ?_)|fail);all_goals conv=>whnf))
      exact ⟨[0], [(0, .row .u8 5 xs)], .own 0, ⟨rfl, ⟨⟨by decide, rfl⟩, trivial⟩, rfl⟩, .inl ⟨rfl, rfl, rfl⟩⟩
  refine h.adoptR fun st nx r h => ?_
  rcases h with h | ⟨rfl, rfl, rfl, h⟩
  · exact .inl h
  · exact .inr ⟨h, .u8, 5, rfl, rfl, rfl⟩

theorem drop64 (all : List Int) (k : Nat) : (((all.drop (64 * k)).take (Int.toNat 64)).drop 0) = cutB all (64 * k) 64 := by
  unfold cutB
  rw [List.drop_zero, List.take_drop]; rfl
theorem drop64' (all : List Int) (k : Nat) : ((all.drop (64 * k)).take (all.drop (64 * k)).length).drop (Int.toNat 64) = all.drop (64 * (k + 1)) := by
  rw [List.take_length, List.drop_drop]; rfl

theorem s_write (hG : Globs.gl 4 = some ROUNDS) (s xs b : List Int) (cnt : Int) (hs : s.length = 8) (hx : wfd xs) (hb : wfd b) (hl : xs.length + b.length ≤ 100000000) :
    CSpec Tryd.prog 99 [.optr 0 0, .d (byt b)] [(0, .cell 136 (hashC s (.own 1) cnt)), (1, .row .u8 5 xs)] 2
      (fun st nx r => st = [(2, .row .u8 5 ((xs ++ b).drop (64 * ((xs ++ b).length / 64)))), (0, .cell 136 (hashC (foldS s (xs ++ b) ((xs ++ b).length / 64)) (.own 2) (IntKind.u64.wrap (cnt + b.length))))] ∧ nx = 3 ∧ r = .tup []) := by
  obtain ⟨all, hall⟩ : ∃ all, all = xs ++ b := ⟨_, rfl⟩
  have hal : all.length = xs.length + b.length := by rw [hall, List.length_append]
  have haw : wfd all := by rw [hall]; exact hx.append hb
  have hw0 : IntKind.u64.wrap (b.length : Int) = b.length := wrap_u64 (by omega) (by omega)
  rw [← hall]
  refine CSpec.ends (CSpec.of_awp toldWr [] Tryd.func99 rfl (by decide) (Nat.le_of_ble_eq_true rfl) fun _w0 _S0 _E0 _B0 => ?_)
  ((conv=>whnf);repeat'((first|(show(_=true→_)∧(_=false→_);first|refine gT ?_|refine gF ?_|refine gS ?_ ?_<;>(intro _h;try contradiction))|(show(_=false→_)∧(_=true→_);first|refine gU ?_|refine gV ?_|refine gZ ?_ ?_<;>(intro _h;try contradiction))|(intro _h;try contradiction)|(show _∧_;refine gA ?_)|fail);all_goals conv=>whnf))
  refine AWp.renew 1 rfl ?_
  refine AWp.scope (T := toldWr) (ι := Nat) (L := 0) rfl (fun k => [(0, .optr 0 0)]) (fun k => [(0, .cell 136 (hashC (foldS s all k) (.d (byt (all.drop (64 * k)))) (IntKind.u64.wrap (cnt + IntKind.u64.wrap b.length))))]) 52 2
    (fun k => all.length - 64 * k) (fun k => 64 * k ≤ all.length) ?_ ?_
  · subst hall
    ((conv=>whnf);repeat'((first|(show(_=true→_)∧(_=false→_);first|refine gT ?_|refine gF ?_|refine gS ?_ ?_<;>(intro _h;try contradiction))|(show(_=false→_)∧(_=true→_);first|refine gU ?_|refine gV ?_|refine gZ ?_ ?_<;>(intro _h;try contradiction))|(intro _h;try contradiction)|(show _∧_;refine gA ?_)|fail);all_goals conv=>whnf))
    refine ⟨by show (xs.length + b.length) * 1 ≤ 140737488355328; omega, ?_⟩
    ((conv=>whnf);repeat'((first|(show(_=true→_)∧(_=false→_);first|refine gT ?_|refine gF ?_|refine gS ?_ ?_<;>(intro _h;try contradiction))|(show(_=false→_)∧(_=true→_);first|refine gU ?_|refine gV ?_|refine gZ ?_ ?_<;>(intro _h;try contradiction))|(intro _h;try contradiction)|(show _∧_;refine gA ?_)|fail);all_goals conv=>whnf))
    · refine acall [0] (s_take hG s (cutB (xs ++ b) 0 64) (xs ++ b) _ hs ((hx.append hb).cut _ _) (cutB_len (by omega))) rfl ⟨⟨by decide, rfl⟩, trivial⟩ rfl (fun h => Bool.noConfusion h) ?_
      rintro st nx r ⟨rfl, rfl, rfl⟩
      ((conv=>whnf);repeat'((first|(show(_=true→_)∧(_=false→_);first|refine gT ?_|refine gF ?_|refine gS ?_ ?_<;>(intro _h;try contradiction))|(show(_=false→_)∧(_=true→_);first|refine gU ?_|refine gV ?_|refine gZ ?_ ?_<;>(intro _h;try contradiction))|(intro _h;try contradiction)|(show _∧_;refine gA ?_)|fail);all_goals conv=>whnf))
      refine ⟨1, [0, 1], by omega, rfl, ?_⟩
      have hd := drop64' (xs ++ b) 0
      rw [Nat.mul_zero, List.drop_zero] at hd
      rw [← hd]
      (refine ⟨rfl, rfl, ?_, ?_⟩ <;> repeat' (first | exact True.intro | rfl | decide | (refine And.intro ?_ ?_)))
    · have hkk : (xs ++ b).length / 64 = 0 := by omega
      refine acall [] (k_cloneA (xs ++ b) (by rw [List.length_append]; omega)) rfl (by simp [stIn]) rfl (fun _ => rfl) ?_
      rintro st nx r ⟨rfl, rfl, rfl⟩
      ((conv=>whnf);repeat'((first|(show(_=true→_)∧(_=false→_);first|refine gT ?_|refine gF ?_|refine gS ?_ ?_<;>(intro _h;try contradiction))|(show(_=false→_)∧(_=true→_);first|refine gU ?_|refine gV ?_|refine gZ ?_ ?_<;>(intro _h;try contradiction))|(intro _h;try contradiction)|(show _∧_;refine gA ?_)|fail);all_goals conv=>whnf))
      refine ⟨[0, 1, 3], [(2, .row .u8 5 ((xs ++ b).drop (64 * ((xs ++ b).length / 64)))), (0, .cell 136 (hashC (foldS s (xs ++ b) ((xs ++ b).length / 64)) (.own 2) (IntKind.u64.wrap (cnt + b.length))))], .tup [], ⟨rfl, ?_, rfl⟩, rfl, rfl, rfl⟩
      rw [hkk, Nat.mul_zero, List.drop_zero]
      refine ⟨⟨by decide, rfl⟩, ⟨by decide, ?_⟩, trivial⟩
      rw [hw0]
      rfl
  · intro k hk
    have hdl : (all.drop (64 * k)).length = all.length - 64 * k := by simp
    have hfl := foldS_len s all hs k
    rcases Nat.lt_or_ge (all.length - 64 * k) 64 with h64 | h64
    · have hkk : all.length / 64 = k := by omega
      ((conv=>whnf);repeat'((first|(show(_=true→_)∧(_=false→_);first|refine gT ?_|refine gF ?_|refine gS ?_ ?_<;>(intro _h;try contradiction))|(show(_=false→_)∧(_=true→_);first|refine gU ?_|refine gV ?_|refine gZ ?_ ?_<;>(intro _h;try contradiction))|(intro _h;try contradiction)|(show _∧_;refine gA ?_)|fail);all_goals conv=>whnf))
      refine acall [] (k_cloneA (all.drop (64 * k)) (by omega)) rfl (by simp [stIn]) rfl (fun _ => rfl) ?_
      rintro st nx r ⟨rfl, rfl, rfl⟩
      ((conv=>whnf);repeat'((first|(show(_=true→_)∧(_=false→_);first|refine gT ?_|refine gF ?_|refine gS ?_ ?_<;>(intro _h;try contradiction))|(show(_=false→_)∧(_=true→_);first|refine gU ?_|refine gV ?_|refine gZ ?_ ?_<;>(intro _h;try contradiction))|(intro _h;try contradiction)|(show _∧_;refine gA ?_)|fail);all_goals conv=>whnf))
      refine ⟨[0, 1, 2], [(2, .row .u8 5 (all.drop (64 * (all.length / 64)))), (0, .cell 136 (hashC (foldS s all (all.length / 64)) (.own 2) (IntKind.u64.wrap (cnt + b.length))))], .tup [], ⟨rfl, ?_, rfl⟩, rfl, rfl, rfl⟩
      rw [hkk]
      refine ⟨⟨by decide, rfl⟩, ⟨by decide, ?_⟩, trivial⟩
      rw [hw0]
      rfl
    · ((conv=>whnf);repeat'((first|(show(_=true→_)∧(_=false→_);first|refine gT ?_|refine gF ?_|refine gS ?_ ?_<;>(intro _h;try contradiction))|(show(_=false→_)∧(_=true→_);first|refine gU ?_|refine gV ?_|refine gZ ?_ ?_<;>(intro _h;try contradiction))|(intro _h;try contradiction)|(show _∧_;refine gA ?_)|fail);all_goals conv=>whnf))
      refine acall [0] (s_take hG (foldS s all k) (cutB all (64 * k) 64) (all.drop (64 * k)) _ hfl (haw.cut _ _) (cutB_len (by omega))) rfl ⟨⟨by decide, rfl⟩, trivial⟩ (by rw [← drop64]; rfl) (fun h => Bool.noConfusion h) ?_
      rintro st nx r ⟨rfl, rfl, rfl⟩
      ((conv=>whnf);repeat'((first|(show(_=true→_)∧(_=false→_);first|refine gT ?_|refine gF ?_|refine gS ?_ ?_<;>(intro _h;try contradiction))|(show(_=false→_)∧(_=true→_);first|refine gU ?_|refine gV ?_|refine gZ ?_ ?_<;>(intro _h;try contradiction))|(intro _h;try contradiction)|(show _∧_;refine gA ?_)|fail);all_goals conv=>whnf))
      refine ⟨k + 1, [0, 1], by omega, by omega, rfl, ?_⟩
      (refine ⟨rfl, rfl, ?_, ?_⟩ <;> repeat' (first | exact True.intro | rfl | decide | (refine And.intro ?_ ?_)))
      show some (Ob.cell _ _) = some (Ob.cell _ _)
      rw [← drop64']
      rfl
end Go.Proofs.YtniaeiikdgbnfaaDoor.R
