/- Parts K8, K9, K10, K11, K12, K13, K14, K15, K16, K17, K18, S1, S2, S3, S4, S5. No condition of its own. -/
import Derived.Test.YtniaeiikdgbnfaaGreatDoorSH9
import Derived.Test.YtniaeiikdgbnfaaGreatDoorSH5

namespace Go.Proofs.YtniaeiikdgbnfaaGreatDoor.R
open Go Go.RowKit Go.Proofs Go.Proofs.YtniaeiikdgbnfaaGreatDoor.AW
set_option linter.unusedSectionVars false
variable [Globs]
set_option maxRecDepth 100000
set_option linter.unusedSimpArgs false
set_option linter.unusedVariables false
set_option maxHeartbeats 4000000

theorem trim_len {zs : List Int} (h : wfd zs) (ht : trimmed zs) {k : Nat} (hv : dval zs < dpw k) : zs.length ≤ k := by
  rcases Nat.lt_or_ge k zs.length with hk | hk
  · obtain ⟨n, hn⟩ : ∃ n, zs.length = n + 1 := ⟨zs.length - 1, by omega⟩
    have h2 : zs.getD n 0 ≠ 0 := by
      rcases ht with h | h
      · subst h; simp at hn
      · rw [hn] at h; exact h
    have h3 := h.get n
    have h4 := dval_take_succ zs n
    rw [List.take_of_length_le (by omega)] at h4
    have h5 := dval_nonneg (h.take n)
    have h6 := dpw_pos n
    have h7 : dpw n * 1 ≤ dpw n * zs.getD n 0 := Int.mul_le_mul_of_nonneg_left (by omega) (by omega)
    have h8 := dpw_le (show k ≤ n by omega)
    omega
  · exact hk

/-- A square, again and again. -/
def sq (x n : Int) : Nat → Int
  | 0 => x
  | k + 1 => sq x n k * sq x n k % n
theorem sq_pow (x n : Int) (hx : x % n = x) : ∀ k, sq x n k = x ^ (2 ^ k) % n
  | 0 => by rw [show (2 ^ 0 : Nat) = 1 from rfl, Int.pow_succ, Int.pow_zero, Int.one_mul, hx]; rfl
  | k + 1 => by
    simp only [sq, sq_pow x n hx k]
    rw [← Int.mul_emod, ← Int.pow_add, Nat.pow_succ, Nat.mul_two]

theorem sq_fin (x n : Int) (k : Nat) : x ^ k % n * x % n = x ^ (k + 1) % n := by
  rw [Int.mul_emod, Int.emod_emod, ← Int.mul_emod, ← Int.pow_succ]

def toldROpen : AW.Told := told0

theorem k_refOpen (m sig : List Int) (hm : wfd m) (hs : wfd sig) (h0 : 0 < bn m) (hl : m.length ≤ 1000) (hls : sig.length ≤ 1000) (hl1 : 1 ≤ m.length) :
    Imm Tryz.prog 10 [.d (byt m), .d (byt sig)] (fun r => if sig.length ≠ m.length then r = .tup [.nls (byt []), i64 24] else if bn m ≤ bn sig then r = .tup [.nls (byt []), i64 13]
      else r = .tup [.d (byt (be m.length (bn sig ^ 65537 % bn m).toNat)), i64 0]) := by
  (refine Imm.of_awp told0 [] Tryz.func10 rfl (by decide) (Nat.le_of_ble_eq_true rfl) ?_; intro _w0 _S0 _E0 _B0; ((conv=>whnf);repeat'((first|(show(_=true→_)∧(_=false→_);first|refine nTt ?_|refine nFf ?_|refine gS ?_ ?_<;>(intro _h;try contradiction))|(show(_=false→_)∧(_=true→_);first|refine nU ?_|refine nV ?_|refine gZ ?_ ?_<;>(intro _h;try contradiction))|(intro _h;try contradiction)|(show _∧_;refine gA ?_)|fail);all_goals conv=>whnf)))
  · refine Ends.imm rfl ?_
    rw [if_pos (by omega)]
  have hle : sig.length = m.length := by omega
  refine acallI (k_low m hm (by omega)) rfl fun r hr => ?_
  obtain ⟨nn, rfl, hnl, hnw, hnt, hnv⟩ := hr
  ((conv=>whnf);repeat'((first|(show(_=true→_)∧(_=false→_);first|refine gT ?_|refine gF ?_|refine gS ?_ ?_<;>(intro _h;try contradiction))|(show(_=false→_)∧(_=true→_);first|refine gU ?_|refine gV ?_|refine gZ ?_ ?_<;>(intro _h;try contradiction))|(intro _h;try contradiction)|(show _∧_;refine gA ?_)|fail);all_goals conv=>whnf))
  refine acallI (k_low sig hs (by omega)) rfl fun r hr => ?_
  obtain ⟨xx, rfl, hxl, hxw, hxt, hxv⟩ := hr
  ((conv=>whnf);repeat'((first|(show(_=true→_)∧(_=false→_);first|refine gT ?_|refine gF ?_|refine gS ?_ ?_<;>(intro _h;try contradiction))|(show(_=false→_)∧(_=true→_);first|refine gU ?_|refine gV ?_|refine gZ ?_ ?_<;>(intro _h;try contradiction))|(intro _h;try contradiction)|(show _∧_;refine gA ?_)|fail);all_goals conv=>whnf))
  refine acallI (f26 xx nn hxw hnw hxt hnt (by omega)) rfl fun r hr => ?_
  subst hr
  have hsg := sgn_nonneg (dval xx) (dval nn)
  have hn0 : dval nn = bn m := hnv
  have hx0 : dval xx = bn sig := hxv
  by_cases hge : bn m ≤ bn sig
  · have hs0 : 0 ≤ sgn (dval xx) (dval nn) := hsg.2 (by omega)
    ((conv=>whnf);repeat'((first|(show(_=true→_)∧(_=false→_);first|refine gT ?_|refine gF ?_|refine gS ?_ ?_<;>(intro _h;try contradiction))|(show(_=false→_)∧(_=true→_);first|refine gU ?_|refine gV ?_|refine gZ ?_ ?_<;>(intro _h;try contradiction))|(intro _h;try contradiction)|(show _∧_;refine gA ?_)|fail);all_goals conv=>whnf))
    exact Ends.imm rfl (by rw [if_neg (by omega), if_pos hge])
  have hs0 : ¬ 0 ≤ sgn (dval xx) (dval nn) := fun h => hge (by have := hsg.1 h; omega)
  ((conv=>whnf);repeat'((first|(show(_=true→_)∧(_=false→_);first|refine gT ?_|refine gF ?_|refine gS ?_ ?_<;>(intro _h;try contradiction))|(show(_=false→_)∧(_=true→_);first|refine gU ?_|refine gV ?_|refine gZ ?_ ?_<;>(intro _h;try contradiction))|(intro _h;try contradiction)|(show _∧_;refine gA ?_)|fail);all_goals conv=>whnf))
  have hxn := dval_nonneg hxw
  have hx1 : dval xx % dval nn = dval xx := Int.emod_eq_of_lt hxn (by omega)
  refine aloop (T := told0) (ι := Nat × List Int) (fun p => [(0, .d (byt m)), (6, .d (digs nn)), (7, .d (digs xx)), (8, .d (digs p.2)), (9, i64 p.1)]) (fun _ => []) 42 0
    (fun p => 16 - p.1) (fun p => p.1 ≤ 16 ∧ wfd p.2 ∧ trimmed p.2 ∧ p.2.length ≤ 1010 ∧ dval p.2 = sq (dval xx) (dval nn) p.1)
    ⟨(0, xx), [], rfl, ⟨by omega, hxw, hxt, by dsimp only; omega, rfl⟩, by (refine ⟨rfl, rfl, ?_, ?_⟩ <;> repeat' (first | exact True.intro | rfl | decide | (refine And.intro ?_ ?_)))⟩ ?_
  intro ⟨k, ys⟩ ⟨hk, hyw, hyt, hyl, hyv⟩
  dsimp only at hk hyw hyt hyl hyv ⊢
  rcases Nat.lt_or_ge k 16 with hk16 | hk16
  · ((conv=>whnf);repeat'((first|(show(_=true→_)∧(_=false→_);first|refine gT ?_|refine gF ?_|refine gS ?_ ?_<;>(intro _h;try contradiction))|(show(_=false→_)∧(_=true→_);first|refine gU ?_|refine gV ?_|refine gZ ?_ ?_<;>(intro _h;try contradiction))|(intro _h;try contradiction)|(show _∧_;refine gA ?_)|fail);all_goals conv=>whnf))
    refine acallI (f20 ys ys hyw hyw (by omega)) rfl fun r hr => ?_
    obtain ⟨zs, rfl, hzl, hzw, hzt, hzv⟩ := hr
    ((conv=>whnf);repeat'((first|(show(_=true→_)∧(_=false→_);first|refine gT ?_|refine gF ?_|refine gS ?_ ?_<;>(intro _h;try contradiction))|(show(_=false→_)∧(_=true→_);first|refine gU ?_|refine gV ?_|refine gZ ?_ ?_<;>(intro _h;try contradiction))|(intro _h;try contradiction)|(show _∧_;refine gA ?_)|fail);all_goals conv=>whnf))
    refine acallI (f16 zs nn hzw hnw (by omega) (by omega)) rfl fun r hr => ?_
    obtain ⟨us, rfl, hul, huw, hut, huv⟩ := hr
    ((conv=>whnf);repeat'((first|(show(_=true→_)∧(_=false→_);first|refine gT ?_|refine gF ?_|refine gS ?_ ?_<;>(intro _h;try contradiction))|(show(_=false→_)∧(_=true→_);first|refine gU ?_|refine gV ?_|refine gZ ?_ ?_<;>(intro _h;try contradiction))|(intro _h;try contradiction)|(show _∧_;refine gA ?_)|fail);all_goals conv=>whnf))
    refine ⟨(k + 1, us), [], by dsimp only; omega, ⟨by dsimp only; omega, huw, hut, by dsimp only; omega, by dsimp only; rw [huv, hzv, hyv]; rfl⟩, rfl, ?_⟩
    (refine ⟨rfl, rfl, ?_, ?_⟩ <;> repeat' (first | exact True.intro | rfl | decide | (refine And.intro ?_ ?_)))
    exact di (by rw [wrap_i64 (by omega) (by omega)]; rfl)
  · have hk' : k = 16 := by omega
    subst hk'
    ((conv=>whnf);repeat'((first|(show(_=true→_)∧(_=false→_);first|refine gT ?_|refine gF ?_|refine gS ?_ ?_<;>(intro _h;try contradiction))|(show(_=false→_)∧(_=true→_);first|refine gU ?_|refine gV ?_|refine gZ ?_ ?_<;>(intro _h;try contradiction))|(intro _h;try contradiction)|(show _∧_;refine gA ?_)|fail);all_goals conv=>whnf))
    refine acallI (f20 ys xx hyw hxw (by omega)) rfl fun r hr => ?_
    obtain ⟨zs, rfl, hzl, hzw, hzt, hzv⟩ := hr
    ((conv=>whnf);repeat'((first|(show(_=true→_)∧(_=false→_);first|refine gT ?_|refine gF ?_|refine gS ?_ ?_<;>(intro _h;try contradiction))|(show(_=false→_)∧(_=true→_);first|refine gU ?_|refine gV ?_|refine gZ ?_ ?_<;>(intro _h;try contradiction))|(intro _h;try contradiction)|(show _∧_;refine gA ?_)|fail);all_goals conv=>whnf))
    refine acallI (f16 zs nn hzw hnw (by omega) (by omega)) rfl fun r hr => ?_
    obtain ⟨us, rfl, hul, huw, hut, huv⟩ := hr
    ((conv=>whnf);repeat'((first|(show(_=true→_)∧(_=false→_);first|refine gT ?_|refine gF ?_|refine gS ?_ ?_<;>(intro _h;try contradiction))|(show(_=false→_)∧(_=true→_);first|refine gU ?_|refine gV ?_|refine gZ ?_ ?_<;>(intro _h;try contradiction))|(intro _h;try contradiction)|(show _∧_;refine gA ?_)|fail);all_goals conv=>whnf))
    have hus : dval us = bn sig ^ 65537 % bn m := by
      rw [huv, hzv, hyv, sq_pow _ _ hx1, hn0, hx0]
      exact sq_fin (bn sig) (bn m) (2 ^ 16)
    have hb1 : dval us < dpw m.length := by
      have := Int.emod_lt_of_pos (bn sig ^ 65537) h0
      have a2 := dval_lt hm.reverse
      rw [List.length_reverse] at a2
      have a3 : bn m < dpw m.length := a2
      omega
    refine acallI (k_high us m.length huw (by omega) (trim_len huw hut hb1)) rfl fun r hr => ?_
    obtain ⟨vs, rfl, hvl, hvw, hvv⟩ := hr
    ((conv=>whnf);repeat'((first|(show(_=true→_)∧(_=false→_);first|refine gT ?_|refine gF ?_|refine gS ?_ ?_<;>(intro _h;try contradiction))|(show(_=false→_)∧(_=true→_);first|refine gU ?_|refine gV ?_|refine gZ ?_ ?_<;>(intro _h;try contradiction))|(intro _h;try contradiction)|(show _∧_;refine gA ?_)|fail);all_goals conv=>whnf))
    refine Ends.imm rfl ?_
    have : vs = be m.length (bn sig ^ 65537 % bn m).toNat := by
      have h1 : dval vs.reverse = dval (be m.length (bn sig ^ 65537 % bn m).toNat).reverse := by
        have h2 : 0 ≤ bn sig ^ 65537 % bn m := Int.emod_nonneg _ (by omega)
        rw [hvv, dval_be, hus]
        have h3 : (bn sig ^ 65537 % bn m).toNat < 256 ^ m.length := by
          have : dpw m.length = ((256 ^ m.length : Nat) : Int) := by unfold dpw; rw [Int.natCast_pow]; rfl
          omega
        rw [Nat.mod_eq_of_lt h3]
        omega
      have := dval_inj hvw.reverse (be_wfd _ _).reverse (by simp [be_length, hvl]) h1
      simpa using this
    rw [if_neg (by omega), if_neg hge, this]

def toldGrow : AW.Told := ⟨fun f => f == 1005005 || f == 1005008, fun _ _ => [], fun _ => .done⟩

theorem k_grow (n : Nat) (h0 : 0 < n) (hn : n ≤ 1000000) : CSpec Tryz.prog 81 [.nls (byt []), i64 n] [] 0 (fun st nx r => st = [(0, .row .u8 5 [])] ∧ nx = 1 ∧ r = .own 0) := by
  have e1 : IntKind.i64.wrap ((n : Int) - IntKind.i64.wrap (0 - 0)) = n := by
    rw [wrap_i64 (n := 0 - 0) (by omega) (by omega), wrap_i64 (by omega) (by omega)]; omega
  refine CSpec.ends (CSpec.of_awp toldGrow [] Tryz.func81 rfl (by decide) (Nat.le_of_ble_eq_true rfl) fun _w0 _S0 _E0 _B0 => ?_)
  ((conv=>whnf);repeat'((first|(show(_=true→_)∧(_=false→_);first|refine gT ?_|refine gF ?_|refine gS ?_ ?_<;>(intro _h;try contradiction))|(show(_=false→_)∧(_=true→_);first|refine gU ?_|refine gV ?_|refine gZ ?_ ?_<;>(intro _h;try contradiction))|(intro _h;try contradiction)|(show _∧_;refine gA ?_)|fail);all_goals conv=>whnf))
  refine ao_cap rfl rfl rfl rfl ?_
  ((conv=>whnf);repeat'((first|(show(_=true→_)∧(_=false→_);first|refine gT ?_|refine gF ?_|refine gS ?_ ?_<;>(intro _h;try contradiction))|(show(_=false→_)∧(_=true→_);first|refine gU ?_|refine gV ?_|refine gZ ?_ ?_<;>(intro _h;try contradiction))|(intro _h;try contradiction)|(show _∧_;refine gA ?_)|fail);all_goals conv=>whnf))
  refine ao_cap rfl rfl rfl rfl ?_
  ((conv=>whnf);repeat'((first|(show(_=true→_)∧(_=false→_);first|refine gT ?_|refine gF ?_|refine gS ?_ ?_<;>(intro _h;try contradiction))|(show(_=false→_)∧(_=true→_);first|refine gU ?_|refine gV ?_|refine gZ ?_ ?_<;>(intro _h;try contradiction))|(intro _h;try contradiction)|(show _∧_;refine gA ?_)|fail);all_goals conv=>whnf))
  rw [e1]
  refine ao_appz (k := .u8) (n := n) rfl rfl rfl rfl rfl rfl rfl rfl rfl rfl (by decide) h0 (by omega) ?_
  ((conv=>whnf);repeat'((first|(show(_=true→_)∧(_=false→_);first|refine gT ?_|refine gF ?_|refine gS ?_ ?_<;>(intro _h;try contradiction))|(show(_=false→_)∧(_=true→_);first|refine gU ?_|refine gV ?_|refine gZ ?_ ?_<;>(intro _h;try contradiction))|(intro _h;try contradiction)|(show _∧_;refine gA ?_)|fail);all_goals conv=>whnf))
  refine ao_cut0 (k := .u8) (j := 0) rfl rfl rfl rfl rfl rfl rfl rfl (Nat.zero_le _) (by simp; omega) ?_
  ((conv=>whnf);repeat'((first|(show(_=true→_)∧(_=false→_);first|refine gT ?_|refine gF ?_|refine gS ?_ ?_<;>(intro _h;try contradiction))|(show(_=false→_)∧(_=true→_);first|refine gU ?_|refine gV ?_|refine gZ ?_ ?_<;>(intro _h;try contradiction))|(intro _h;try contradiction)|(show _∧_;refine gA ?_)|fail);all_goals conv=>whnf))
  exact ⟨[0], [(0, .row .u8 5 [])], .own 0, ⟨rfl, ⟨⟨by decide, rfl⟩, trivial⟩, rfl⟩, rfl, rfl, rfl⟩

theorem flat_take (xss : List (List Int)) (k : Nat) (h : k < xss.length) : (xss.take (k + 1)).flatten = (xss.take k).flatten ++ xss.getD k [] := by
  rw [List.take_add_one, List.flatten_append, List.getElem?_eq_getElem h, List.getD_eq_getElem?_getD, List.getElem?_eq_getElem h]
  simp
theorem flat_le (xss : List (List Int)) (k : Nat) : (xss.take k).flatten.length ≤ xss.flatten.length := by
  have h : xss.flatten = (xss.take k).flatten ++ (xss.drop k).flatten := by rw [← List.flatten_append, List.take_append_drop]
  rw [h, List.length_append]
  omega

/-- Lists of bytes, one behind the other. -/
theorem k_concat (xss : List (List Int)) (h0 : 0 < xss.flatten.length) (hl : xss.flatten.length ≤ 1000000) (hx : xss.length ≤ 1000000) :
    Imm Tryz.prog 62 [.d (.sl 1 (xss.map byt))] (fun r => r = .d (byt xss.flatten)) := by
  (refine Imm.of_awp told0 [2] Tryz.func62 rfl (by decide) (Nat.le_of_ble_eq_true rfl) ?_; intro _w0 _S0 _E0 _B0; ((conv=>whnf);repeat'((first|(show(_=true→_)∧(_=false→_);first|refine nTt ?_|refine nFf ?_|refine gS ?_ ?_<;>(intro _h;try contradiction))|(show(_=false→_)∧(_=true→_);first|refine nU ?_|refine nV ?_|refine gZ ?_ ?_<;>(intro _h;try contradiction))|(intro _h;try contradiction)|(show _∧_;refine gA ?_)|fail);all_goals conv=>whnf)))
  refine aloop (T := told0) (fun k : Nat => [(0, .d (.sl 1 (xss.map byt))), (3, i64 (xss.take k).flatten.length), (9, .d (.sl 1 (xss.map byt))), (10, i64 xss.length), (11, i64 k)]) (fun _ => []) 36 0 (fun k => xss.length - k) (fun k => k ≤ xss.length)
    ⟨0, [], rfl, Nat.zero_le _, by (refine ⟨rfl, rfl, ?_, ?_⟩ <;> repeat' (first | exact True.intro | rfl | decide | (refine And.intro ?_ ?_))); simp [AW.upd, renV]⟩ ?_
  intro k hk
  have hf1 := flat_le xss (k + 1)
  rcases Nat.lt_or_ge k xss.length with hkl | hkl
  · have hfk := flat_take xss k hkl
    have hlen : (xss.take (k + 1)).flatten.length = (xss.take k).flatten.length + (xss.getD k []).length := by rw [hfk, List.length_append]
    have e1 : IntKind.i64.wrap (((xss.take k).flatten.length : Int) + (xss.getD k []).length) = ((xss.take (k + 1)).flatten.length : Nat) := by
      rw [wrap_i64 (by omega) (by omega)]; omega
    ((conv=>whnf);repeat'((first|(show(_=true→_)∧(_=false→_);first|refine gT ?_|refine gF ?_|refine gS ?_ ?_<;>(intro _h;try contradiction))|(show(_=false→_)∧(_=true→_);first|refine gU ?_|refine gV ?_|refine gZ ?_ ?_<;>(intro _h;try contradiction))|(intro _h;try contradiction)|(show _∧_;refine gA ?_)|fail);all_goals conv=>whnf))
    rw [Int.toNat_natCast, getD_map byt xss k [] default (by omega)]
    ((conv=>whnf);repeat'((first|(show(_=true→_)∧(_=false→_);first|refine gT ?_|refine gF ?_|refine gS ?_ ?_<;>(intro _h;try contradiction))|(show(_=false→_)∧(_=true→_);first|refine gU ?_|refine gV ?_|refine gZ ?_ ?_<;>(intro _h;try contradiction))|(intro _h;try contradiction)|(show _∧_;refine gA ?_)|fail);all_goals conv=>whnf))
    refine ⟨k + 1, [], by omega, by omega, rfl, ?_⟩
    (refine ⟨rfl, rfl, ?_, ?_⟩ <;> repeat' (first | exact True.intro | rfl | decide | (refine And.intro ?_ ?_)))
    · exact di e1
    · exact di (by rw [wrap_i64 (by omega) (by omega)]; rfl)
  · have hk' : k = xss.length := by omega
    subst hk'
    rw [List.take_length]
    ((conv=>whnf);repeat'((first|(show(_=true→_)∧(_=false→_);first|refine gT ?_|refine gF ?_|refine gS ?_ ?_<;>(intro _h;try contradiction))|(show(_=false→_)∧(_=true→_);first|refine gU ?_|refine gV ?_|refine gZ ?_ ?_<;>(intro _h;try contradiction))|(intro _h;try contradiction)|(show _∧_;refine gA ?_)|fail);all_goals conv=>whnf))
    refine acall [] (k_grow xss.flatten.length h0 hl) rfl (by simp [stIn]) rfl (fun _ => rfl) ?_
    rintro st nx r ⟨rfl, rfl, rfl⟩
    ((conv=>whnf);repeat'((first|(show(_=true→_)∧(_=false→_);first|refine gT ?_|refine gF ?_|refine gS ?_ ?_<;>(intro _h;try contradiction))|(show(_=false→_)∧(_=true→_);first|refine gU ?_|refine gV ?_|refine gZ ?_ ?_<;>(intro _h;try contradiction))|(intro _h;try contradiction)|(show _∧_;refine gA ?_)|fail);all_goals conv=>whnf))
    refine aloop (T := told0) (fun k : Nat => [(0, .d (.sl 1 (xss.map byt))), (6, .own 0), (25, .d (.sl 1 (xss.map byt))), (26, i64 xss.length), (27, i64 k)]) (fun k => [(0, .row .u8 5 (xss.take k).flatten)]) 36 1 (fun k => xss.length - k) (fun k => k ≤ xss.length)
      ⟨0, [0], rfl, Nat.zero_le _, by (refine ⟨rfl, rfl, ?_, ?_⟩ <;> repeat' (first | exact True.intro | rfl | decide | (refine And.intro ?_ ?_))); simp [AW.upd, renV]⟩ ?_
    intro k hk
    have hf1 := flat_le xss (k + 1)
    rcases Nat.lt_or_ge k xss.length with hkl | hkl
    · have hfk := flat_take xss k hkl
      have hlen : (xss.take (k + 1)).flatten.length = (xss.take k).flatten.length + (xss.getD k []).length := by rw [hfk, List.length_append]
      ((conv=>whnf);repeat'((first|(show(_=true→_)∧(_=false→_);first|refine gT ?_|refine gF ?_|refine gS ?_ ?_<;>(intro _h;try contradiction))|(show(_=false→_)∧(_=true→_);first|refine gU ?_|refine gV ?_|refine gZ ?_ ?_<;>(intro _h;try contradiction))|(intro _h;try contradiction)|(show _∧_;refine gA ?_)|fail);all_goals conv=>whnf))
      rw [Int.toNat_natCast, getD_map byt xss k [] default (by omega)]
      ((conv=>whnf);repeat'((first|(show(_=true→_)∧(_=false→_);first|refine gT ?_|refine gF ?_|refine gS ?_ ?_<;>(intro _h;try contradiction))|(show(_=false→_)∧(_=true→_);first|refine gU ?_|refine gV ?_|refine gZ ?_ ?_<;>(intro _h;try contradiction))|(intro _h;try contradiction)|(show _∧_;refine gA ?_)|fail);all_goals conv=>whnf))
      refine ⟨by show ((xss.take k).flatten.length + (xss.getD k []).length) * 1 ≤ 140737488355328; omega, ?_⟩
      ((conv=>whnf);repeat'((first|(show(_=true→_)∧(_=false→_);first|refine gT ?_|refine gF ?_|refine gS ?_ ?_<;>(intro _h;try contradiction))|(show(_=false→_)∧(_=true→_);first|refine gU ?_|refine gV ?_|refine gZ ?_ ?_<;>(intro _h;try contradiction))|(intro _h;try contradiction)|(show _∧_;refine gA ?_)|fail);all_goals conv=>whnf))
      refine ⟨k + 1, [0], by omega, by omega, rfl, ?_⟩
      (refine ⟨rfl, rfl, ?_, ?_⟩ <;> repeat' (first | exact True.intro | rfl | decide | (refine And.intro ?_ ?_)))
      · exact di (by rw [wrap_i64 (by omega) (by omega)]; rfl)
      · show some (Ob.row .u8 _ _) = some (Ob.row .u8 _ _)
        rw [hfk]
    · have hk' : k = xss.length := by omega
      subst hk'
      rw [List.take_length]
      ((conv=>whnf);repeat'((first|(show(_=true→_)∧(_=false→_);first|refine gT ?_|refine gF ?_|refine gS ?_ ?_<;>(intro _h;try contradiction))|(show(_=false→_)∧(_=true→_);first|refine gU ?_|refine gV ?_|refine gZ ?_ ?_<;>(intro _h;try contradiction))|(intro _h;try contradiction)|(show _∧_;refine gA ?_)|fail);all_goals conv=>whnf))
      exact Ends.imm rfl rfl

def keyBytes (m : List Int) (n0 : Int) (rr : List Int) : List Int := (be 4 (8 * m.length) ++ be 4 n0.toNat) ++ (m ++ be m.length (val rr).toNat)

def toldKB : AW.Told := ⟨fun _ => false, fun r i => if r == 4 && i == 7 then [41] else [], fun _ => .done⟩

def hx (c : Int) : Int := if 97 ≤ c ∧ c ≤ 102 then c - 97 + 10 else IntKind.u8.wrap (c - 48)
theorem hx_le (c : Int) : 0 ≤ hx c ∧ hx c ≤ 255 := by
  unfold hx
  split
  · omega
  · simp [IntKind.wrap, IntKind.bits, IntKind.signed]; omega
def hxAt (xs : List Int) (k : Nat) : Int := IntKind.u8.wrap (hx (xs.getD (2 * k) 0) * 16 + hx (xs.getD (2 * k + 1) 0))
/-- Bytes of pairs of digits. -/
def hexB (xs : List Int) : List Int := (List.range (xs.length / 2)).map (hxAt xs)
def pv (xs : List Int) (k : Nat) : Nat → Int
  | 0 => 0
  | j + 1 => pv xs k j * 16 + hx (xs.getD (2 * k + j) 0)

theorem hexB_take (xs : List Int) (k : Nat) (h : k < xs.length / 2) : (hexB xs).take (k + 1) = (hexB xs).take k ++ [hxAt xs k] := by
  rw [take_snoc (by simp [hexB]; omega)]
  congr 2
  rw [List.getD_eq_getElem?_getD, hexB, List.getElem?_map, List.getElem?_range h]; rfl

theorem k_hex (xs : List Int) (hx0 : wfd xs) (hl : xs.length ≤ 100000) (h2 : 2 ≤ xs.length) : Imm Tryz.prog 35 [.d (.str xs)] (fun r => r = .d (byt (hexB xs))) := by
  (refine Imm.of_awp told0 [2] Tryz.func35 rfl (by decide) (Nat.le_of_ble_eq_true rfl) ?_; intro _w0 _S0 _E0 _B0; ((conv=>whnf);repeat'((first|(show(_=true→_)∧(_=false→_);first|refine nTt ?_|refine nFf ?_|refine gS ?_ ?_<;>(intro _h;try contradiction))|(show(_=false→_)∧(_=true→_);first|refine nU ?_|refine nV ?_|refine gZ ?_ ?_<;>(intro _h;try contradiction))|(intro _h;try contradiction)|(show _∧_;refine gA ?_)|fail);all_goals conv=>whnf)))
  refine AWp.adopt 3 (.row .u8 5 []) rfl rfl ?_
  refine aloop (T := told0) (ι := Nat) (fun k => [(0, .d (.str xs)), (3, .own 0), (4, i64 (2 * k : Nat))]) (fun k => [(0, .row .u8 5 ((hexB xs).take k))]) 52 1
    (fun k => xs.length / 2 - k) (fun k => k ≤ xs.length / 2)
    ⟨0, [0], rfl, by omega, by (refine ⟨rfl, rfl, ?_, ?_⟩ <;> repeat' (first | exact True.intro | rfl | decide | (refine And.intro ?_ ?_)))⟩ ?_
  intro k hk
  have hlen : ((hexB xs).take k).length = k := by simp [hexB]; omega
  rcases Nat.lt_or_ge k (xs.length / 2) with hkl | hkl
  · have e1 : IntKind.i64.wrap (((2 * k : Nat) : Int) + 1) = (2 * k + 1 : Nat) := by rw [wrap_i64 (by omega) (by omega)]; omega
    have e2 : IntKind.i64.wrap (((2 * k : Nat) : Int) + 2) = (2 * k + 2 : Nat) := by rw [wrap_i64 (by omega) (by omega)]; omega
    ((conv=>whnf);repeat'((first|(show(_=true→_)∧(_=false→_);first|refine gT ?_|refine gF ?_|refine gS ?_ ?_<;>(intro _h;try contradiction))|(show(_=false→_)∧(_=true→_);first|refine gU ?_|refine gV ?_|refine gZ ?_ ?_<;>(intro _h;try contradiction))|(intro _h;try contradiction)|(show _∧_;refine gA ?_)|fail);all_goals conv=>whnf))
    obtain ⟨ys, hys⟩ : ∃ ys, ys = (xs.take (2 * k + 2)).drop (2 * k) := ⟨_, rfl⟩
    have hyl : ys.length = 2 := by rw [hys]; simp; omega
    have hyg : ∀ j, j < 2 → ys.getD j 0 = xs.getD (2 * k + j) 0 := fun j hj => by
      rw [hys, List.getD_eq_getElem?_getD, List.getElem?_drop, List.getElem?_take, if_pos (by omega), ← List.getD_eq_getElem?_getD]
    refine aloop (T := told0) (ι := Nat × Int) (fun p => [(0, .d (.str xs)), (3, .own 0), (4, i64 (2 * k : Nat)), (5, i64 p.2), (20, .d (byt ys)), (21, i64 ys.length), (22, i64 p.1)]) (fun p => [(0, .row .u8 5 ((hexB xs).take k))]) 52 1
      (fun p => 2 - p.1) (fun p => p.1 ≤ 2 ∧ p.2 = pv xs k p.1)
      ⟨(0, 0), [0], rfl, ⟨by omega, rfl⟩, by
        (refine ⟨rfl, rfl, ?_, ?_⟩ <;> repeat' (first | exact True.intro | rfl | decide | (refine And.intro ?_ ?_)))
        · show AVal.d (.ints .u8 _) = AVal.d (.ints .u8 ys)
          rw [e2, hys]; rfl
        · show AVal.d (.int .i64 _) = AVal.d (.int .i64 ys.length)
          rw [e2, hys]; rfl⟩ ?_
    intro ⟨j, n⟩ ⟨hj, hn⟩
    dsimp only at hj hn ⊢
    have hpb : ∀ j, j ≤ 2 → 0 ≤ pv xs k j ∧ pv xs k j ≤ 10000 := fun j hj => by
      have a0 := hx_le (xs.getD (2 * k + 0) 0)
      have a1 := hx_le (xs.getD (2 * k + 1) 0)
      have : j = 0 ∨ j = 1 ∨ j = 2 := by omega
      rcases this with rfl | rfl | rfl <;> simp only [pv] <;> omega
    have hp := hpb j hj
    rcases Nat.lt_or_ge j 2 with hj2 | hj2
    · have hg : ys.getD (j : Int).toNat 0 = xs.getD (2 * k + j) 0 := by rw [Int.toNat_natCast]; exact hyg j hj2
      have hc := hx0.get (2 * k + j)
      have hp1 := hpb (j + 1) (by omega)
      have hxl := hx_le (xs.getD (2 * k + j) 0)
      have e3 : IntKind.i64.wrap (n * 16) = n * 16 := wrap_i64 (by omega) (by omega)
      have key : ∀ v, v = pv xs k (j + 1) → AVal.d (.int .i64 v) = i64 (pv xs k (j + 1)) := fun v h => di h
      have hw8 : IntKind.u8.wrap (ys.getD (j : Int).toNat 0 - 48) = IntKind.u8.wrap (xs.getD (2 * k + j) 0 - 48) := by rw [hg]
      have hw8b : 0 ≤ IntKind.u8.wrap (xs.getD (2 * k + j) 0 - 48) ∧ IntKind.u8.wrap (xs.getD (2 * k + j) 0 - 48) ≤ 255 := by
        simp [IntKind.wrap, IntKind.bits, IntKind.signed]; omega
      have hlow : ¬ (97 ≤ xs.getD (2 * k + j) 0 ∧ xs.getD (2 * k + j) 0 ≤ 102) → IntKind.i64.wrap (IntKind.i64.wrap (n * 16) + IntKind.i64.wrap (IntKind.u8.wrap (ys.getD (j : Int).toNat 0 - 48))) = pv xs k (j + 1) := fun h => by
        rw [hw8, e3, wrap_i64 (n := IntKind.u8.wrap (xs.getD (2 * k + j) 0 - 48)) (by omega) (by omega), wrap_i64 (by omega) (by omega), hn]
        simp only [pv, hx]
        rw [if_neg h]
      ((conv=>whnf);repeat'((first|(show(_=true→_)∧(_=false→_);first|refine gT ?_|refine gF ?_|refine gS ?_ ?_<;>(intro _h;try contradiction))|(show(_=false→_)∧(_=true→_);first|refine gU ?_|refine gV ?_|refine gZ ?_ ?_<;>(intro _h;try contradiction))|(intro _h;try contradiction)|(show _∧_;refine gA ?_)|fail);all_goals conv=>whnf))
      · have hge : 97 ≤ xs.getD (2 * k + j) 0 ∧ xs.getD (2 * k + j) 0 ≤ 102 := by omega
        have hw9 : IntKind.u8.wrap (ys.getD (j : Int).toNat 0 - 97) = xs.getD (2 * k + j) 0 - 97 := by
          rw [hg]
          exact wrap_in.2 ⟨by simp only [loK]; omega, by simp only [hiK]; omega⟩
        refine ⟨(j + 1, pv xs k (j + 1)), [0], by dsimp only; omega, ⟨by dsimp only; omega, rfl⟩, rfl, ?_⟩
        (refine ⟨rfl, rfl, ?_, ?_⟩ <;> repeat' (first | exact True.intro | rfl | decide | (refine And.intro ?_ ?_)))
        · refine key _ ?_
          rw [hw9, e3, wrap_i64 (n := xs.getD (2 * k + j) 0 - 97) (by omega) (by omega), wrap_i64 (n := xs.getD (2 * k + j) 0 - 97 + 10) (by omega) (by omega), wrap_i64 (by omega) (by omega), hn]
          simp only [pv, hx]
          rw [if_pos hge]
        · exact di (by rw [wrap_i64 (by omega) (by omega)]; rfl)
      · refine ⟨(j + 1, pv xs k (j + 1)), [0], by dsimp only; omega, ⟨by dsimp only; omega, rfl⟩, rfl, ?_⟩
        (refine ⟨rfl, rfl, ?_, ?_⟩ <;> repeat' (first | exact True.intro | rfl | decide | (refine And.intro ?_ ?_)))
        · exact key _ (hlow (by omega))
        · exact di (by rw [wrap_i64 (by omega) (by omega)]; rfl)
      · refine ⟨(j + 1, pv xs k (j + 1)), [0], by dsimp only; omega, ⟨by dsimp only; omega, rfl⟩, rfl, ?_⟩
        (refine ⟨rfl, rfl, ?_, ?_⟩ <;> repeat' (first | exact True.intro | rfl | decide | (refine And.intro ?_ ?_)))
        · exact key _ (hlow (by omega))
        · exact di (by rw [wrap_i64 (by omega) (by omega)]; rfl)
    · have hj' : j = 2 := by omega
      ((conv=>whnf);repeat'((first|(show(_=true→_)∧(_=false→_);first|refine gT ?_|refine gF ?_|refine gS ?_ ?_<;>(intro _h;try contradiction))|(show(_=false→_)∧(_=true→_);first|refine gU ?_|refine gV ?_|refine gZ ?_ ?_<;>(intro _h;try contradiction))|(intro _h;try contradiction)|(show _∧_;refine gA ?_)|fail);all_goals conv=>whnf))
      have ebyte : IntKind.u8.wrap n = hxAt xs k := by
        rw [hn, hj']
        simp only [pv, hxAt]
        congr 1
        simp
      refine ⟨by rw [hlen]; show (k + 1) * 1 ≤ 140737488355328; omega, ?_⟩
      ((conv=>whnf);repeat'((first|(show(_=true→_)∧(_=false→_);first|refine gT ?_|refine gF ?_|refine gS ?_ ?_<;>(intro _h;try contradiction))|(show(_=false→_)∧(_=true→_);first|refine gU ?_|refine gV ?_|refine gZ ?_ ?_<;>(intro _h;try contradiction))|(intro _h;try contradiction)|(show _∧_;refine gA ?_)|fail);all_goals conv=>whnf))
      refine ⟨k + 1, [0], by omega, by omega, rfl, ?_⟩
      (refine ⟨rfl, rfl, ?_, ?_⟩ <;> repeat' (first | exact True.intro | rfl | decide | (refine And.intro ?_ ?_)))
      · exact di (by rw [e2]; omega)
      · show some (Ob.row .u8 _ _) = some (Ob.row .u8 _ _)
        rw [ebyte, hexB_take xs k hkl]
  · have e1 : IntKind.i64.wrap (((2 * k : Nat) : Int) + 1) = (2 * k + 1 : Nat) := by rw [wrap_i64 (by omega) (by omega)]; omega
    ((conv=>whnf);repeat'((first|(show(_=true→_)∧(_=false→_);first|refine gT ?_|refine gF ?_|refine gS ?_ ?_<;>(intro _h;try contradiction))|(show(_=false→_)∧(_=true→_);first|refine gU ?_|refine gV ?_|refine gZ ?_ ?_<;>(intro _h;try contradiction))|(intro _h;try contradiction)|(show _∧_;refine gA ?_)|fail);all_goals conv=>whnf))
    refine Ends.imm rfl ?_
    rw [List.take_of_length_le (by simp [hexB]; omega)]

/-- The moduli, and the exponents that go with them. -/
def keyM : Nat → Nat
  | 1 => 8798897235477369662427135118463266393166531668360946010168437584925822992125429558809574850103081583861454032877256194821401750061414846908587360976915741
  | 2 => 127999963861467928976235131166093275292161515016063763923373206774501895897251866639788429389649847322170796078865058902473104027594537885017105652176856237612874369081376323347280241957528896247405164286184783857999238518557773932972970357366484208424006982919891871196302697261030613745495102320304850740117
  | 3 => 21194976876106637767765971718165402166353776426219101977383846722248938411909916334974259674239889560497095207569630968526574494887006368495708710046325672162422584895085717556702231790328714468474804417764748464856769271775639164236900590607434035455341442204371723308978322428797989385976785730466691083582103046616771517615007258510561437830504786488550206182749961020805330594563883953407125895219372141907850320983399201270241215599536426349582548563878865734947792524324328099558734342438666921317912254057202636830323200504800306119446616233962423300924062342948048824120326245834241393092211722134327371078417
  | _ => 12607766334694039014391351008413601944683118988991459305310262151377373165058157047532882643118617957749893479614883761015472045962519006435872599572042897
def keyS : Nat → Nat
  | 1 => 665485662632596122407734592649080606288481405116928134273805682272320568781250178228116130340889242470884941083446684742951338887724730162469359910046321
  | 2 => 19049183120916691344048094653503055449840781692631774073667801039727815198303195741236296259828567743649732178095791301027730004157530242537805674060428016987991313086216564246459434546712853419322174614433193377015960796308433284073844185721518512896022191151064406223025669709891446507495599229498951901233
  | 3 => 1993305155498165339909143944411743843207981766071096251546536144049641147776168718900984932208943944735399031262575651532928603677862333524929438856989613201292271571797012682312803540590674453002799289392145309720382339847554083781285942142742567977310480782254987512624744652484801067800905120004447113747295376264649173116209078018858030489149333629011745679857466373000261196213871082456799966462884700798968705427811623624086488859501306520816411835448873617160761070230710353657650105797764969861846996854073856400239666400673624047118508045279127092387387624038080325041065703851217529775387191758196514993591
  | _ => 4461879983577615604624651717558644379571965763937522489551147675480585081767111051003969606891830699444075379236997817217414472602895223140136589450812183
def keyL : Nat → Nat
  | 2 => 128
  | 3 => 256
  | _ => 64
def modB (k : Nat) : List Int := be (keyL k) (keyM k)
def secB (k : Nat) : List Int := be (keyL k) (keyS k)
def idx (k : Int) : Nat := if k = 1 then 1 else if k = 2 then 2 else if k = 3 then 3 else 0

theorem wfd_bytesOf (s : ByteArray) : wfd (bytesOf s) := fun x hx => by
  simp only [bytesOf, List.mem_map] at hx
  obtain ⟨b, _, rfl⟩ := hx
  have := b.toNat_lt
  omega

theorem k_modulus (k : Int) : Imm Tryz.prog 13 [i64 k] (fun r => r = .d (byt (modB (idx k)))) := by
  (refine Imm.of_awp told0 [] Tryz.func13 rfl (by decide) (Nat.le_of_ble_eq_true rfl) ?_; intro _w0 _S0 _E0 _B0; ((conv=>whnf);repeat'((first|(show(_=true→_)∧(_=false→_);first|refine nTt ?_|refine nFf ?_|refine gS ?_ ?_<;>(intro _h;try contradiction))|(show(_=false→_)∧(_=true→_);first|refine nU ?_|refine nV ?_|refine gZ ?_ ?_<;>(intro _h;try contradiction))|(intro _h;try contradiction)|(show _∧_;refine gA ?_)|fail);all_goals conv=>whnf)))
  · refine acallI (k_hex (bytesOf _) (wfd_bytesOf _) (by decide +kernel) (by decide +kernel)) rfl fun r hr => ?_
    subst hr
    ((conv=>whnf);repeat'((first|(show(_=true→_)∧(_=false→_);first|refine nTt ?_|refine nFf ?_|refine gS ?_ ?_<;>(intro _h;try contradiction))|(show(_=false→_)∧(_=true→_);first|refine nU ?_|refine nV ?_|refine gZ ?_ ?_<;>(intro _h;try contradiction))|(intro _h;try contradiction)|(show _∧_;refine gA ?_)|fail);all_goals conv=>whnf))
    refine Ends.imm rfl ?_
    have : idx k = 1 := by unfold idx; simp [*]
    rw [this]
    refine congrArg (fun l => AVal.d (byt l)) ?_
    decide +kernel
  · refine acallI (k_hex (bytesOf _) (wfd_bytesOf _) (by decide +kernel) (by decide +kernel)) rfl fun r hr => ?_
    subst hr
    ((conv=>whnf);repeat'((first|(show(_=true→_)∧(_=false→_);first|refine nTt ?_|refine nFf ?_|refine gS ?_ ?_<;>(intro _h;try contradiction))|(show(_=false→_)∧(_=true→_);first|refine nU ?_|refine nV ?_|refine gZ ?_ ?_<;>(intro _h;try contradiction))|(intro _h;try contradiction)|(show _∧_;refine gA ?_)|fail);all_goals conv=>whnf))
    refine Ends.imm rfl ?_
    have : idx k = 2 := by unfold idx; simp [*]
    rw [this]
    refine congrArg (fun l => AVal.d (byt l)) ?_
    decide +kernel
  · refine acallI (k_hex (bytesOf _) (wfd_bytesOf _) (by decide +kernel) (by decide +kernel)) rfl fun r hr => ?_
    subst hr
    ((conv=>whnf);repeat'((first|(show(_=true→_)∧(_=false→_);first|refine nTt ?_|refine nFf ?_|refine gS ?_ ?_<;>(intro _h;try contradiction))|(show(_=false→_)∧(_=true→_);first|refine nU ?_|refine nV ?_|refine gZ ?_ ?_<;>(intro _h;try contradiction))|(intro _h;try contradiction)|(show _∧_;refine gA ?_)|fail);all_goals conv=>whnf))
    refine Ends.imm rfl ?_
    have : idx k = 3 := by unfold idx; simp [*]
    rw [this]
    refine congrArg (fun l => AVal.d (byt l)) ?_
    decide +kernel
  · refine acallI (k_hex (bytesOf _) (wfd_bytesOf _) (by decide +kernel) (by decide +kernel)) rfl fun r hr => ?_
    subst hr
    ((conv=>whnf);repeat'((first|(show(_=true→_)∧(_=false→_);first|refine nTt ?_|refine nFf ?_|refine gS ?_ ?_<;>(intro _h;try contradiction))|(show(_=false→_)∧(_=true→_);first|refine nU ?_|refine nV ?_|refine gZ ?_ ?_<;>(intro _h;try contradiction))|(intro _h;try contradiction)|(show _∧_;refine gA ?_)|fail);all_goals conv=>whnf))
    refine Ends.imm rfl ?_
    have : idx k = 0 := by unfold idx; simp [*]
    rw [this]
    refine congrArg (fun l => AVal.d (byt l)) ?_
    decide +kernel
theorem k_secret (k : Int) : Imm Tryz.prog 14 [i64 k] (fun r => r = .d (byt (secB (idx k)))) := by
  (refine Imm.of_awp told0 [] Tryz.func14 rfl (by decide) (Nat.le_of_ble_eq_true rfl) ?_; intro _w0 _S0 _E0 _B0; ((conv=>whnf);repeat'((first|(show(_=true→_)∧(_=false→_);first|refine nTt ?_|refine nFf ?_|refine gS ?_ ?_<;>(intro _h;try contradiction))|(show(_=false→_)∧(_=true→_);first|refine nU ?_|refine nV ?_|refine gZ ?_ ?_<;>(intro _h;try contradiction))|(intro _h;try contradiction)|(show _∧_;refine gA ?_)|fail);all_goals conv=>whnf)))
  · refine acallI (k_hex (bytesOf _) (wfd_bytesOf _) (by decide +kernel) (by decide +kernel)) rfl fun r hr => ?_
    subst hr
    ((conv=>whnf);repeat'((first|(show(_=true→_)∧(_=false→_);first|refine nTt ?_|refine nFf ?_|refine gS ?_ ?_<;>(intro _h;try contradiction))|(show(_=false→_)∧(_=true→_);first|refine nU ?_|refine nV ?_|refine gZ ?_ ?_<;>(intro _h;try contradiction))|(intro _h;try contradiction)|(show _∧_;refine gA ?_)|fail);all_goals conv=>whnf))
    refine Ends.imm rfl ?_
    have : idx k = 1 := by unfold idx; simp [*]
    rw [this]
    refine congrArg (fun l => AVal.d (byt l)) ?_
    decide +kernel
  · refine acallI (k_hex (bytesOf _) (wfd_bytesOf _) (by decide +kernel) (by decide +kernel)) rfl fun r hr => ?_
    subst hr
    ((conv=>whnf);repeat'((first|(show(_=true→_)∧(_=false→_);first|refine nTt ?_|refine nFf ?_|refine gS ?_ ?_<;>(intro _h;try contradiction))|(show(_=false→_)∧(_=true→_);first|refine nU ?_|refine nV ?_|refine gZ ?_ ?_<;>(intro _h;try contradiction))|(intro _h;try contradiction)|(show _∧_;refine gA ?_)|fail);all_goals conv=>whnf))
    refine Ends.imm rfl ?_
    have : idx k = 2 := by unfold idx; simp [*]
    rw [this]
    refine congrArg (fun l => AVal.d (byt l)) ?_
    decide +kernel
  · refine acallI (k_hex (bytesOf _) (wfd_bytesOf _) (by decide +kernel) (by decide +kernel)) rfl fun r hr => ?_
    subst hr
    ((conv=>whnf);repeat'((first|(show(_=true→_)∧(_=false→_);first|refine nTt ?_|refine nFf ?_|refine gS ?_ ?_<;>(intro _h;try contradiction))|(show(_=false→_)∧(_=true→_);first|refine nU ?_|refine nV ?_|refine gZ ?_ ?_<;>(intro _h;try contradiction))|(intro _h;try contradiction)|(show _∧_;refine gA ?_)|fail);all_goals conv=>whnf))
    refine Ends.imm rfl ?_
    have : idx k = 3 := by unfold idx; simp [*]
    rw [this]
    refine congrArg (fun l => AVal.d (byt l)) ?_
    decide +kernel
  · refine acallI (k_hex (bytesOf _) (wfd_bytesOf _) (by decide +kernel) (by decide +kernel)) rfl fun r hr => ?_
    subst hr
    ((conv=>whnf);repeat'((first|(show(_=true→_)∧(_=false→_);first|refine nTt ?_|refine nFf ?_|refine gS ?_ ?_<;>(intro _h;try contradiction))|(show(_=false→_)∧(_=true→_);first|refine nU ?_|refine nV ?_|refine gZ ?_ ?_<;>(intro _h;try contradiction))|(intro _h;try contradiction)|(show _∧_;refine gA ?_)|fail);all_goals conv=>whnf))
    refine Ends.imm rfl ?_
    have : idx k = 0 := by unfold idx; simp [*]
    rw [this]
    refine congrArg (fun l => AVal.d (byt l)) ?_
    decide +kernel
end Go.Proofs.YtniaeiikdgbnfaaGreatDoor.R
namespace Go.Proofs.YtniaeiikdgbnfaaGreatDoor.R
open Go Go.RowKit Go.Proofs Go.Proofs.YtniaeiikdgbnfaaGreatDoor.AW
set_option maxRecDepth 100000
set_option linter.unusedSimpArgs false
set_option linter.unusedVariables false
set_option maxHeartbeats 4000000

/-- A power's rest, by squares. -/
def pm : Nat → Nat → Nat → Nat → Nat
  | 0, _, _, m => 1 % m
  | f + 1, b, e, m => if e = 0 then 1 % m else if e % 2 = 1 then b * pm f (b * b % m) (e / 2) m % m else pm f (b * b % m) (e / 2) m

theorem pm_eq : ∀ (f b e m : Nat), e < 2 ^ f → pm f b e m = b ^ e % m
  | 0, b, e, m, h => by
    have : e = 0 := by simp at h; exact h
    subst this
    simp [pm]
  | f + 1, b, e, m, h => by
    have h2 : e / 2 < 2 ^ f := by rw [Nat.pow_succ] at h; omega
    unfold pm
    split
    · rename_i h0; subst h0; simp
    · rw [pm_eq f _ _ m h2, ← Nat.pow_mod, ← Nat.pow_two, ← Nat.pow_mul]
      split
      · rename_i h1
        have h4 : 2 * (e / 2) + 1 = e := by omega
        have h3 : b * b ^ (2 * (e / 2)) = b ^ e := by rw [← Nat.pow_succ', Nat.succ_eq_add_one, h4]
        rw [← h3, Nat.mul_mod, Nat.mod_mod, ← Nat.mul_mod]
      · have : 2 * (e / 2) = e := by omega
        rw [this]

set_option linter.unusedSectionVars false
variable [Globs]
theorem powV_ok {m block exp : List Int} {M B E R : Nat} (hm : bn m = M) (hb : bn block = B) (hl : block.length = m.length) (hlt : B < M) (hel : exp.length ≤ 1024) (he : ev exp = E) (hE : E < 2 ^ 4200) (hR : pm 4200 B E M = R) :
    powV m block exp = .tup [.d (byt (be m.length R)), i64 0] := by
  unfold powV
  rw [if_neg (by omega), hm, hb, if_neg (by omega), if_neg (by omega), he, ← Int.natCast_pow, ← Int.natCast_emod, Int.toNat_natCast, ← pm_eq 4200 B E M hE, hR]

theorem bn_be {n v : Nat} (h : v < 256 ^ n) : bn (be n v) = v := by
  unfold bn
  rw [dval_be, Nat.mod_eq_of_lt h]

theorem modB_len (k : Nat) : (modB k).length = keyL k := be_length _ _
theorem secB_len (k : Nat) : (secB k).length = keyL k := be_length _ _

/-- The block of the anchor, closed. -/
def ancX : Nat := 6066988274665191910888268032501191046303578170855220796717604126367961076137979329567869479535545857336114934390111988286836951580209618009209795422463266

theorem anc_bn : bn (modB 0) = keyM 0 := bn_be (by decide +kernel)
theorem anc_close : powV (modB 0) (be 64 2) (secB 0) = .tup [.d (byt (be 64 ancX)), i64 0] :=
  powV_ok anc_bn (bn_be (by decide +kernel)) (by rw [modB_len, be_length]; rfl) (by decide +kernel) (by rw [secB_len]; decide) (E := keyS 0) (by decide +kernel) (by decide +kernel) (by decide +kernel)
theorem anc_open : powV (modB 0) (be 64 ancX) [1, 0, 1] = .tup [.d (byt (be 64 2)), i64 0] :=
  powV_ok anc_bn (bn_be (by decide +kernel)) (by rw [modB_len, be_length]; rfl) (by decide +kernel) (by decide) (E := 65537) (by decide +kernel) (by decide +kernel) (by decide +kernel)
end Go.Proofs.YtniaeiikdgbnfaaGreatDoor.R
namespace Go.Proofs.YtniaeiikdgbnfaaGreatDoor.R
open Go Go.RowKit Go.Proofs Go.Proofs.YtniaeiikdgbnfaaGreatDoor.AW
set_option linter.unusedSectionVars false
variable [Globs]
set_option maxRecDepth 100000
set_option linter.unusedSimpArgs false
set_option linter.unusedVariables false
set_option maxHeartbeats 4000000

theorem be_wfd' (n v : Nat) : wfd (be n v) := be_wfd n v
theorem modB_wfd (k : Nat) : wfd (modB k) := be_wfd _ _
theorem secB_wfd (k : Nat) : wfd (secB k) := be_wfd _ _
theorem modB_right0 : notMod (modB 0) = 0 := by decide +kernel

theorem keyBytes_len (m : List Int) (n0 : Int) (rr : List Int) : (keyBytes m n0 rr).length = 8 + 2 * m.length := by
  simp [keyBytes, be_length]; omega

def toldAnc : AW.Told := ⟨fun _ => false, fun r i => if r == 7 && i == 3 then [38] else [], fun _ => .done⟩

theorem wfd_known {xs : List Int} (h : (D.ints .u8 xs).known) : wfd xs := fun x hx => by
  have := h.2 x hx
  rw [wrap_in] at this
  simp [loK, hiK] at this
  omega

theorem ev_exp : ev [1, 0, 1] = 65537 := by decide

theorem be_mod_lt {m n : List Int} {n0 : Int} {rr : List Int} (h : Key m n n0 rr) : bn m < ((256 ^ m.length : Nat) : Int) := by
  have a2 := dval_lt h.wf.reverse
  rw [List.length_reverse] at a2
  have e : dpw m.length = ((256 ^ m.length : Nat) : Int) := by unfold dpw; push_cast; rfl
  rw [← e]
  exact a2

theorem bn_nonneg {m : List Int} (h : wfd m) : 0 ≤ bn m := dval_nonneg h.reverse

theorem bn_beI {n : Nat} {v : Int} (h0 : 0 ≤ v) (h : v < ((256 ^ n : Nat) : Int)) : bn (be n v.toNat) = v := by
  rw [bn_be (by omega)]
  omega

theorem int_pow_mod (x m : Int) : ∀ e : Nat, (x % m) ^ e % m = x ^ e % m
  | 0 => by simp
  | e + 1 => by rw [Int.pow_succ, Int.pow_succ, Int.mul_emod, int_pow_mod x m e, Int.emod_emod_of_dvd _ (Int.dvd_refl _), ← Int.mul_emod]

theorem powV_cases (m block exp : List Int) : (∃ e : Int, e ≠ 0 ∧ powV m block exp = .tup [.nls (byt []), i64 e]) ∨ block.length = m.length ∧ bn block < bn m ∧ exp.length ≤ 1024 ∧ powV m block exp = .tup [.d (byt (be m.length (bn block ^ ev exp % bn m).toNat)), i64 0] := by
  unfold powV
  by_cases h1 : block.length ≠ m.length
  · rw [if_pos h1]; exact .inl ⟨24, by decide, rfl⟩
  · rw [if_neg h1]
    by_cases h2 : bn m ≤ bn block
    · rw [if_pos h2]; exact .inl ⟨13, by decide, rfl⟩
    · rw [if_neg h2]
      by_cases h3 : 1024 < exp.length
      · rw [if_pos h3]; exact .inl ⟨11, by decide, rfl⟩
      · rw [if_neg h3]; exact .inr ⟨by omega, by omega, by omega, rfl⟩

theorem be_len {n v : Nat} : (be n v).length = n := be_length n v

def toldKP : AW.Told := ⟨fun _ => false, fun r i => if r == 14 && i == 0 then [7, 14] else [], fun r => if r == 16 then .take 0 (.take 1 (.take 2 (.take 3 (.take 5 (.take 6 (.take 7 (.two 4 (.one 8 (.take 9 (.take 10 (.take 11 (.take 12 .done))))) 8 (.take 4 (.take 9 (.take 10 (.take 11 (.take 12 .done)))))))))))) else .done⟩

theorem idx_small {which : Int} (h : 0 ≤ which ∧ which ≤ 2) : (idx which = 0 ∧ which = 0) ∨ (idx which = 1 ∧ which = 1) ∨ (idx which = 2 ∧ which = 2) := by
  have : which = 0 ∨ which = 1 ∨ which = 2 := by omega
  rcases this with rfl | rfl | rfl
  · exact .inl ⟨rfl, rfl⟩
  · exact .inr (.inl ⟨rfl, rfl⟩)
  · exact .inr (.inr ⟨rfl, rfl⟩)
theorem modB_right (k : Nat) (hk : k ≤ 3) : notMod (modB k) = 0 := by
  have : k = 0 ∨ k = 1 ∨ k = 2 ∨ k = 3 := by omega
  rcases this with rfl | rfl | rfl | rfl <;> decide +kernel
theorem idx_le (k : Int) : idx k ≤ 3 := by
  unfold idx
  repeat' split
  all_goals omega
theorem keyL_le (k : Nat) : 64 ≤ keyL k ∧ keyL k ≤ 256 := by
  unfold keyL
  split <;> omega

theorem db {p q : Prop} [Decidable p] [Decidable q] (h : p ↔ q) : AVal.d (.bool (decide p)) = bool (decide q) := by
  rw [decide_eq_decide.2 h]

/-- Does a stretch lie within so many bytes? -/
def inside (o l t : Int) : Bool := decide (0 ≤ o ∧ 0 ≤ l ∧ 0 ≤ t ∧ o ≤ t ∧ l ≤ t - o)

theorem k_equal (a b : List Int) : Imm Tryz.prog 23 [.d (byt a), .d (byt b)] (fun r => r = bool (decide (a = b))) := by
  (refine Imm.of_awp told0 [] Tryz.func23 rfl (by decide) (Nat.le_of_ble_eq_true rfl) ?_; intro _w0 _S0 _E0 _B0; ((conv=>whnf);repeat'((first|(show(_=true→_)∧(_=false→_);first|refine nTt ?_|refine nFf ?_|refine gS ?_ ?_<;>(intro _h;try contradiction))|(show(_=false→_)∧(_=true→_);first|refine nU ?_|refine nV ?_|refine gZ ?_ ?_<;>(intro _h;try contradiction))|(intro _h;try contradiction)|(show _∧_;refine gA ?_)|fail);all_goals conv=>whnf)))
  refine Ends.imm rfl ?_
  exact db Iff.rfl

theorem bn_snoc (xs : List Int) (x : Int) : bn (xs ++ [x]) = bn xs * 256 + x := by
  unfold bn
  rw [List.reverse_append, List.reverse_singleton, List.singleton_append]
  simp only [dval]
  omega
theorem bn_nil : bn [] = 0 := rfl
theorem bn_lt {xs : List Int} (h : wfd xs) : bn xs < ((256 ^ xs.length : Nat) : Int) := by
  have a2 := dval_lt h.reverse
  rw [List.length_reverse] at a2
  have e : dpw xs.length = ((256 ^ xs.length : Nat) : Int) := by unfold dpw; push_cast; rfl
  rw [← e]
  exact a2

theorem wrap_u64 {n : Int} (h0 : 0 ≤ n) (h1 : n < 18446744073709551616) : IntKind.u64.wrap n = n := wrap_in.2 ⟨by simp only [loK]; omega, by simp only [hiK]; omega⟩

theorem or_u64 (x c : Int) (hx : 0 ≤ x) (hx2 : x < 72057594037927936) (hc : 0 ≤ c) (hc2 : c < 256) :
    bitsK .or .u64 (IntKind.u64.wrap (x * 2 ^ (min (8 : Int).toNat (IntKind.bits .u64)))) (IntKind.u64.wrap c) = x * 256 + c := by
  obtain ⟨a, rfl⟩ : ∃ a : Nat, x = a := ⟨x.toNat, by omega⟩
  obtain ⟨d, rfl⟩ : ∃ a : Nat, c = a := ⟨c.toNat, by omega⟩
  have e0 : (a : Int) * 2 ^ (min (8 : Int).toNat (IntKind.bits .u64)) = ((a * 256 : Nat) : Int) := by
    rw [show min (8 : Int).toNat (IntKind.bits .u64) = 8 from rfl]; push_cast; rfl
  rw [e0, wrap_u64 (by omega) (by omega), wrap_u64 (by omega) (by omega)]
  have e4 : a * 256 ||| d = a * 256 + d := by
    have := Nat.shiftLeft_add_eq_or_of_lt (show d < 2 ^ 8 by omega) a
    rw [Nat.shiftLeft_eq] at this
    exact this.symm
  have e6 : (BitVec.ofInt 64 ((a * 256 : Nat) : Int) ||| BitVec.ofInt 64 (d : Int)).toNat = a * 256 ||| d := by
    simp only [BitVec.ofInt_natCast, BitVec.toNat_or, BitVec.toNat_ofNat]
    rw [Nat.mod_eq_of_lt (by omega), Nat.mod_eq_of_lt (by omega)]
  show IntKind.u64.wrap ((BitVec.ofInt 64 ((a * 256 : Nat) : Int) ||| BitVec.ofInt 64 (d : Int)).toNat : Int) = _
  rw [e6, e4, wrap_u64 (by omega) (by omega)]
  push_cast
  rfl

/-- So many bytes from a place on. -/
def cutB (b : List Int) (off len : Nat) : List Int := (b.take (off + len)).drop off
theorem cutB_len {b : List Int} {off len : Nat} (h : off + len ≤ b.length) : (cutB b off len).length = len := by simp [cutB]; omega
theorem wfd.cut {b : List Int} (h : wfd b) (off len : Nat) : wfd (cutB b off len) := (h.take _).drop _

/-- What Get answers. -/
def getV (b : List Int) (off size : Nat) : Int × Int :=
  if inside off size b.length = false then (0, 10)
  else if 9223372036854775808 ≤ bn (cutB b off size) then (0, 11) else (bn (cutB b off size), 0)

theorem u8w (n : Nat) : IntKind.u8.wrap (n : Int) = ((n % 256 : Nat) : Int) := by
  simp [IntKind.wrap, IntKind.bits, IntKind.signed]

theorem be4 (n : Nat) : be 4 n = [((n / 16777216 % 256 : Nat) : Int), ((n / 65536 % 256 : Nat) : Int), ((n / 256 % 256 : Nat) : Int), ((n % 256 : Nat) : Int)] := by
  simp [be, List.range_succ]

theorem notMod_21 {m : List Int} (h : ¬ (64 ≤ m.length ∧ m.length ≤ 512 ∧ m.length % 64 = 0)) : notMod m = 21 := by
  unfold notMod
  rw [if_pos]
  cases hs : sized m.length with
  | false => rfl
  | true => exact (h (sized_spec.1 hs)).elim
theorem notMod_22 {m : List Int} (h : 64 ≤ m.length ∧ m.length ≤ 512 ∧ m.length % 64 = 0) (h2 : m.getD 0 0 < 128 ∨ m.getD (m.length - 1) 0 % 2 = 0) : notMod m = 22 := by
  unfold notMod
  rw [sized_spec.2 h, if_neg (by simp), if_pos h2]
theorem notMod_0 {m : List Int} (h : 64 ≤ m.length ∧ m.length ≤ 512 ∧ m.length % 64 = 0) (h2 : ¬ (m.getD 0 0 < 128 ∨ m.getD (m.length - 1) 0 % 2 = 0)) : notMod m = 0 := by
  unfold notMod
  rw [sized_spec.2 h, if_neg (by simp), if_neg h2]
theorem of_notMod {m : List Int} (h : notMod m = 0) : (64 ≤ m.length ∧ m.length ≤ 512 ∧ m.length % 64 = 0) ∧ ¬ m.getD 0 0 < 128 ∧ ¬ m.getD (m.length - 1) 0 % 2 = 0 := by
  unfold notMod at h
  cases hs : sized m.length with
  | false => rw [hs] at h; simp at h
  | true =>
    refine ⟨sized_spec.1 hs, ?_⟩
    rw [hs, if_neg (by simp)] at h
    split at h
    · omega
    · rename_i h2
      exact ⟨fun h => h2 (.inl h), fun h => h2 (.inr h)⟩

abbrev wd (xs : List Int) : D := .ints .u32 xs

def xor2 (a b : Int) : Int := bitsK .xor .u32 a b
def and2 (a b : Int) : Int := bitsK .and .u32 a b
def not2 (a : Int) : Int := bitsK .xor .u32 4294967295 a
def add2 (a b : Int) : Int := IntKind.u32.wrap (a + b)
/-- A word turned to the right. -/
def rot2 (x : Int) (n : Nat) : Int := bitsK .or .u32 (x / 2 ^ n) (IntKind.u32.wrap (x * 2 ^ (32 - n)))

theorem bitsK_range (op : BinOp) (a b : Int) : 0 ≤ bitsK op .u32 a b ∧ bitsK op .u32 a b < 4294967296 := by
  have : ∀ n : Int, 0 ≤ IntKind.u32.wrap n ∧ IntKind.u32.wrap n < 4294967296 := fun n => by
    simp [IntKind.wrap, IntKind.bits, IntKind.signed]; omega
  unfold bitsK
  dsimp only
  split <;> exact this _
theorem wrap32_range (n : Int) : 0 ≤ IntKind.u32.wrap n ∧ IntKind.u32.wrap n < 4294967296 := by
  simp [IntKind.wrap, IntKind.bits, IntKind.signed]; omega
theorem wrap32 (n : Int) : IntKind.u32.wrap n = n % 4294967296 := by
  simp [IntKind.wrap, IntKind.bits, IntKind.signed]
theorem add2_assoc (a b c : Int) : add2 (add2 a b) c = add2 a (add2 b c) := by
  unfold add2
  rw [wrap32, wrap32, wrap32, wrap32]
  omega
theorem or_comm2 (a b : Int) : bitsK .or .u32 a b = bitsK .or .u32 b a := by
  unfold bitsK
  dsimp only
  rw [BitVec.or_comm]

def sml0 (x : Int) : Int := xor2 (xor2 (rot2 x 7) (rot2 x 18)) (x / 2 ^ 3)
def sml1 (x : Int) : Int := xor2 (xor2 (rot2 x 17) (rot2 x 19)) (x / 2 ^ 10)
def big0 (x : Int) : Int := xor2 (xor2 (rot2 x 2) (rot2 x 13)) (rot2 x 22)
def big1 (x : Int) : Int := xor2 (xor2 (rot2 x 6) (rot2 x 11)) (rot2 x 25)
def chx (e f g : Int) : Int := xor2 (and2 e f) (and2 (not2 e) g)
def mjx (a b c : Int) : Int := xor2 (xor2 (and2 a b) (and2 a c)) (and2 b c)

/-- Word number i of a block's spread, those ahead of it given. -/
def nextW (b ws : List Int) (i : Nat) : Int :=
  if i < 16 then bn (cutB b (4 * i) 4)
  else add2 (add2 (add2 (ws.getD (i - 16) 0) (sml0 (ws.getD (i - 15) 0))) (ws.getD (i - 7) 0)) (sml1 (ws.getD (i - 2) 0))
def schW (b : List Int) : Nat → List Int
  | 0 => []
  | k + 1 => schW b k ++ [nextW b (schW b k) k]
theorem schW_len (b : List Int) : ∀ k, (schW b k).length = k
  | 0 => rfl
  | k + 1 => by simp [schW, schW_len b k]
theorem schW_take (b : List Int) : ∀ {k n : Nat}, k ≤ n → (schW b n).take k = schW b k
  | k, 0, h => by have : k = 0 := by omega
                  subst this; rfl
  | k, n + 1, h => by
    rcases Nat.lt_or_ge n k with h1 | h1
    · have : k = n + 1 := by omega
      subst this
      exact List.take_of_length_le (by rw [schW_len]; omega)
    · simp only [schW]
      rw [List.take_append_of_le_length (by rw [schW_len]; omega)]
      exact schW_take b h1
theorem schW_get (b : List Int) {j k n : Nat} (h : j < k) (hk : k ≤ n) : (schW b n).getD j 0 = (schW b k).getD j 0 := by
  rw [← schW_take b hk, List.getD_eq_getElem?_getD, List.getD_eq_getElem?_getD, List.getElem?_take_of_lt h]

/-- The rounds' constants. -/
def KK : List Int := [0x428a2f98, 0x71374491, 0xb5c0fbcf, 0xe9b5dba5, 0x3956c25b, 0x59f111f1, 0x923f82a4, 0xab1c5ed5,
  0xd807aa98, 0x12835b01, 0x243185be, 0x550c7dc3, 0x72be5d74, 0x80deb1fe, 0x9bdc06a7, 0xc19bf174,
  0xe49b69c1, 0xefbe4786, 0x0fc19dc6, 0x240ca1cc, 0x2de92c6f, 0x4a7484aa, 0x5cb0a9dc, 0x76f988da,
  0x983e5152, 0xa831c66d, 0xb00327c8, 0xbf597fc7, 0xc6e00bf3, 0xd5a79147, 0x06ca6351, 0x14292967,
  0x27b70a85, 0x2e1b2138, 0x4d2c6dfc, 0x53380d13, 0x650a7354, 0x766a0abb, 0x81c2c92e, 0x92722c85,
  0xa2bfe8a1, 0xa81a664b, 0xc24b8b70, 0xc76c51a3, 0xd192e819, 0xd6990624, 0xf40e3585, 0x106aa070,
  0x19a4c116, 0x1e376c08, 0x2748774c, 0x34b0bcb5, 0x391c0cb3, 0x4ed8aa4a, 0x5b9cca4f, 0x682e6ff3,
  0x748f82ee, 0x78a5636f, 0x84c87814, 0x8cc70208, 0x90befffa, 0xa4506ceb, 0xbef9a3f7, 0xc67178f2]
/-- The state at first. -/
def H0 : List Int := [0x6a09e667, 0xbb67ae85, 0x3c6ef372, 0xa54ff53a, 0x510e527f, 0x9b05688c, 0x1f83d9ab, 0x5be0cd19]

def tmp1 (s : List Int) (k w : Int) : Int := add2 (add2 (add2 (add2 (s.getD 7 0) (big1 (s.getD 4 0))) (chx (s.getD 4 0) (s.getD 5 0) (s.getD 6 0))) k) w
def tmp2 (s : List Int) : Int := add2 (big0 (s.getD 0 0)) (mjx (s.getD 0 0) (s.getD 1 0) (s.getD 2 0))
/-- A round. -/
def rnd (s : List Int) (k w : Int) : List Int :=
  [add2 (tmp1 s k w) (tmp2 s), s.getD 0 0, s.getD 1 0, s.getD 2 0, add2 (s.getD 3 0) (tmp1 s k w), s.getD 4 0, s.getD 5 0, s.getD 6 0]
def rnds (s ws : List Int) : Nat → List Int
  | 0 => s
  | k + 1 => rnd (rnds s ws k) (KK.getD k 0) (ws.getD k 0)
theorem rnds_len (s ws : List Int) (hs : s.length = 8) : ∀ k, (rnds s ws k).length = 8
  | 0 => hs
  | k + 1 => rfl
/-- The state behind a block. -/
def blkS (s b : List Int) : List Int := (List.range 8).map fun i => add2 (s.getD i 0) ((rnds s (schW b 64) 64).getD i 0)
theorem blkS_len (s b : List Int) : (blkS s b).length = 8 := by simp [blkS]
/-- The state behind so many blocks. -/
def foldS (s p : List Int) : Nat → List Int
  | 0 => s
  | k + 1 => blkS (foldS s p k) (cutB p (64 * k) 64)
theorem foldS_len (s p : List Int) (hs : s.length = 8) : ∀ k, (foldS s p k).length = 8
  | 0 => hs
  | k + 1 => blkS_len _ _
/-- A text, a bit 1, noughts, and how many bits it has. -/
def padS (b : List Int) : List Int := b ++ [128] ++ List.replicate ((119 - b.length % 64) % 64) 0 ++ be 8 (8 * b.length % 18446744073709551616)
theorem padS_len (b : List Int) : (padS b).length % 64 = 0 := by
  simp [padS, be_length]; omega
/-- THE SUM. -/
def sumS (b : List Int) : List Int := (foldS H0 (padS b) ((padS b).length / 64)).flatMap fun x => be 4 x.toNat

theorem flat_len (xs : List Int) : (xs.flatMap fun x => be 4 x.toNat).length = 4 * xs.length := by
  induction xs with
  | nil => rfl
  | cons x xs ih => simp [be_length, ih]; omega
theorem sumS_len (b : List Int) : (sumS b).length = 32 := by
  unfold sumS
  rw [flat_len, foldS_len _ _ rfl]
theorem sumS_wfd (b : List Int) : wfd (sumS b) := fun x hx => by
  unfold sumS at hx
  obtain ⟨y, _, h⟩ := List.mem_flatMap.1 hx
  exact be_wfd _ _ x h

/-! ### Words turned -/
theorem minb {n : Nat} (h : n ≤ 32) : min n (IntKind.bits .u32) = n := Nat.min_eq_left (by simp [IntKind.bits]; omega)

theorem s_right (x : Int) (n : Nat) (hn : 1 ≤ n ∧ n ≤ 31) : Imm Tryz.prog 69 [u32 x, i64 n] (fun r => r = u32 (rot2 x n)) := by
  have e1 : IntKind.i64.wrap (32 - (n : Int)) = ((32 - n : Nat) : Int) := by rw [wrap_i64 (by omega) (by omega)]; omega
  (refine Imm.of_awp (⟨fun _ => false, fun _ _ => [], fun r => if r == 1 then .take 0 (.take 1 (.take 2 (.take 3 (.take 4 (.take 5 (.take 6 (.take 7 (.take 8 .done)))))))) else .done⟩ : AW.Told) [] Tryz.func69 rfl (by decide) (Nat.le_of_ble_eq_true rfl) ?_; intro _w0 _S0 _E0 _B0; ((conv=>whnf);repeat'((first|(show(_=true→_)∧(_=false→_);first|refine gT ?_|refine gF ?_|refine gS ?_ ?_<;>(intro _h;try contradiction))|(show(_=false→_)∧(_=true→_);first|refine gU ?_|refine gV ?_|refine gZ ?_ ?_<;>(intro _h;try contradiction))|(intro _h;try contradiction)|(show _∧_;refine gA ?_)|fail);all_goals conv=>whnf)))
  refine Ends.imm rfl ?_
  unfold rot2
  rw [e1, Int.toNat_natCast, Int.toNat_natCast, minb (by omega), minb (by omega)]

theorem s_rotl (x : Int) (n : Nat) (hn : 1 ≤ n ∧ n ≤ 31) : Imm Tryz.prog 100 [u32 x, i64 (IntKind.i64.wrap (0 - (n : Int)))] (fun r => r = u32 (rot2 x n)) := by
  have e : bitsK .and .u64 (IntKind.u64.wrap (IntKind.i64.wrap (0 - (n : Int)))) 31 = ((32 - n : Nat) : Int) := by
    have : ∀ k : Fin 32, 1 ≤ k.val → bitsK .and .u64 (IntKind.u64.wrap (IntKind.i64.wrap (0 - (k.val : Int)))) 31 = ((32 - k.val : Nat) : Int) := by decide
    exact this ⟨n, by omega⟩ hn.1
  have e2 : IntKind.u64.wrap (32 - ((32 - n : Nat) : Int)) = (n : Int) := by rw [wrap_u64 (by omega) (by omega)]; omega
  have e3 : 0 ≤ IntKind.u64.wrap (32 - bitsK .and .u64 (IntKind.u64.wrap (IntKind.i64.wrap (0 - (n : Int)))) 31) := by rw [e, e2]; omega
  (refine Imm.of_awp told0 [] Tryz.func100 rfl (by decide) (Nat.le_of_ble_eq_true rfl) ?_; intro _w0 _S0 _E0 _B0; ((conv=>whnf);repeat'((first|(show(_=true→_)∧(_=false→_);first|refine gT ?_|refine gF ?_|refine gS ?_ ?_<;>(intro _h;try contradiction))|(show(_=false→_)∧(_=true→_);first|refine gU ?_|refine gV ?_|refine gZ ?_ ?_<;>(intro _h;try contradiction))|(intro _h;try contradiction)|(show _∧_;refine gA ?_)|fail);all_goals conv=>whnf)))
  refine Ends.imm rfl ?_
  rw [e, e2, Int.toNat_natCast, Int.toNat_natCast, minb (by omega), minb (by omega), or_comm2]
  rfl

theorem s_turn (x : Int) (n : Nat) (hn : 1 ≤ n ∧ n ≤ 31) : Imm Tryz.prog 90 [u32 x, i64 n] (fun r => r = u32 (rot2 x n)) := by
  (refine Imm.of_awp told0 [] Tryz.func90 rfl (by decide) (Nat.le_of_ble_eq_true rfl) ?_; intro _w0 _S0 _E0 _B0; ((conv=>whnf);repeat'((first|(show(_=true→_)∧(_=false→_);first|refine nTt ?_|refine nFf ?_|refine gS ?_ ?_<;>(intro _h;try contradiction))|(show(_=false→_)∧(_=true→_);first|refine nU ?_|refine nV ?_|refine gZ ?_ ?_<;>(intro _h;try contradiction))|(intro _h;try contradiction)|(show _∧_;refine gA ?_)|fail);all_goals conv=>whnf)))
  refine acallI (s_rotl x n hn) rfl fun r hr => ?_
  subst hr
  ((conv=>whnf);repeat'((first|(show(_=true→_)∧(_=false→_);first|refine nTt ?_|refine nFf ?_|refine gS ?_ ?_<;>(intro _h;try contradiction))|(show(_=false→_)∧(_=true→_);first|refine nU ?_|refine nV ?_|refine gZ ?_ ?_<;>(intro _h;try contradiction))|(intro _h;try contradiction)|(show _∧_;refine gA ?_)|fail);all_goals conv=>whnf))
  exact Ends.imm rfl rfl

def toldW : AW.Told := ⟨fun _ => false, fun _ _ => [], fun r =>
  if r == 14 || r == 15 then .take 0 (.take 1 (.take 2 (.take 3 (.take 4 (.take 6 (.take 7 (.take 8 (.take 9 (.take 10 (.take 13 (.take 14 (.take 15 (.take 16 (.take 17 (.take 18 (.one 5 (.one 11 (.take 12 (.take 19 (.take 20 .done))))))))))))))))))))
  else if r == 16 then .take 0 (.take 1 (.take 2 (.take 3 (.take 4 (.take 6 (.take 8 (.take 9 (.take 10 (.take 11 (.take 14 (.two 5 (.take 7 (.one 12 (.take 13 (.take 15 (.one 16 (.one 17 (.take 18 .done))))))) 12 (.one 5 (.take 7 (.take 13 (.take 15 (.one 16 (.one 17 (.take 18 .done))))))))))))))))))
  else .done⟩

theorem cutB_get (b : List Int) (off len j : Nat) (h : j < len) : (cutB b off len).getD j 0 = b.getD (off + j) 0 := by
  unfold cutB
  rw [List.getD_eq_getElem?_getD, List.getElem?_drop, List.getElem?_take, if_pos (by omega), ← List.getD_eq_getElem?_getD]

theorem s_words (b : List Int) (hb : wfd b) (hl : b.length = 64) : Imm Tryz.prog 67 [.d (byt b)] (fun r => r = .d (wd (schW b 64))) := by
  (refine Imm.of_awp toldW [2] Tryz.func67 rfl (by decide) (Nat.le_of_ble_eq_true rfl) ?_; intro _w0 _S0 _E0 _B0; ((conv=>whnf);repeat'((first|(show(_=true→_)∧(_=false→_);first|refine nTt ?_|refine nFf ?_|refine gS ?_ ?_<;>(intro _h;try contradiction))|(show(_=false→_)∧(_=true→_);first|refine nU ?_|refine nV ?_|refine gZ ?_ ?_<;>(intro _h;try contradiction))|(intro _h;try contradiction)|(show _∧_;refine gA ?_)|fail);all_goals conv=>whnf)))
  refine AWp.adopt 3 (.row .u32 67 []) rfl rfl ?_
  refine aloop (T := toldW) (ι := Nat) (fun k => [(0, .d (byt b)), (3, .own 0), (4, i64 k)]) (fun k => [(0, .row .u32 67 (schW b k))]) 96 1
    (fun k => 16 - k) (fun k => k ≤ 16)
    ⟨0, [0], rfl, by omega, by (refine ⟨rfl, rfl, ?_, ?_⟩ <;> repeat' (first | exact True.intro | rfl | decide | (refine And.intro ?_ ?_)))⟩ ?_
  intro k hk
  have hsl := schW_len b k
  rcases Nat.lt_or_ge k 16 with h16 | h16
  · have hcl : (cutB b (4 * k) 4).length = 4 := cutB_len (by omega)
    have hcw : wfd (cutB b (4 * k) 4) := hb.cut _ _
    ((conv=>whnf);repeat'((first|(show(_=true→_)∧(_=false→_);first|refine gT ?_|refine gF ?_|refine gS ?_ ?_<;>(intro _h;try contradiction))|(show(_=false→_)∧(_=true→_);first|refine gU ?_|refine gV ?_|refine gZ ?_ ?_<;>(intro _h;try contradiction))|(intro _h;try contradiction)|(show _∧_;refine gA ?_)|fail);all_goals conv=>whnf))
    refine aloop (T := toldW) (ι := Nat) (fun j => [(0, .d (byt b)), (3, .own 0), (4, i64 k), (5, u32 (bn ((cutB b (4 * k) 4).take j))), (6, i64 j)]) (fun j => [(0, .row .u32 67 (schW b k))]) 96 1
      (fun j => 4 - j) (fun j => j ≤ 4)
      ⟨0, [0], rfl, by omega, by (refine ⟨rfl, rfl, ?_, ?_⟩ <;> repeat' (first | exact True.intro | rfl | decide | (refine And.intro ?_ ?_)))⟩ ?_
    intro j hj
    have hlt : bn ((cutB b (4 * k) 4).take j) < ((256 ^ j : Nat) : Int) := by
      have := bn_lt (hcw.take j)
      rwa [List.length_take, Nat.min_eq_left (by omega)] at this
    have hnn := bn_nonneg (hcw.take j)
    rcases Nat.lt_or_ge j 4 with h4 | h4
    · have hp : 256 ^ j ≤ 256 ^ 3 := Nat.pow_le_pow_right (by omega) (by omega)
      have est : bn ((cutB b (4 * k) 4).take (j + 1)) = bn ((cutB b (4 * k) 4).take j) * 256 + b.getD (4 * k + j) 0 := by
        rw [take_snoc (by omega), bn_snoc, cutB_get _ _ _ _ h4]
      have hg := hb.get (4 * k + j)
      have e1 : IntKind.i64.wrap (IntKind.i64.wrap (4 * (k : Int)) + j) = ((4 * k + j : Nat) : Int) := by rw [wrap_i64 (n := 4 * (k : Int)) (by omega) (by omega), wrap_i64 (by omega) (by omega)]; omega
      ((conv=>whnf);repeat'((first|(show(_=true→_)∧(_=false→_);first|refine gT ?_|refine gF ?_|refine gS ?_ ?_<;>(intro _h;try contradiction))|(show(_=false→_)∧(_=true→_);first|refine gU ?_|refine gV ?_|refine gZ ?_ ?_<;>(intro _h;try contradiction))|(intro _h;try contradiction)|(show _∧_;refine gA ?_)|fail);all_goals conv=>whnf))
      refine ⟨j + 1, [0], by omega, by omega, rfl, ?_⟩
      (refine ⟨rfl, rfl, ?_, ?_⟩ <;> repeat' (first | exact True.intro | rfl | decide | (refine And.intro ?_ ?_)))
      · show AVal.d (.int .u32 _) = AVal.d (.int .u32 _)
        rw [e1, Int.toNat_natCast, est, wrap_u32 (n := bn _ * 256) (by omega) (by omega), wrap_u32 (n := b.getD (4 * k + j) 0) (by omega) (by omega), wrap_u32 (by omega) (by omega)]
      · exact di (by rw [wrap_i64 (by omega) (by omega)]; rfl)
    · have hj4 : j = 4 := by omega
      have hall : (cutB b (4 * k) 4).take j = cutB b (4 * k) 4 := List.take_of_length_le (by omega)
      rw [hall]
      ((conv=>whnf);repeat'((first|(show(_=true→_)∧(_=false→_);first|refine gT ?_|refine gF ?_|refine gS ?_ ?_<;>(intro _h;try contradiction))|(show(_=false→_)∧(_=true→_);first|refine gU ?_|refine gV ?_|refine gZ ?_ ?_<;>(intro _h;try contradiction))|(intro _h;try contradiction)|(show _∧_;refine gA ?_)|fail);all_goals conv=>whnf))
      refine ⟨by rw [hsl]; show (k + 1) * 4 ≤ 140737488355328; omega, ?_⟩
      ((conv=>whnf);repeat'((first|(show(_=true→_)∧(_=false→_);first|refine gT ?_|refine gF ?_|refine gS ?_ ?_<;>(intro _h;try contradiction))|(show(_=false→_)∧(_=true→_);first|refine gU ?_|refine gV ?_|refine gZ ?_ ?_<;>(intro _h;try contradiction))|(intro _h;try contradiction)|(show _∧_;refine gA ?_)|fail);all_goals conv=>whnf))
      refine ⟨k + 1, [0], by omega, by omega, rfl, ?_⟩
      (refine ⟨rfl, rfl, ?_, ?_⟩ <;> repeat' (first | exact True.intro | rfl | decide | (refine And.intro ?_ ?_)))
      · exact di (by rw [wrap_i64 (by omega) (by omega)]; rfl)
      · show some (Ob.row .u32 _ _) = some (Ob.row .u32 _ _)
        simp only [schW, nextW]
        rw [if_pos h16]
  · have hk16 : k = 16 := by omega
    subst hk16
    ((conv=>whnf);repeat'((first|(show(_=true→_)∧(_=false→_);first|refine gT ?_|refine gF ?_|refine gS ?_ ?_<;>(intro _h;try contradiction))|(show(_=false→_)∧(_=true→_);first|refine gU ?_|refine gV ?_|refine gZ ?_ ?_<;>(intro _h;try contradiction))|(intro _h;try contradiction)|(show _∧_;refine gA ?_)|fail);all_goals conv=>whnf))
    refine aloop (T := toldW) (ι := Nat) (fun k => [(3, .own 0), (7, i64 k)]) (fun k => [(0, .row .u32 67 (schW b k))]) 96 1
      (fun k => 64 - k) (fun k => 16 ≤ k ∧ k ≤ 64)
      ⟨16, [0], rfl, by omega, by (refine ⟨rfl, rfl, ?_, ?_⟩ <;> repeat' (first | exact True.intro | rfl | decide | (refine And.intro ?_ ?_)))⟩ ?_
    intro k ⟨hk1, hk2⟩
    have hsl := schW_len b k
    rcases Nat.lt_or_ge k 64 with h64 | h64
    · have e15 : IntKind.i64.wrap ((k : Int) - 15) = (k - 15 : Nat) := by rw [wrap_i64 (by omega) (by omega)]; omega
      have e2 : IntKind.i64.wrap ((k : Int) - 2) = (k - 2 : Nat) := by rw [wrap_i64 (by omega) (by omega)]; omega
      have e16 : IntKind.i64.wrap ((k : Int) - 16) = (k - 16 : Nat) := by rw [wrap_i64 (by omega) (by omega)]; omega
      have e7 : IntKind.i64.wrap ((k : Int) - 7) = (k - 7 : Nat) := by rw [wrap_i64 (by omega) (by omega)]; omega
      ((conv=>whnf);repeat'((first|(show(_=true→_)∧(_=false→_);first|refine gT ?_|refine gF ?_|refine gS ?_ ?_<;>(intro _h;try contradiction))|(show(_=false→_)∧(_=true→_);first|refine gU ?_|refine gV ?_|refine gZ ?_ ?_<;>(intro _h;try contradiction))|(intro _h;try contradiction)|(show _∧_;refine gA ?_)|fail);all_goals conv=>whnf))
      rw [e15, Int.toNat_natCast]
      refine acallI (s_right ((schW b k).getD (k - 15) 0) 7 (by omega)) rfl fun r hr => ?_
      subst hr
      ((conv=>whnf);repeat'((first|(show(_=true→_)∧(_=false→_);first|refine gT ?_|refine gF ?_|refine gS ?_ ?_<;>(intro _h;try contradiction))|(show(_=false→_)∧(_=true→_);first|refine gU ?_|refine gV ?_|refine gZ ?_ ?_<;>(intro _h;try contradiction))|(intro _h;try contradiction)|(show _∧_;refine gA ?_)|fail);all_goals conv=>whnf))
      refine acallI (s_right ((schW b k).getD (k - 15) 0) 18 (by omega)) rfl fun r hr => ?_
      subst hr
      ((conv=>whnf);repeat'((first|(show(_=true→_)∧(_=false→_);first|refine gT ?_|refine gF ?_|refine gS ?_ ?_<;>(intro _h;try contradiction))|(show(_=false→_)∧(_=true→_);first|refine gU ?_|refine gV ?_|refine gZ ?_ ?_<;>(intro _h;try contradiction))|(intro _h;try contradiction)|(show _∧_;refine gA ?_)|fail);all_goals conv=>whnf))
      rw [e2, Int.toNat_natCast]
      refine acallI (s_right ((schW b k).getD (k - 2) 0) 17 (by omega)) rfl fun r hr => ?_
      subst hr
      ((conv=>whnf);repeat'((first|(show(_=true→_)∧(_=false→_);first|refine gT ?_|refine gF ?_|refine gS ?_ ?_<;>(intro _h;try contradiction))|(show(_=false→_)∧(_=true→_);first|refine gU ?_|refine gV ?_|refine gZ ?_ ?_<;>(intro _h;try contradiction))|(intro _h;try contradiction)|(show _∧_;refine gA ?_)|fail);all_goals conv=>whnf))
      refine acallI (s_right ((schW b k).getD (k - 2) 0) 19 (by omega)) rfl fun r hr => ?_
      subst hr
      ((conv=>whnf);repeat'((first|(show(_=true→_)∧(_=false→_);first|refine gT ?_|refine gF ?_|refine gS ?_ ?_<;>(intro _h;try contradiction))|(show(_=false→_)∧(_=true→_);first|refine gU ?_|refine gV ?_|refine gZ ?_ ?_<;>(intro _h;try contradiction))|(intro _h;try contradiction)|(show _∧_;refine gA ?_)|fail);all_goals conv=>whnf))
      refine And.intro ?_ ?_
      all_goals
        ((conv=>whnf);repeat'((first|(show(_=true→_)∧(_=false→_);first|refine gT ?_|refine gF ?_|refine gS ?_ ?_<;>(intro _h;try contradiction))|(show(_=false→_)∧(_=true→_);first|refine gU ?_|refine gV ?_|refine gZ ?_ ?_<;>(intro _h;try contradiction))|(intro _h;try contradiction)|(show _∧_;refine gA ?_)|fail);all_goals conv=>whnf))
        refine ⟨by rw [hsl]; show (k + 1) * 4 ≤ 140737488355328; omega, ?_⟩
        ((conv=>whnf);repeat'((first|(show(_=true→_)∧(_=false→_);first|refine gT ?_|refine gF ?_|refine gS ?_ ?_<;>(intro _h;try contradiction))|(show(_=false→_)∧(_=true→_);first|refine gU ?_|refine gV ?_|refine gZ ?_ ?_<;>(intro _h;try contradiction))|(intro _h;try contradiction)|(show _∧_;refine gA ?_)|fail);all_goals conv=>whnf))
        refine ⟨k + 1, [0], by omega, by omega, rfl, ?_⟩
        (refine ⟨rfl, rfl, ?_, ?_⟩ <;> repeat' (first | exact True.intro | rfl | decide | (refine And.intro ?_ ?_)))
        · exact di (by rw [wrap_i64 (by omega) (by omega)]; rfl)
        · show some (Ob.row .u32 _ _) = some (Ob.row .u32 _ _)
          rw [e16, e7, Int.toNat_natCast, Int.toNat_natCast]
          simp only [schW, nextW]
          rw [if_neg (by omega)]
          rfl
    · have hk64 : k = 64 := by omega
      obtain ⟨ws, hws⟩ : ∃ ws, ws = schW b k := ⟨_, rfl⟩
      rw [← hws] at hsl ⊢
      ((conv=>whnf);repeat'((first|(show(_=true→_)∧(_=false→_);first|refine gT ?_|refine gF ?_|refine gS ?_ ?_<;>(intro _h;try contradiction))|(show(_=false→_)∧(_=true→_);first|refine gU ?_|refine gV ?_|refine gZ ?_ ?_<;>(intro _h;try contradiction))|(intro _h;try contradiction)|(show _∧_;refine gA ?_)|fail);all_goals conv=>whnf))
      refine Ends.imm rfl ?_
      rw [hws, hk64]

def toldSch : AW.Told := ⟨fun _ => false, fun _ _ => [], fun r =>
  if r == 13 then .take 0 (.take 1 (.take 2 (.take 3 (.take 4 (.take 5 (.take 6 (.take 7 (.take 8 (.take 9 .done)))))))))
  else if r == 14 then .take 0 (.take 1 (.take 2 (.take 3 (.take 4 (.take 5 (.take 7 (.take 10 (.take 11 (.take 14 (.take 15 (.take 16 (.take 17 (.take 19 (.take 21 (.take 24 (.take 25 (.one 6 (.one 8 (.take 9 (.take 12 (.take 13 (.take 18 (.one 20 (.one 22 (.take 23 (.take 26 (.take 27 (.take 28 (.one 29 .done)))))))))))))))))))))))))))))
  else .done⟩

theorem or2_step (x c : Int) (hx : 0 ≤ x) (hx2 : x < 16777216) (hc : 0 ≤ c) (hc2 : c < 256) :
    bitsK .or .u32 (IntKind.u32.wrap (x * 2 ^ (min (8 : Int).toNat (IntKind.bits .u32)))) (IntKind.u32.wrap c) = x * 256 + c := by
  obtain ⟨a, rfl⟩ : ∃ a : Nat, x = a := ⟨x.toNat, by omega⟩
  obtain ⟨d, rfl⟩ : ∃ a : Nat, c = a := ⟨c.toNat, by omega⟩
  have e0 : (a : Int) * 2 ^ (min (8 : Int).toNat (IntKind.bits .u32)) = ((a * 256 : Nat) : Int) := by
    rw [show min (8 : Int).toNat (IntKind.bits .u32) = 8 from rfl]; push_cast; rfl
  rw [e0, wrap_u32 (by omega) (by omega), wrap_u32 (by omega) (by omega)]
  have e4 : a * 256 ||| d = a * 256 + d := by
    have := Nat.shiftLeft_add_eq_or_of_lt (show d < 2 ^ 8 by omega) a
    rw [Nat.shiftLeft_eq] at this
    exact this.symm
  have e6 : (BitVec.ofInt 32 ((a * 256 : Nat) : Int) ||| BitVec.ofInt 32 (d : Int)).toNat = a * 256 ||| d := by
    simp only [BitVec.ofInt_natCast, BitVec.toNat_or, BitVec.toNat_ofNat]
    rw [Nat.mod_eq_of_lt (by omega), Nat.mod_eq_of_lt (by omega)]
  show IntKind.u32.wrap ((BitVec.ofInt 32 ((a * 256 : Nat) : Int) ||| BitVec.ofInt 32 (d : Int)).toNat : Int) = _
  rw [e6, e4, wrap_u32 (by omega) (by omega)]
  push_cast
  rfl

theorem app_get (xs ys : List Int) {j : Nat} (h : j < xs.length) : (xs ++ ys).getD j 0 = xs.getD j 0 := by
  rw [List.getD_eq_getElem?_getD, List.getElem?_append_left h, ← List.getD_eq_getElem?_getD]
theorem app_set (xs ys : List Int) (x y : Int) : (xs ++ x :: ys).set xs.length y = xs ++ y :: ys := by
  rw [List.set_append_right _ _ (Nat.le_refl _), Nat.sub_self]; rfl
theorem app_at (xs ys : List Int) (x : Int) : (xs ++ x :: ys).getD xs.length 0 = x := by
  rw [List.getD_eq_getElem?_getD, List.getElem?_append_right (Nat.le_refl _), Nat.sub_self]; rfl

theorem ones_ok (st : List (Nat × Ob)) : ∀ ns : List Int, ((flatDs (ns.map (D.int .u32))).map AVal.d).all (oneV st) = true
  | [] => rfl
  | n :: ns => by
    have := ones_ok st ns
    simp only [List.map_cons, flatDs, flatD, List.map_append, List.all_append, this, Bool.and_true]
    rfl

theorem s_sched (b : List Int) (hb : wfd b) (hl : b.length = 64) : Imm Tryz.prog 89 [.d (byt b)] (fun r => r = .d (.agg ((schW b 64).map (D.int .u32)))) := by
  (refine Imm.of_awp toldSch [] Tryz.func89 rfl (by decide) (Nat.le_of_ble_eq_true rfl) ?_; intro _w0 _S0 _E0 _B0; ((conv=>whnf);repeat'((first|(show(_=true→_)∧(_=false→_);first|refine nTt ?_|refine nFf ?_|refine gS ?_ ?_<;>(intro _h;try contradiction))|(show(_=false→_)∧(_=true→_);first|refine nU ?_|refine nV ?_|refine gZ ?_ ?_<;>(intro _h;try contradiction))|(intro _h;try contradiction)|(show _∧_;refine gA ?_)|fail);all_goals conv=>whnf)))
  refine aloop (T := toldSch) (ι := Nat) (fun k => [(0, .d (byt b)), (2, .optr 0 0), (9, i64 k)]) (fun k => [(0, .row .u32 129 (schW b k ++ List.replicate (64 - k) 0))]) 77 1
    (fun k => 16 - k) (fun k => k ≤ 16)
    ⟨0, [0], rfl, by omega, by (refine ⟨rfl, rfl, ?_, ?_⟩ <;> repeat' (first | exact True.intro | rfl | decide | (refine And.intro ?_ ?_)))⟩ ?_
  intro k hk
  have hsl := schW_len b k
  rcases Nat.lt_or_ge k 16 with h16 | h16
  · obtain ⟨ys, hys⟩ : ∃ ys, ys = cutB b (4 * k) 4 := ⟨_, rfl⟩
    have hyl : ys.length = 4 := by rw [hys]; exact cutB_len (by omega)
    have hyw : wfd ys := by rw [hys]; exact hb.cut _ _
    have e1 : IntKind.i64.wrap (4 * (k : Int)) = ((4 * k : Nat) : Int) := by rw [wrap_i64 (by omega) (by omega)]; omega
    have e2 : IntKind.i64.wrap (IntKind.i64.wrap (4 * (k : Int)) + 4) = ((4 * k + 4 : Nat) : Int) := by rw [e1, wrap_i64 (by omega) (by omega)]; omega
    have erep : List.replicate (64 - k) (0 : Int) = 0 :: List.replicate (63 - k) 0 := by rw [show 64 - k = (63 - k) + 1 by omega, List.replicate_succ]
    ((conv=>whnf);repeat'((first|(show(_=true→_)∧(_=false→_);first|refine gT ?_|refine gF ?_|refine gS ?_ ?_<;>(intro _h;try contradiction))|(show(_=false→_)∧(_=true→_);first|refine gU ?_|refine gV ?_|refine gZ ?_ ?_<;>(intro _h;try contradiction))|(intro _h;try contradiction)|(show _∧_;refine gA ?_)|fail);all_goals conv=>whnf))
    refine aloop (T := toldSch) (ι := Nat) (fun j => [(0, .d (byt b)), (2, .optr 0 0), (3, i64 k), (9, i64 k), (18, .d (byt ys)), (19, i64 4), (20, i64 j)]) (fun j => [(0, .row .u32 129 (schW b k ++ bn (ys.take j) :: List.replicate (63 - k) 0))]) 77 1
      (fun j => 4 - j) (fun j => j ≤ 4)
      ⟨0, [0], rfl, by omega, by
        (refine ⟨rfl, rfl, ?_, ?_⟩ <;> repeat' (first | exact True.intro | rfl | decide | (refine And.intro ?_ ?_)))
        · show AVal.d (.ints .u8 _) = AVal.d (.ints .u8 ys)
          rw [e2, e1, hys]; rfl
        · show AVal.d (.int .i64 _) = AVal.d (.int .i64 4)
          rw [e2, e1]
          have : ((b.take ((4 * k + 4 : Nat) : Int).toNat).drop ((4 * k : Nat) : Int).toNat).length = 4 := by
            rw [Int.toNat_natCast, Int.toNat_natCast]; simp; omega
          rw [this]; rfl
        · show some (Ob.row .u32 _ _) = some (Ob.row .u32 _ _)
          rw [erep]; rfl⟩ ?_
    intro j hj
    have hlt : bn (ys.take j) < ((256 ^ j : Nat) : Int) := by
      have := bn_lt (hyw.take j)
      rwa [List.length_take, Nat.min_eq_left (by omega)] at this
    have hnn := bn_nonneg (hyw.take j)
    have hrl : (schW b k ++ bn (ys.take j) :: List.replicate (63 - k) 0).length = 64 := by simp [hsl]; omega
    rcases Nat.lt_or_ge j 4 with h4 | h4
    · have hp : 256 ^ j ≤ 256 ^ 3 := Nat.pow_le_pow_right (by omega) (by omega)
      have est : bn (ys.take (j + 1)) = bn (ys.take j) * 256 + ys.getD j 0 := by rw [take_snoc (by omega), bn_snoc]
      have hg := hyw.get j
      ((conv=>whnf);repeat'((first|(show(_=true→_)∧(_=false→_);first|refine gT ?_|refine gF ?_|refine gS ?_ ?_<;>(intro _h;try contradiction))|(show(_=false→_)∧(_=true→_);first|refine gU ?_|refine gV ?_|refine gZ ?_ ?_<;>(intro _h;try contradiction))|(intro _h;try contradiction)|(show _∧_;refine gA ?_)|fail);all_goals conv=>whnf))
      refine ⟨j + 1, [0], by omega, by omega, rfl, ?_⟩
      (refine ⟨rfl, rfl, ?_, ?_⟩ <;> repeat' (first | exact True.intro | rfl | decide | (refine And.intro ?_ ?_)))
      · exact di (by rw [wrap_i64 (by omega) (by omega)]; rfl)
      · show some (Ob.row .u32 _ _) = some (Ob.row .u32 _ _)
        rw [Nat.zero_add, Int.toNat_natCast, Int.toNat_natCast]
        have hat := app_at (schW b k) (List.replicate (63 - k) 0) (bn (ys.take j))
        rw [hsl] at hat
        rw [hat, or2_step _ _ hnn (by omega) hg.1 (by omega), est]
        have := app_set (schW b k) (List.replicate (63 - k) 0) (bn (ys.take j)) (bn (ys.take j) * 256 + ys.getD j 0)
        rw [hsl] at this
        rw [this]
    · have hj4 : j = 4 := by omega
      have hall : ys.take j = ys := List.take_of_length_le (by omega)
      rw [hall]
      ((conv=>whnf);repeat'((first|(show(_=true→_)∧(_=false→_);first|refine gT ?_|refine gF ?_|refine gS ?_ ?_<;>(intro _h;try contradiction))|(show(_=false→_)∧(_=true→_);first|refine gU ?_|refine gV ?_|refine gZ ?_ ?_<;>(intro _h;try contradiction))|(intro _h;try contradiction)|(show _∧_;refine gA ?_)|fail);all_goals conv=>whnf))
      refine ⟨k + 1, [0], by omega, by omega, rfl, ?_⟩
      (refine ⟨rfl, rfl, ?_, ?_⟩ <;> repeat' (first | exact True.intro | rfl | decide | (refine And.intro ?_ ?_)))
      · exact di (by rw [wrap_i64 (by omega) (by omega)]; rfl)
      · show some (Ob.row .u32 _ _) = some (Ob.row .u32 _ _)
        simp only [schW, nextW]
        rw [if_pos h16, ← hys, List.append_assoc, show 64 - (k + 1) = 63 - k by omega]
        rfl
  · have hk16 : k = 16 := by omega
    subst hk16
    ((conv=>whnf);repeat'((first|(show(_=true→_)∧(_=false→_);first|refine gT ?_|refine gF ?_|refine gS ?_ ?_<;>(intro _h;try contradiction))|(show(_=false→_)∧(_=true→_);first|refine gU ?_|refine gV ?_|refine gZ ?_ ?_<;>(intro _h;try contradiction))|(intro _h;try contradiction)|(show _∧_;refine gA ?_)|fail);all_goals conv=>whnf))
    refine aloop (T := toldSch) (ι := Nat) (fun k => [(2, .optr 0 0), (6, i64 k)]) (fun k => [(0, .row .u32 129 (schW b k ++ List.replicate (64 - k) 0))]) 77 1
      (fun k => 64 - k) (fun k => 16 ≤ k ∧ k ≤ 64)
      ⟨16, [0], rfl, by omega, by (refine ⟨rfl, rfl, ?_, ?_⟩ <;> repeat' (first | exact True.intro | rfl | decide | (refine And.intro ?_ ?_)))⟩ ?_
    intro k ⟨hk1, hk2⟩
    have hsl := schW_len b k
    have hrl : (schW b k ++ List.replicate (64 - k) 0).length = 64 := by simp [hsl]; omega
    rcases Nat.lt_or_ge k 64 with h64 | h64
    · have e15 : IntKind.i64.wrap ((k : Int) - 15) = (k - 15 : Nat) := by rw [wrap_i64 (by omega) (by omega)]; omega
      have e2 : IntKind.i64.wrap ((k : Int) - 2) = (k - 2 : Nat) := by rw [wrap_i64 (by omega) (by omega)]; omega
      have e16 : IntKind.i64.wrap ((k : Int) - 16) = (k - 16 : Nat) := by rw [wrap_i64 (by omega) (by omega)]; omega
      have e7 : IntKind.i64.wrap ((k : Int) - 7) = (k - 7 : Nat) := by rw [wrap_i64 (by omega) (by omega)]; omega
      have g : ∀ (z : Int) (j : Nat), z = (j : Nat) → j < k → (schW b k ++ List.replicate (64 - k) 0).getD (0 + z.toNat) 0 = (schW b k).getD j 0 := fun z j hz hj => by
        rw [hz, Int.toNat_natCast, Nat.zero_add, app_get _ _ (by omega)]
      have g15 := g _ _ e15 (by omega)
      have g2 := g _ _ e2 (by omega)
      have g16 := g _ _ e16 (by omega)
      have g7 := g _ _ e7 (by omega)
      ((conv=>whnf);repeat'((first|(show(_=true→_)∧(_=false→_);first|refine gT ?_|refine gF ?_|refine gS ?_ ?_<;>(intro _h;try contradiction))|(show(_=false→_)∧(_=true→_);first|refine gU ?_|refine gV ?_|refine gZ ?_ ?_<;>(intro _h;try contradiction))|(intro _h;try contradiction)|(show _∧_;refine gA ?_)|fail);all_goals conv=>whnf))
      refine acallI (s_turn ((schW b k).getD (k - 15) 0) 7 (by omega)) (by rw [← g15]; rfl) fun r hr => ?_
      subst hr
      ((conv=>whnf);repeat'((first|(show(_=true→_)∧(_=false→_);first|refine gT ?_|refine gF ?_|refine gS ?_ ?_<;>(intro _h;try contradiction))|(show(_=false→_)∧(_=true→_);first|refine gU ?_|refine gV ?_|refine gZ ?_ ?_<;>(intro _h;try contradiction))|(intro _h;try contradiction)|(show _∧_;refine gA ?_)|fail);all_goals conv=>whnf))
      refine acallI (s_turn ((schW b k).getD (k - 15) 0) 18 (by omega)) (by rw [← g15]; rfl) fun r hr => ?_
      subst hr
      ((conv=>whnf);repeat'((first|(show(_=true→_)∧(_=false→_);first|refine gT ?_|refine gF ?_|refine gS ?_ ?_<;>(intro _h;try contradiction))|(show(_=false→_)∧(_=true→_);first|refine gU ?_|refine gV ?_|refine gZ ?_ ?_<;>(intro _h;try contradiction))|(intro _h;try contradiction)|(show _∧_;refine gA ?_)|fail);all_goals conv=>whnf))
      refine acallI (s_turn ((schW b k).getD (k - 2) 0) 17 (by omega)) (by rw [← g2]; rfl) fun r hr => ?_
      subst hr
      ((conv=>whnf);repeat'((first|(show(_=true→_)∧(_=false→_);first|refine gT ?_|refine gF ?_|refine gS ?_ ?_<;>(intro _h;try contradiction))|(show(_=false→_)∧(_=true→_);first|refine gU ?_|refine gV ?_|refine gZ ?_ ?_<;>(intro _h;try contradiction))|(intro _h;try contradiction)|(show _∧_;refine gA ?_)|fail);all_goals conv=>whnf))
      refine acallI (s_turn ((schW b k).getD (k - 2) 0) 19 (by omega)) (by rw [← g2]; rfl) fun r hr => ?_
      subst hr
      ((conv=>whnf);repeat'((first|(show(_=true→_)∧(_=false→_);first|refine gT ?_|refine gF ?_|refine gS ?_ ?_<;>(intro _h;try contradiction))|(show(_=false→_)∧(_=true→_);first|refine gU ?_|refine gV ?_|refine gZ ?_ ?_<;>(intro _h;try contradiction))|(intro _h;try contradiction)|(show _∧_;refine gA ?_)|fail);all_goals conv=>whnf))
      refine ⟨k + 1, [0], by omega, by omega, rfl, ?_⟩
      (refine ⟨rfl, rfl, ?_, ?_⟩ <;> repeat' (first | exact True.intro | rfl | decide | (refine And.intro ?_ ?_)))
      · exact di (by rw [wrap_i64 (by omega) (by omega)]; rfl)
      · show some (Ob.row .u32 _ _) = some (Ob.row .u32 _ _)
        rw [g15, g2, g16, g7, Nat.zero_add, Int.toNat_natCast]
        have erep : List.replicate (64 - k) (0 : Int) = 0 :: List.replicate (63 - k) 0 := by rw [show 64 - k = (63 - k) + 1 by omega, List.replicate_succ]
        rw [erep]
        have hset := fun y => app_set (schW b k) (List.replicate (63 - k) 0) 0 y
        rw [hsl] at hset
        rw [hset]
        simp only [schW, nextW]
        rw [if_neg (by omega), List.append_assoc, show 64 - (k + 1) = 63 - k by omega]
        rfl
    · have hk64 : k = 64 := by omega
      obtain ⟨ws, hws⟩ : ∃ ws, ws = schW b k ++ List.replicate (64 - k) 0 := ⟨_, rfl⟩
      have hwe : ws = schW b 64 := by rw [hws, hk64]; simp
      rw [← hws] at hrl ⊢
      have hz : (szT Tryz.prog 129).getD 0 = 64 := rfl
      have hw2 : (ws.drop 0).take ((szT Tryz.prog 129).getD 0) = ws := by rw [hz, List.drop_zero]; exact List.take_of_length_le (by omega)
      ((conv=>whnf);repeat'((first|(show(_=true→_)∧(_=false→_);first|refine gT ?_|refine gF ?_|refine gS ?_ ?_<;>(intro _h;try contradiction))|(show(_=false→_)∧(_=true→_);first|refine gU ?_|refine gV ?_|refine gZ ?_ ?_<;>(intro _h;try contradiction))|(intro _h;try contradiction)|(show _∧_;refine gA ?_)|fail);all_goals conv=>whnf))
      refine ⟨ones_ok _ _, ?_⟩
      conv => whnf
      refine ⟨ws, by rw [hw2], by rw [hrl]; rfl, by omega, by omega, ?_⟩
      ((conv=>whnf);repeat'((first|(show(_=true→_)∧(_=false→_);first|refine gT ?_|refine gF ?_|refine gS ?_ ?_<;>(intro _h;try contradiction))|(show(_=false→_)∧(_=true→_);first|refine gU ?_|refine gV ?_|refine gZ ?_ ?_<;>(intro _h;try contradiction))|(intro _h;try contradiction)|(show _∧_;refine gA ?_)|fail);all_goals conv=>whnf))
      have e : ws.take 0 ++ ws ++ ws.drop (0 + ws.length) = ws := by simp
      refine Ends.imm rfl ?_
      rw [e, hw2, hwe]

/-- Eight words, as a struct's parts. -/
def st8 (s : List Int) : List AVal := [u32 (s.getD 0 0), u32 (s.getD 1 0), u32 (s.getD 2 0), u32 (s.getD 3 0), u32 (s.getD 4 0), u32 (s.getD 5 0), u32 (s.getD 6 0), u32 (s.getD 7 0)]
/-- A sum under way. -/
def hashC (s : List Int) (rest : AVal) (cnt : Int) : List AVal := [u32 (s.getD 0 0), u32 (s.getD 1 0), u32 (s.getD 2 0), u32 (s.getD 3 0), u32 (s.getD 4 0), u32 (s.getD 5 0), u32 (s.getD 6 0), u32 (s.getD 7 0), rest, .d (.int .u64 cnt)]
def ROUNDS : D := .agg (KK.map (D.int .u32))

def toldTake : AW.Told := ⟨fun _ => false, fun _ _ => [], fun r =>
  if r == 5 then .take 0 (.take 1 (.take 2 (.take 3 (.take 4 (.take 5 .done)))))
  else if r == 6 then .take 0 (.take 1 (.take 2 (.take 4 (.take 7 (.take 11 (.take 12 (.take 13 (.take 14 (.take 15 (.take 16 (.take 17 (.take 18 (.take 19 (.take 20 (.take 22 (.take 24 (.take 25 (.take 26 (.one 3 (.one 5 (.take 6 (.one 8 (.take 9 (.take 10 (.take 21 (.take 23 (.take 27 (.take 28 .done))))))))))))))))))))))))))))
  else if r == 7 then .take 0 (.take 2 (.take 5 (.take 8 (.take 9 (.take 10 (.take 11 (.take 12 (.take 13 (.take 14 (.take 15 (.take 16 (.take 17 (.take 18 (.take 19 (.take 20 (.take 21 (.take 22 (.one 1 (.one 3 (.take 4 (.one 6 (.take 7 (.take 23 (.take 24 .done))))))))))))))))))))))))
  else if r == 13 then .take 0 (.take 1 (.take 2 (.take 3 (.take 4 (.take 5 (.take 6 (.take 7 (.take 8 (.take 9 (.take 10 (.one 11 .done)))))))))))
  else .done⟩

theorem s_take (hG : Globs.gl 4 = some ROUNDS) (s b rest : List Int) (cnt : Int) (hs : s.length = 8) (hb : wfd b) (hl : b.length = 64) :
    CSpec Tryz.prog 75 [.optr 0 0, .d (byt b)] [(0, .cell 115 (hashC s (.d (byt rest)) cnt))] 1
      (fun st nx r => st = [(0, .cell 115 (hashC (blkS s b) (.d (byt rest)) cnt))] ∧ nx = 1 ∧ r = .tup []) := by
  refine CSpec.ends (CSpec.of_awp toldTake [] Tryz.func75 rfl (by decide) (Nat.le_of_ble_eq_true rfl) fun _w0 _S0 _E0 _B0 => ?_)
  obtain ⟨s', hs'⟩ : ∃ s', s' = blkS s b := ⟨_, rfl⟩
  rw [← hs']
  obtain ⟨ws, hws⟩ : ∃ ws, ws = schW b 64 := ⟨_, rfl⟩
  have hwl : ws.length = 64 := by rw [hws]; exact schW_len b 64
  have hsc := s_sched b hb hl
  rw [← hws] at hsc
  ((conv=>whnf);repeat'((first|(show(_=true→_)∧(_=false→_);first|refine nTt ?_|refine nFf ?_|refine gS ?_ ?_<;>(intro _h;try contradiction))|(show(_=false→_)∧(_=true→_);first|refine nU ?_|refine nV ?_|refine gZ ?_ ?_<;>(intro _h;try contradiction))|(intro _h;try contradiction)|(show _∧_;refine gA ?_)|fail);all_goals conv=>whnf))
  refine acallI hsc rfl fun r hr => ?_
  subst hr
  clear hsc
  ((conv=>whnf);repeat'((first|(show(_=true→_)∧(_=false→_);first|refine nTt ?_|refine nFf ?_|refine gS ?_ ?_<;>(intro _h;try contradiction))|(show(_=false→_)∧(_=true→_);first|refine nU ?_|refine nV ?_|refine gZ ?_ ?_<;>(intro _h;try contradiction))|(intro _h;try contradiction)|(show _∧_;refine gA ?_)|fail);all_goals conv=>whnf))
  refine ⟨ones_ok _ _, ?_⟩
  conv => whnf
  refine ⟨ws, rfl, by rw [hwl]; rfl, by omega, by rw [List.length_replicate, hwl]; omega, ?_⟩
  have ews : (List.replicate 64 (0 : Int)).take 0 ++ ws ++ (List.replicate 64 (0 : Int)).drop (0 + ws.length) = ws := by rw [hwl]; simp
  rw [ews]
  ((conv=>whnf);repeat'((first|(show(_=true→_)∧(_=false→_);first|refine nTt ?_|refine nFf ?_|refine gS ?_ ?_<;>(intro _h;try contradiction))|(show(_=false→_)∧(_=true→_);first|refine nU ?_|refine nV ?_|refine gZ ?_ ?_<;>(intro _h;try contradiction))|(intro _h;try contradiction)|(show _∧_;refine gA ?_)|fail);all_goals conv=>whnf))
  rw [aev_global hG]
  ((conv=>whnf);repeat'((first|(show(_=true→_)∧(_=false→_);first|refine nTt ?_|refine nFf ?_|refine gS ?_ ?_<;>(intro _h;try contradiction))|(show(_=false→_)∧(_=true→_);first|refine nU ?_|refine nV ?_|refine gZ ?_ ?_<;>(intro _h;try contradiction))|(intro _h;try contradiction)|(show _∧_;refine gA ?_)|fail);all_goals conv=>whnf))
  refine aloop (T := toldTake) (ι := Nat) (fun k => [(0, .optr 0 0), (4, .optr 1 0), (5, .optr 2 0), (20, .d ROUNDS), (21, i64 k)])
    (fun k => [(0, .cell 115 (hashC s (.d (byt rest)) cnt)), (1, .row .u32 129 ws), (2, .cell 113 (st8 (rnds s ws k)))]) 117 3
    (fun k => 64 - k) (fun k => k ≤ 64)
    ⟨0, [0, 1, 2], rfl, by omega, by (refine ⟨rfl, rfl, ?_, ?_⟩ <;> repeat' (first | exact True.intro | rfl | decide | (refine And.intro ?_ ?_)))⟩ ?_
  intro k hk
  obtain ⟨v, hv⟩ : ∃ v, v = rnds s ws k := ⟨_, rfl⟩
  rw [← hv]
  rcases Nat.lt_or_ge k 64 with h64 | h64
  · have hkw : k < ws.length := by omega
    ((conv=>whnf);repeat'((first|(show(_=true→_)∧(_=false→_);first|refine gT ?_|refine gF ?_|refine gS ?_ ?_<;>(intro _h;try contradiction))|(show(_=false→_)∧(_=true→_);first|refine gU ?_|refine gV ?_|refine gZ ?_ ?_<;>(intro _h;try contradiction))|(intro _h;try contradiction)|(show _∧_;refine gA ?_)|fail);all_goals conv=>whnf))
    refine acallI (s_turn (v.getD 4 0) 6 (by omega)) rfl fun r hr => ?_
    subst hr
    ((conv=>whnf);repeat'((first|(show(_=true→_)∧(_=false→_);first|refine gT ?_|refine gF ?_|refine gS ?_ ?_<;>(intro _h;try contradiction))|(show(_=false→_)∧(_=true→_);first|refine gU ?_|refine gV ?_|refine gZ ?_ ?_<;>(intro _h;try contradiction))|(intro _h;try contradiction)|(show _∧_;refine gA ?_)|fail);all_goals conv=>whnf))
    refine acallI (s_turn (v.getD 4 0) 11 (by omega)) rfl fun r hr => ?_
    subst hr
    ((conv=>whnf);repeat'((first|(show(_=true→_)∧(_=false→_);first|refine gT ?_|refine gF ?_|refine gS ?_ ?_<;>(intro _h;try contradiction))|(show(_=false→_)∧(_=true→_);first|refine gU ?_|refine gV ?_|refine gZ ?_ ?_<;>(intro _h;try contradiction))|(intro _h;try contradiction)|(show _∧_;refine gA ?_)|fail);all_goals conv=>whnf))
    refine acallI (s_turn (v.getD 4 0) 25 (by omega)) rfl fun r hr => ?_
    subst hr
    ((conv=>whnf);repeat'((first|(show(_=true→_)∧(_=false→_);first|refine gT ?_|refine gF ?_|refine gS ?_ ?_<;>(intro _h;try contradiction))|(show(_=false→_)∧(_=true→_);first|refine gU ?_|refine gV ?_|refine gZ ?_ ?_<;>(intro _h;try contradiction))|(intro _h;try contradiction)|(show _∧_;refine gA ?_)|fail);all_goals conv=>whnf))
    refine acallI (s_turn (v.getD 0 0) 2 (by omega)) rfl fun r hr => ?_
    subst hr
    ((conv=>whnf);repeat'((first|(show(_=true→_)∧(_=false→_);first|refine gT ?_|refine gF ?_|refine gS ?_ ?_<;>(intro _h;try contradiction))|(show(_=false→_)∧(_=true→_);first|refine gU ?_|refine gV ?_|refine gZ ?_ ?_<;>(intro _h;try contradiction))|(intro _h;try contradiction)|(show _∧_;refine gA ?_)|fail);all_goals conv=>whnf))
    refine acallI (s_turn (v.getD 0 0) 13 (by omega)) rfl fun r hr => ?_
    subst hr
    ((conv=>whnf);repeat'((first|(show(_=true→_)∧(_=false→_);first|refine gT ?_|refine gF ?_|refine gS ?_ ?_<;>(intro _h;try contradiction))|(show(_=false→_)∧(_=true→_);first|refine gU ?_|refine gV ?_|refine gZ ?_ ?_<;>(intro _h;try contradiction))|(intro _h;try contradiction)|(show _∧_;refine gA ?_)|fail);all_goals conv=>whnf))
    refine acallI (s_turn (v.getD 0 0) 22 (by omega)) rfl fun r hr => ?_
    subst hr
    ((conv=>whnf);repeat'((first|(show(_=true→_)∧(_=false→_);first|refine gT ?_|refine gF ?_|refine gS ?_ ?_<;>(intro _h;try contradiction))|(show(_=false→_)∧(_=true→_);first|refine gU ?_|refine gV ?_|refine gZ ?_ ?_<;>(intro _h;try contradiction))|(intro _h;try contradiction)|(show _∧_;refine gA ?_)|fail);all_goals conv=>whnf))
    refine ⟨k + 1, [0, 1, 2], by omega, by omega, rfl, ?_⟩
    (refine ⟨rfl, rfl, ?_, ?_⟩ <;> repeat' (first | exact True.intro | rfl | decide | (refine And.intro ?_ ?_)))
    · exact di (by rw [wrap_i64 (by omega) (by omega)]; rfl)
    · have e : rnds s ws (k + 1) = rnd v (KK.getD k 0) (ws.getD (0 + (k : Int).toNat) 0) := by rw [hv, Nat.zero_add]; rfl
      show some (Ob.cell _ _) = some (Ob.cell _ (st8 (rnds s ws (k + 1))))
      rw [e]
      rfl
  · have hk64 : k = 64 := by omega
    ((conv=>whnf);repeat'((first|(show(_=true→_)∧(_=false→_);first|refine gT ?_|refine gF ?_|refine gS ?_ ?_<;>(intro _h;try contradiction))|(show(_=false→_)∧(_=true→_);first|refine gU ?_|refine gV ?_|refine gZ ?_ ?_<;>(intro _h;try contradiction))|(intro _h;try contradiction)|(show _∧_;refine gA ?_)|fail);all_goals conv=>whnf))
    refine AWp.rounds toldTake 9 ?_
    ((conv=>whnf);repeat'((first|(show(_=true→_)∧(_=false→_);first|refine gT ?_|refine gF ?_|refine gS ?_ ?_<;>(intro _h;try contradiction))|(show(_=false→_)∧(_=true→_);first|refine gU ?_|refine gV ?_|refine gZ ?_ ?_<;>(intro _h;try contradiction))|(intro _h;try contradiction)|(show _∧_;refine gA ?_)|fail);all_goals conv=>whnf))
    have e0 : blkS s b = (List.range 8).map fun i => add2 (s.getD i 0) (v.getD i 0) := by unfold blkS; rw [hv, hk64, hws]
    refine ⟨[0], [(0, .cell 115 (hashC s' (.d (byt rest)) cnt))], .tup [], ⟨rfl, ⟨⟨by decide, ?_⟩, trivial⟩, rfl⟩, rfl, rfl, rfl⟩
    show some (Ob.cell _ _) = some (Ob.cell _ (hashC s' (.d (byt rest)) cnt))
    rw [hs', e0]
    rfl
end Go.Proofs.YtniaeiikdgbnfaaGreatDoor.R
namespace Go.Proofs.YtniaeiikdgbnfaaGreatDoor.R
open Go Go.RowKit Go.Proofs Go.Proofs.YtniaeiikdgbnfaaGreatDoor.AW
set_option linter.unusedSectionVars false
variable [Globs]
attribute [local go_sem] Oper.semAt_some
set_option maxRecDepth 100000
set_option linter.unusedSimpArgs false
set_option linter.unusedVariables false
set_option maxHeartbeats 4000000

theorem itC (l b o b3 o3 b2 o2 c : Nat) (xs : List Int) (n : Nat) (J : Nat → World → Prop) (Jx : World → Prop) (W : World) (hl : xs.length ≤ 1000000000) (hn : xs.length = 64 * n) (hc0 : xs.length ≤ c)
   (hG : ∀ k W, J k W → W.cell? ⟨b, o, none⟩ = some (.slice (some ⟨b2, o2, none⟩) xs.length c) ∧ W.cell? ⟨b3, o3, none⟩ = some (.int .i64 64))
   (hY : ∀ k W, k < n → J k W → YieldAt (fence none) 0 Tryz.prog l #[.slice (some ⟨b2, o2 + 64 * k, none⟩) 64 64] W fun e W' => (e = .returned (.bool true) ∧ J (k + 1) W') ∨ (e = .returned (.bool false) ∧ Jx W'))
   (hJg : ∀ k W W', J k W → W.grownBy W' none → J k W')
   (h0 : J 0 W) : CallsIn Fence.wide 0 Tryz.prog 88 #[.func (.yield l) #[] #[], .pointer (some ⟨b, o, none⟩), .pointer (some ⟨b3, o3, none⟩)] W fun e W' => (∃ v, e = .returned v) ∧ (J n W' ∨ Jx W') := by
  have hc := (hG 0 W h0).1
  have hd := (hG 0 W h0).2
  refine callsIn_of_wp Tryz.func88 rfl trivial ?_ rfl
  simp only [Tryz.ntmps88, List.size_toArray, List.length_cons, List.length_nil, Nat.reduceAdd, Nat.reduceSub, Array.replicate_succ, Array.replicate_zero, List.push_toArray, List.append_toArray, List.nil_append, List.cons_append]
  gi_wp2
  clear hc hd
  gi_loopw [4] (fun i wr => ∃ k : Nat, k ≤ n ∧ i = .int .i64 (64 * (k : Int)) ∧ J k wr) (fun i _ => (xs.length - intOf i).toNat)
  case atStart => exact ⟨0, Nat.zero_le _, by simp, h0⟩
  case round =>
    obtain ⟨k, hk, rfl, hJ⟩ := hrel
    by_cases hlt : k < n
    · have hc := (hG k _ hJ).1
      have hd := (hG k _ hJ).2
      have hJ2 : J k wr.drew := hJg k wr _ hJ ⟨rfl, rfl, rfl, Nat.le_refl _, fun _ _ _ => rfl⟩
      obtain ⟨fn, tmps, assign, body, hy, hR⟩ := hY k _ hlt hJ2
      have hG2 : id (∀ k W, J k W → W.cell? ⟨b, o, none⟩ = some (.slice (some ⟨b2, o2, none⟩) xs.length c) ∧ W.cell? ⟨b3, o3, none⟩ = some (.int .i64 64)) := hG
      clear hG hY hJg
      gi_wp2
      gi_region
      gi_wp2
      refine ⟨rfl, RoundIn.mono hR ?_⟩
      rintro e W' (⟨rfl, hJ'⟩ | ⟨rfl, hJ'⟩)
      · have hd' := (hG2 _ _ hJ').2
        clear hG2 hc hd hR hy
        gi_wp2
        go_roundw
        case rel => exact ⟨k + 1, by omega, by simp; omega, hJ'⟩
        case measure => simp [intOf]; omega
      · clear hG2
        gi_wp2
        exact bodyPost_ret (results_none rfl _ _ _) rfl ⟨⟨_, rfl⟩, .inr hJ'⟩
    · have : k = n := by omega
      subst this
      have hc := (hG k _ hJ).1
      clear hG hY
      gi_wp2
      go_end0
      exact ⟨⟨_, rfl⟩, .inl hJ⟩

/-- The stretches of 64 of a list, one by one. -/
theorem aiC (xs : List Int) (n : Nat) (hn : xs.length = 64 * n) (hl : xs.length ≤ 1000000000) (h0 : 0 < n) : AIter Tryz.prog 88 [.ptr (byt xs), .ptr (.int .i64 64)] n (fun k => [byt (cutB xs (64 * k) 64)]) := by
  refine ⟨⟨_, Tryz.func88, rfl, by decide⟩, fun w S lb h => ?_⟩
  simp only [RepAll, Rep] at h
  obtain ⟨c1, c2, e, ⟨b, o, rfl, hSb, vs, hcb, A, c, rfl, hle, hL, hwf, hne⟩, c3, c4, rfl, ⟨b3, o3, rfl, hSb3, vs3, hcb3, rfl, _⟩, rfl⟩ := h
  have hlb : lb = #[.pointer (some ⟨b, o, none⟩), .pointer (some ⟨b3, o3, none⟩)] := by apply Array.ext'; simpa using e
  subst hlb
  obtain ⟨b2, o2, rfl, hS2, hc2⟩ := hne (fun h => by subst h; simp at hn; omega)
  refine ⟨fun k => #[.slice (some ⟨b2, o2 + 64 * k, none⟩) 64 64], fun k hk => ?_, fun l J Jx W hJg hJxg hG hY h0 => ?_⟩
  · have hcl : (cutB xs (64 * k) 64).length = 64 := cutB_len (by omega)
    simp only [List.map_cons, List.map_nil, VAll, VRel, Rep]
    refine ⟨_, _, rfl, ⟨[.slice (some ⟨b2, o2 + 64 * k, none⟩) 64 64], ⟨some ⟨b2, o2 + 64 * k, none⟩, 64, by rw [hcl], by omega, by rw [hcl]; unfold LIM; omega, fun x hx => hwf x (List.mem_of_mem_take (List.mem_of_mem_drop hx)), fun _ => ⟨b2, o2 + 64 * k, rfl, hS2, ?_⟩⟩, rfl⟩, rfl⟩
    intro i v hv
    have hi : i < 64 := by
      have := (List.getElem?_eq_some_iff.1 hv).1
      simpa [hcl] using this
    have := hc2 (64 * k + i) v (by
      rw [← hv, List.getElem?_map, List.getElem?_map]
      unfold cutB
      rw [List.getElem?_drop, List.getElem?_take_of_lt (by omega)])
    rwa [← Nat.add_assoc] at this
  · have hcell : ∀ W : World, (∀ b, S b → W.heap[b]? = w.heap[b]?) → W.cell? ⟨b, o, none⟩ = some (.slice (some ⟨b2, o2, none⟩) xs.length c) ∧ W.cell? ⟨b3, o3, none⟩ = some (.int .i64 64) := fun W hW => by
      have h1 := (Cells.keep hcb (hW b hSb)) 0 _ rfl
      have h2 := (Cells.keep hcb3 (hW b3 hSb3)) 0 _ rfl
      exact ⟨by simpa using h1, by simpa using h2⟩
    refine callsIn_fence.1 (?_ : CallsIn Fence.wide 0 _ _ _ _ _)
    exact itC l b o b3 o3 b2 o2 c xs n J Jx W hl hn hle (fun k W hJ => hcell W (hG k W hJ)) hY hJg h0
end Go.Proofs.YtniaeiikdgbnfaaGreatDoor.R
