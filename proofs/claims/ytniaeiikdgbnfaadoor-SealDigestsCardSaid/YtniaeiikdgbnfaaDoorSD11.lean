/- Parts K9, K10, K11, K12, K13, K14, K15, K16, K17, K18. No condition of its own. -/
import Derived.Test.YtniaeiikdgbnfaaDoorSD10
import Derived.Test.YtniaeiikdgbnfaaDoorSD6

namespace Go.Proofs.YtniaeiikdgbnfaaDoor.R
open Go Go.RowKit Go.Proofs Go.Proofs.YtniaeiikdgbnfaaDoor.AW
set_option linter.unusedSectionVars false
variable [Globs]
set_option maxRecDepth 100000
set_option linter.unusedSimpArgs false
set_option linter.unusedVariables false
set_option maxHeartbeats 4000000

def toldGrow : AW.Told := ⟨fun f => f == 1005005 || f == 1005008, fun _ _ => [], fun _ => .done⟩

theorem k_grow (n : Nat) (h0 : 0 < n) (hn : n ≤ 1000000) : CSpec Tryd.prog 97 [.nls (byt []), i64 n] [] 0 (fun st nx r => st = [(0, .row .u8 5 [])] ∧ nx = 1 ∧ r = .own 0) := by
  have e1 : IntKind.i64.wrap ((n : Int) - IntKind.i64.wrap (0 - 0)) = n := by
    rw [wrap_i64 (n := 0 - 0) (by omega) (by omega), wrap_i64 (by omega) (by omega)]; omega
  refine CSpec.ends (CSpec.of_awp toldGrow [] Tryd.func97 rfl (by decide) (Nat.le_of_ble_eq_true rfl) fun _w0 _S0 _E0 _B0 => ?_)
  ((conv=>whnf);repeat'((first|(show(_=true→_)∧(_=false→_);first|refine gT ?_|refine gF ?_|refine gS ?_ ?_<;>(intro _h;try contradiction))|(show(_=false→_)∧(_=true→_);first|refine gU ?_|refine gV ?_|refine gZ ?_ ?_<;>(intro _h;try contradiction))|(intro _h;try contradiction)|(show _∧_;refine gA ?_)|fail);all_goals conv=>whnf))
  refine ao_cap rfl rfl rfl rfl ?_
  ((conv=>whnf);repeat'((first|(show(_=true→_)∧(_=false→_);first|refine gT ?_|refine gF ?_|refine gS ?_ ?_<;>(intro _h;try contradiction))|(show(_=false→_)∧(_=true→_);first|refine gU ?_|refine gV ?_|refine gZ ?_ ?_<;>(intro _h;try contradiction))|(intro _h;try contradiction)|(show _∧_;refine gA ?_)|fail);all_goals conv=>whnf))
  refine ao_cap rfl rfl rfl rfl ?_
  ((conv=>whnf);repeat'((first|(show(_=true→_)∧(_=false→_);first|refine gT ?_|refine gF ?_|refine gS ?_ ?_<;>(intro _h;try contradiction))|(show(_=false→_)∧(_=true→_);first|refine gU ?_|refine gV ?_|refine gZ ?_ ?_<;>(intro _h;try contradiction))|(intro _h;try contradiction)|(show _∧_;refine gA ?_)|fail);all_goals conv=>whnf))
  rw [e1]
  refine ao_appz (k := .u8) (n := n) rfl rfl rfl rfl rfl rfl rfl rfl rfl rfl (by decide) h0 (by omega) ?_
  ((conv=>whnf);repeat'((first|(show(_=true→_)∧(_=false→_);first|refine gT ?_|refine gF ?_|refine gS ?_ ?_<;>(intro _h;try contradiction))|(show(_=false→_)∧(_=true→_);first|refine gU ?_|refine gV ?_|refine gZ ?_ ?_<;>(intro _h;try contradiction))|(intro _h;try contradiction)|(show _∧_;refine gA ?_)|fail);all_goals conv=>whnf))
  refine ao_cut0 (k := .u8) (j := 0) rfl rfl rfl rfl rfl rfl rfl rfl (Nat.zero_le _) (by simp; omega) ?_
  ((conv=>whnf);repeat'((first|(show(_=true→_)∧(_=false→_);first|refine gT ?_|refine gF ?_|refine gS ?_ ?_<;>(intro _h;try contradiction))|(show(_=false→_)∧(_=true→_);first|refine gU ?_|refine gV ?_|refine gZ ?_ ?_<;>(intro _h;try contradiction))|(intro _h;try contradiction)|(show _∧_;refine gA ?_)|fail);all_goals conv=>whnf))
  exact ⟨[0], [(0, .row .u8 5 [])], .own 0, ⟨rfl, ⟨⟨by decide, rfl⟩, trivial⟩, rfl⟩, rfl, rfl, rfl⟩

theorem flat_take (xss : List (List Int)) (k : Nat) (h : k < xss.length) : (xss.take (k + 1)).flatten = (xss.take k).flatten ++ xss.getD k [] := by
  rw [List.take_add_one, List.flatten_append, List.getElem?_eq_getElem h, List.getD_eq_getElem?_getD, List.getElem?_eq_getElem h]
  simp
theorem flat_le (xss : List (List Int)) (k : Nat) : (xss.take k).flatten.length ≤ xss.flatten.length := by
  have h : xss.flatten = (xss.take k).flatten ++ (xss.drop k).flatten := by rw [← List.flatten_append, List.take_append_drop]
  rw [h, List.length_append]
  omega

/-- Lists of bytes, one behind the other. -/
theorem k_concat (xss : List (List Int)) (h0 : 0 < xss.flatten.length) (hl : xss.flatten.length ≤ 1000000) (hx : xss.length ≤ 1000000) :
    Imm Tryd.prog 67 [.d (.sl 1 (xss.map byt))] (fun r => r = .d (byt xss.flatten)) := by
  (refine Imm.of_awp told0 [2] Tryd.func67 rfl (by decide) (Nat.le_of_ble_eq_true rfl) ?_; intro _w0 _S0 _E0 _B0; ((conv=>whnf);repeat'((first|(show(_=true→_)∧(_=false→_);first|refine nTt ?_|refine nFf ?_|refine gS ?_ ?_<;>(intro _h;try contradiction))|(show(_=false→_)∧(_=true→_);first|refine nU ?_|refine nV ?_|refine gZ ?_ ?_<;>(intro _h;try contradiction))|(intro _h;try contradiction)|(show _∧_;refine gA ?_)|fail);all_goals conv=>whnf)))
  refine aloop (T := told0) (fun k : Nat => [(0, .d (.sl 1 (xss.map byt))), (3, i64 (xss.take k).flatten.length), (9, .d (.sl 1 (xss.map byt))), (10, i64 xss.length), (11, i64 k)]) (fun _ => []) 36 0 (fun k => xss.length - k) (fun k => k ≤ xss.length)
    ⟨0, [], rfl, Nat.zero_le _, by (refine ⟨rfl, rfl, ?_, ?_⟩ <;> repeat' (first | exact True.intro | rfl | decide | (refine And.intro ?_ ?_))); simp [AW.upd, renV]⟩ ?_
  intro k hk
  have hf1 := flat_le xss (k + 1)
  rcases Nat.lt_or_ge k xss.length with hkl | hkl
  · have hfk := flat_take xss k hkl
    have hlen : (xss.take (k + 1)).flatten.length = (xss.take k).flatten.length + (xss.getD k []).length := by rw [hfk, List.length_append]
    have e1 : IntKind.i64.wrap (((xss.take k).flatten.length : Int) + (xss.getD k []).length) = ((xss.take (k + 1)).flatten.length : Nat) := by
      rw [wrap_i64 (by omega) (by omega)]; omega
    ((conv=>whnf);repeat'((first|(show(_=true→_)∧(_=false→_);first|refine gT ?_|refine gF ?_|refine gS ?_ ?_<;>(intro _h;try contradiction))|(show(_=false→_)∧(_=true→_);first|refine gU ?_|refine gV ?_|refine gZ ?_ ?_<;>(intro _h;try contradiction))|(intro _h;try contradiction)|(show _∧_;refine gA ?_)|fail);all_goals conv=>whnf))
    rw [Int.toNat_natCast, getD_map byt xss k [] default (by omega)]
    ((conv=>whnf);repeat'((first|(show(_=true→_)∧(_=false→_);first|refine gT ?_|refine gF ?_|refine gS ?_ ?_<;>(intro _h;try contradiction))|(show(_=false→_)∧(_=true→_);first|refine gU ?_|refine gV ?_|refine gZ ?_ ?_<;>(intro _h;try contradiction))|(intro _h;try contradiction)|(show _∧_;refine gA ?_)|fail);all_goals conv=>whnf))
    refine ⟨k + 1, [], by omega, by omega, rfl, ?_⟩
    (refine ⟨rfl, rfl, ?_, ?_⟩ <;> repeat' (first | exact True.intro | rfl | decide | (refine And.intro ?_ ?_)))
    · exact di e1
    · exact di (by rw [wrap_i64 (by omega) (by omega)]; rfl)
  · have hk' : k = xss.length := by omega
    subst hk'
    rw [List.take_length]
    ((conv=>whnf);repeat'((first|(show(_=true→_)∧(_=false→_);first|refine gT ?_|refine gF ?_|refine gS ?_ ?_<;>(intro _h;try contradiction))|(show(_=false→_)∧(_=true→_);first|refine gU ?_|refine gV ?_|refine gZ ?_ ?_<;>(intro _h;try contradiction))|(intro _h;try contradiction)|(show _∧_;refine gA ?_)|fail);all_goals conv=>whnf))
    refine acall [] (k_grow xss.flatten.length h0 hl) rfl (by simp [stIn]) rfl (fun _ => rfl) ?_
    rintro st nx r ⟨rfl, rfl, rfl⟩
    ((conv=>whnf);repeat'((first|(show(_=true→_)∧(_=false→_);first|refine gT ?_|refine gF ?_|refine gS ?_ ?_<;>(intro _h;try contradiction))|(show(_=false→_)∧(_=true→_);first|refine gU ?_|refine gV ?_|refine gZ ?_ ?_<;>(intro _h;try contradiction))|(intro _h;try contradiction)|(show _∧_;refine gA ?_)|fail);all_goals conv=>whnf))
    refine aloop (T := told0) (fun k : Nat => [(0, .d (.sl 1 (xss.map byt))), (6, .own 0), (25, .d (.sl 1 (xss.map byt))), (26, i64 xss.length), (27, i64 k)]) (fun k => [(0, .row .u8 5 (xss.take k).flatten)]) 36 1 (fun k => xss.length - k) (fun k => k ≤ xss.length)
      ⟨0, [0], rfl, Nat.zero_le _, by (refine ⟨rfl, rfl, ?_, ?_⟩ <;> repeat' (first | exact True.intro | rfl | decide | (refine And.intro ?_ ?_))); simp [AW.upd, renV]⟩ ?_
    intro k hk
    have hf1 := flat_le xss (k + 1)
    rcases Nat.lt_or_ge k xss.length with hkl | hkl
    · have hfk := flat_take xss k hkl
      have hlen : (xss.take (k + 1)).flatten.length = (xss.take k).flatten.length + (xss.getD k []).length := by rw [hfk, List.length_append]
      ((conv=>whnf);repeat'((first|(show(_=true→_)∧(_=false→_);first|refine gT ?_|refine gF ?_|refine gS ?_ ?_<;>(intro _h;try contradiction))|(show(_=false→_)∧(_=true→_);first|refine gU ?_|refine gV ?_|refine gZ ?_ ?_<;>(intro _h;try contradiction))|(intro _h;try contradiction)|(show _∧_;refine gA ?_)|fail);all_goals conv=>whnf))
      rw [Int.toNat_natCast, getD_map byt xss k [] default (by omega)]
      ((conv=>whnf);repeat'((first|(show(_=true→_)∧(_=false→_);first|refine gT ?_|refine gF ?_|refine gS ?_ ?_<;>(intro _h;try contradiction))|(show(_=false→_)∧(_=true→_);first|refine gU ?_|refine gV ?_|refine gZ ?_ ?_<;>(intro _h;try contradiction))|(intro _h;try contradiction)|(show _∧_;refine gA ?_)|fail);all_goals conv=>whnf))
      refine ⟨by show ((xss.take k).flatten.length + (xss.getD k []).length) * 1 ≤ 140737488355328; omega, ?_⟩
      ((conv=>whnf);repeat'((first|(show(_=true→_)∧(_=false→_);first|refine gT ?_|refine gF ?_|refine gS ?_ ?_<;>(intro _h;try contradiction))|(show(_=false→_)∧(_=true→_);first|refine gU ?_|refine gV ?_|refine gZ ?_ ?_<;>(intro _h;try contradiction))|(intro _h;try contradiction)|(show _∧_;refine gA ?_)|fail);all_goals conv=>whnf))
      refine ⟨k + 1, [0], by omega, by omega, rfl, ?_⟩
      (refine ⟨rfl, rfl, ?_, ?_⟩ <;> repeat' (first | exact True.intro | rfl | decide | (refine And.intro ?_ ?_)))
      · exact di (by rw [wrap_i64 (by omega) (by omega)]; rfl)
      · show some (Ob.row .u8 _ _) = some (Ob.row .u8 _ _)
        rw [hfk]
    · have hk' : k = xss.length := by omega
      subst hk'
      rw [List.take_length]
      ((conv=>whnf);repeat'((first|(show(_=true→_)∧(_=false→_);first|refine gT ?_|refine gF ?_|refine gS ?_ ?_<;>(intro _h;try contradiction))|(show(_=false→_)∧(_=true→_);first|refine gU ?_|refine gV ?_|refine gZ ?_ ?_<;>(intro _h;try contradiction))|(intro _h;try contradiction)|(show _∧_;refine gA ?_)|fail);all_goals conv=>whnf))
      exact Ends.imm rfl rfl

def keyBytes (m : List Int) (n0 : Int) (rr : List Int) : List Int := (be 4 (8 * m.length) ++ be 4 n0.toNat) ++ (m ++ be m.length (val rr).toNat)

def toldKB : AW.Told := ⟨fun _ => false, fun r i => if r == 4 && i == 7 then [41] else [], fun _ => .done⟩


def hx (c : Int) : Int := if 97 ≤ c ∧ c ≤ 102 then c - 97 + 10 else IntKind.u8.wrap (c - 48)
theorem hx_le (c : Int) : 0 ≤ hx c ∧ hx c ≤ 255 := by
  unfold hx
  split
  · omega
  · simp [IntKind.wrap, IntKind.bits, IntKind.signed]; omega
def hxAt (xs : List Int) (k : Nat) : Int := IntKind.u8.wrap (hx (xs.getD (2 * k) 0) * 16 + hx (xs.getD (2 * k + 1) 0))
/-- Bytes of pairs of digits. -/
def hexB (xs : List Int) : List Int := (List.range (xs.length / 2)).map (hxAt xs)
def pv (xs : List Int) (k : Nat) : Nat → Int
  | 0 => 0
  | j + 1 => pv xs k j * 16 + hx (xs.getD (2 * k + j) 0)

theorem hexB_take (xs : List Int) (k : Nat) (h : k < xs.length / 2) : (hexB xs).take (k + 1) = (hexB xs).take k ++ [hxAt xs k] := by
  rw [take_snoc (by simp [hexB]; omega)]
  congr 2
  rw [List.getD_eq_getElem?_getD, hexB, List.getElem?_map, List.getElem?_range h]; rfl

theorem k_hex (xs : List Int) (hx0 : wfd xs) (hl : xs.length ≤ 100000) (h2 : 2 ≤ xs.length) : Imm Tryd.prog 54 [.d (.str xs)] (fun r => r = .d (byt (hexB xs))) := by
  (refine Imm.of_awp told0 [2] Tryd.func54 rfl (by decide) (Nat.le_of_ble_eq_true rfl) ?_; intro _w0 _S0 _E0 _B0; ((conv=>whnf);repeat'((first|(show(_=true→_)∧(_=false→_);first|refine nTt ?_|refine nFf ?_|refine gS ?_ ?_<;>(intro _h;try contradiction))|(show(_=false→_)∧(_=true→_);first|refine nU ?_|refine nV ?_|refine gZ ?_ ?_<;>(intro _h;try contradiction))|(intro _h;try contradiction)|(show _∧_;refine gA ?_)|fail);all_goals conv=>whnf)))
  refine AWp.adopt 3 (.row .u8 5 []) rfl rfl ?_
  refine aloop (T := told0) (ι := Nat) (fun k => [(0, .d (.str xs)), (3, .own 0), (4, i64 (2 * k : Nat))]) (fun k => [(0, .row .u8 5 ((hexB xs).take k))]) 52 1
    (fun k => xs.length / 2 - k) (fun k => k ≤ xs.length / 2)
    ⟨0, [0], rfl, by omega, by (refine ⟨rfl, rfl, ?_, ?_⟩ <;> repeat' (first | exact True.intro | rfl | decide | (refine And.intro ?_ ?_)))⟩ ?_
  intro k hk
  have hlen : ((hexB xs).take k).length = k := by simp [hexB]; omega
  rcases Nat.lt_or_ge k (xs.length / 2) with hkl | hkl
  · have e1 : IntKind.i64.wrap (((2 * k : Nat) : Int) + 1) = (2 * k + 1 : Nat) := by rw [wrap_i64 (by omega) (by omega)]; omega
    have e2 : IntKind.i64.wrap (((2 * k : Nat) : Int) + 2) = (2 * k + 2 : Nat) := by rw [wrap_i64 (by omega) (by omega)]; omega
    ((conv=>whnf);repeat'((first|(show(_=true→_)∧(_=false→_);first|refine gT ?_|refine gF ?_|refine gS ?_ ?_<;>(intro _h;try contradiction))|(show(_=false→_)∧(_=true→_);first|refine gU ?_|refine gV ?_|refine gZ ?_ ?_<;>(intro _h;try contradiction))|(intro _h;try contradiction)|(show _∧_;refine gA ?_)|fail);all_goals conv=>whnf))
    obtain ⟨ys, hys⟩ : ∃ ys, ys = (xs.take (2 * k + 2)).drop (2 * k) := ⟨_, rfl⟩
    have hyl : ys.length = 2 := by rw [hys]; simp; omega
    have hyg : ∀ j, j < 2 → ys.getD j 0 = xs.getD (2 * k + j) 0 := fun j hj => by
      rw [hys, List.getD_eq_getElem?_getD, List.getElem?_drop, List.getElem?_take, if_pos (by omega), ← List.getD_eq_getElem?_getD]
    refine aloop (T := told0) (ι := Nat × Int) (fun p => [(0, .d (.str xs)), (3, .own 0), (4, i64 (2 * k : Nat)), (5, i64 p.2), (20, .d (byt ys)), (21, i64 ys.length), (22, i64 p.1)]) (fun p => [(0, .row .u8 5 ((hexB xs).take k))]) 52 1
      (fun p => 2 - p.1) (fun p => p.1 ≤ 2 ∧ p.2 = pv xs k p.1)
      ⟨(0, 0), [0], rfl, ⟨by omega, rfl⟩, by
        (refine ⟨rfl, rfl, ?_, ?_⟩ <;> repeat' (first | exact True.intro | rfl | decide | (refine And.intro ?_ ?_)))
        · show AVal.d (.ints .u8 _) = AVal.d (.ints .u8 ys)
          rw [e2, hys]; rfl
        · show AVal.d (.int .i64 _) = AVal.d (.int .i64 ys.length)
          rw [e2, hys]; rfl⟩ ?_
    intro ⟨j, n⟩ ⟨hj, hn⟩
    dsimp only at hj hn ⊢
    have hpb : ∀ j, j ≤ 2 → 0 ≤ pv xs k j ∧ pv xs k j ≤ 10000 := fun j hj => by
      have a0 := hx_le (xs.getD (2 * k + 0) 0)
      have a1 := hx_le (xs.getD (2 * k + 1) 0)
      have : j = 0 ∨ j = 1 ∨ j = 2 := by omega
      rcases this with rfl | rfl | rfl <;> simp only [pv] <;> omega
    have hp := hpb j hj
    rcases Nat.lt_or_ge j 2 with hj2 | hj2
    · have hg : ys.getD (j : Int).toNat 0 = xs.getD (2 * k + j) 0 := by rw [Int.toNat_natCast]; exact hyg j hj2
      have hc := hx0.get (2 * k + j)
      have hp1 := hpb (j + 1) (by omega)
      have hxl := hx_le (xs.getD (2 * k + j) 0)
      have e3 : IntKind.i64.wrap (n * 16) = n * 16 := wrap_i64 (by omega) (by omega)
      have key : ∀ v, v = pv xs k (j + 1) → AVal.d (.int .i64 v) = i64 (pv xs k (j + 1)) := fun v h => di h
      have hw8 : IntKind.u8.wrap (ys.getD (j : Int).toNat 0 - 48) = IntKind.u8.wrap (xs.getD (2 * k + j) 0 - 48) := by rw [hg]
      have hw8b : 0 ≤ IntKind.u8.wrap (xs.getD (2 * k + j) 0 - 48) ∧ IntKind.u8.wrap (xs.getD (2 * k + j) 0 - 48) ≤ 255 := by
        simp [IntKind.wrap, IntKind.bits, IntKind.signed]; omega
      have hlow : ¬ (97 ≤ xs.getD (2 * k + j) 0 ∧ xs.getD (2 * k + j) 0 ≤ 102) → IntKind.i64.wrap (IntKind.i64.wrap (n * 16) + IntKind.i64.wrap (IntKind.u8.wrap (ys.getD (j : Int).toNat 0 - 48))) = pv xs k (j + 1) := fun h => by
        rw [hw8, e3, wrap_i64 (n := IntKind.u8.wrap (xs.getD (2 * k + j) 0 - 48)) (by omega) (by omega), wrap_i64 (by omega) (by omega), hn]
        simp only [pv, hx]
        rw [if_neg h]
      ((conv=>whnf);repeat'((first|(show(_=true→_)∧(_=false→_);first|refine gT ?_|refine gF ?_|refine gS ?_ ?_<;>(intro _h;try contradiction))|(show(_=false→_)∧(_=true→_);first|refine gU ?_|refine gV ?_|refine gZ ?_ ?_<;>(intro _h;try contradiction))|(intro _h;try contradiction)|(show _∧_;refine gA ?_)|fail);all_goals conv=>whnf))
      · have hge : 97 ≤ xs.getD (2 * k + j) 0 ∧ xs.getD (2 * k + j) 0 ≤ 102 := by omega
        have hw9 : IntKind.u8.wrap (ys.getD (j : Int).toNat 0 - 97) = xs.getD (2 * k + j) 0 - 97 := by
          rw [hg]
          exact wrap_in.2 ⟨by simp only [loK]; omega, by simp only [hiK]; omega⟩
        refine ⟨(j + 1, pv xs k (j + 1)), [0], by dsimp only; omega, ⟨by dsimp only; omega, rfl⟩, rfl, ?_⟩
        (refine ⟨rfl, rfl, ?_, ?_⟩ <;> repeat' (first | exact True.intro | rfl | decide | (refine And.intro ?_ ?_)))
        · refine key _ ?_
          rw [hw9, e3, wrap_i64 (n := xs.getD (2 * k + j) 0 - 97) (by omega) (by omega), wrap_i64 (n := xs.getD (2 * k + j) 0 - 97 + 10) (by omega) (by omega), wrap_i64 (by omega) (by omega), hn]
          simp only [pv, hx]
          rw [if_pos hge]
        · exact di (by rw [wrap_i64 (by omega) (by omega)]; rfl)
      · refine ⟨(j + 1, pv xs k (j + 1)), [0], by dsimp only; omega, ⟨by dsimp only; omega, rfl⟩, rfl, ?_⟩
        (refine ⟨rfl, rfl, ?_, ?_⟩ <;> repeat' (first | exact True.intro | rfl | decide | (refine And.intro ?_ ?_)))
        · exact key _ (hlow (by omega))
        · exact di (by rw [wrap_i64 (by omega) (by omega)]; rfl)
      · refine ⟨(j + 1, pv xs k (j + 1)), [0], by dsimp only; omega, ⟨by dsimp only; omega, rfl⟩, rfl, ?_⟩
        (refine ⟨rfl, rfl, ?_, ?_⟩ <;> repeat' (first | exact True.intro | rfl | decide | (refine And.intro ?_ ?_)))
        · exact key _ (hlow (by omega))
        · exact di (by rw [wrap_i64 (by omega) (by omega)]; rfl)
    · have hj' : j = 2 := by omega
      ((conv=>whnf);repeat'((first|(show(_=true→_)∧(_=false→_);first|refine gT ?_|refine gF ?_|refine gS ?_ ?_<;>(intro _h;try contradiction))|(show(_=false→_)∧(_=true→_);first|refine gU ?_|refine gV ?_|refine gZ ?_ ?_<;>(intro _h;try contradiction))|(intro _h;try contradiction)|(show _∧_;refine gA ?_)|fail);all_goals conv=>whnf))
      have ebyte : IntKind.u8.wrap n = hxAt xs k := by
        rw [hn, hj']
        simp only [pv, hxAt]
        congr 1
        simp
      refine ⟨by rw [hlen]; show (k + 1) * 1 ≤ 140737488355328; omega, ?_⟩
      ((conv=>whnf);repeat'((first|(show(_=true→_)∧(_=false→_);first|refine gT ?_|refine gF ?_|refine gS ?_ ?_<;>(intro _h;try contradiction))|(show(_=false→_)∧(_=true→_);first|refine gU ?_|refine gV ?_|refine gZ ?_ ?_<;>(intro _h;try contradiction))|(intro _h;try contradiction)|(show _∧_;refine gA ?_)|fail);all_goals conv=>whnf))
      refine ⟨k + 1, [0], by omega, by omega, rfl, ?_⟩
      (refine ⟨rfl, rfl, ?_, ?_⟩ <;> repeat' (first | exact True.intro | rfl | decide | (refine And.intro ?_ ?_)))
      · exact di (by rw [e2]; omega)
      · show some (Ob.row .u8 _ _) = some (Ob.row .u8 _ _)
        rw [ebyte, hexB_take xs k hkl]
  · have e1 : IntKind.i64.wrap (((2 * k : Nat) : Int) + 1) = (2 * k + 1 : Nat) := by rw [wrap_i64 (by omega) (by omega)]; omega
    ((conv=>whnf);repeat'((first|(show(_=true→_)∧(_=false→_);first|refine gT ?_|refine gF ?_|refine gS ?_ ?_<;>(intro _h;try contradiction))|(show(_=false→_)∧(_=true→_);first|refine gU ?_|refine gV ?_|refine gZ ?_ ?_<;>(intro _h;try contradiction))|(intro _h;try contradiction)|(show _∧_;refine gA ?_)|fail);all_goals conv=>whnf))
    refine Ends.imm rfl ?_
    rw [List.take_of_length_le (by simp [hexB]; omega)]

/-- The moduli, and the exponents that go with them. -/
def keyM : Nat → Nat
  | 1 => 8798897235477369662427135118463266393166531668360946010168437584925822992125429558809574850103081583861454032877256194821401750061414846908587360976915741
  | 2 => 127999963861467928976235131166093275292161515016063763923373206774501895897251866639788429389649847322170796078865058902473104027594537885017105652176856237612874369081376323347280241957528896247405164286184783857999238518557773932972970357366484208424006982919891871196302697261030613745495102320304850740117
  | 3 => 21194976876106637767765971718165402166353776426219101977383846722248938411909916334974259674239889560497095207569630968526574494887006368495708710046325672162422584895085717556702231790328714468474804417764748464856769271775639164236900590607434035455341442204371723308978322428797989385976785730466691083582103046616771517615007258510561437830504786488550206182749961020805330594563883953407125895219372141907850320983399201270241215599536426349582548563878865734947792524324328099558734342438666921317912254057202636830323200504800306119446616233962423300924062342948048824120326245834241393092211722134327371078417
  | _ => 12607766334694039014391351008413601944683118988991459305310262151377373165058157047532882643118617957749893479614883761015472045962519006435872599572042897
def keyS : Nat → Nat
  | 1 => 665485662632596122407734592649080606288481405116928134273805682272320568781250178228116130340889242470884941083446684742951338887724730162469359910046321
  | 2 => 19049183120916691344048094653503055449840781692631774073667801039727815198303195741236296259828567743649732178095791301027730004157530242537805674060428016987991313086216564246459434546712853419322174614433193377015960796308433284073844185721518512896022191151064406223025669709891446507495599229498951901233
  | 3 => 1993305155498165339909143944411743843207981766071096251546536144049641147776168718900984932208943944735399031262575651532928603677862333524929438856989613201292271571797012682312803540590674453002799289392145309720382339847554083781285942142742567977310480782254987512624744652484801067800905120004447113747295376264649173116209078018858030489149333629011745679857466373000261196213871082456799966462884700798968705427811623624086488859501306520816411835448873617160761070230710353657650105797764969861846996854073856400239666400673624047118508045279127092387387624038080325041065703851217529775387191758196514993591
  | _ => 4461879983577615604624651717558644379571965763937522489551147675480585081767111051003969606891830699444075379236997817217414472602895223140136589450812183
def keyL : Nat → Nat
  | 2 => 128
  | 3 => 256
  | _ => 64
def modB (k : Nat) : List Int := be (keyL k) (keyM k)
def secB (k : Nat) : List Int := be (keyL k) (keyS k)
def idx (k : Int) : Nat := if k = 1 then 1 else if k = 2 then 2 else if k = 3 then 3 else 0

theorem wfd_bytesOf (s : ByteArray) : wfd (bytesOf s) := fun x hx => by
  simp only [bytesOf, List.mem_map] at hx
  obtain ⟨b, _, rfl⟩ := hx
  have := b.toNat_lt
  omega

theorem k_modulus (k : Int) : Imm Tryd.prog 20 [i64 k] (fun r => r = .d (byt (modB (idx k)))) := by
  (refine Imm.of_awp told0 [] Tryd.func20 rfl (by decide) (Nat.le_of_ble_eq_true rfl) ?_; intro _w0 _S0 _E0 _B0; ((conv=>whnf);repeat'((first|(show(_=true→_)∧(_=false→_);first|refine nTt ?_|refine nFf ?_|refine gS ?_ ?_<;>(intro _h;try contradiction))|(show(_=false→_)∧(_=true→_);first|refine nU ?_|refine nV ?_|refine gZ ?_ ?_<;>(intro _h;try contradiction))|(intro _h;try contradiction)|(show _∧_;refine gA ?_)|fail);all_goals conv=>whnf)))
  · refine acallI (k_hex (bytesOf _) (wfd_bytesOf _) (by decide +kernel) (by decide +kernel)) rfl fun r hr => ?_
    subst hr
    ((conv=>whnf);repeat'((first|(show(_=true→_)∧(_=false→_);first|refine nTt ?_|refine nFf ?_|refine gS ?_ ?_<;>(intro _h;try contradiction))|(show(_=false→_)∧(_=true→_);first|refine nU ?_|refine nV ?_|refine gZ ?_ ?_<;>(intro _h;try contradiction))|(intro _h;try contradiction)|(show _∧_;refine gA ?_)|fail);all_goals conv=>whnf))
    refine Ends.imm rfl ?_
    have : idx k = 1 := by unfold idx; simp [*]
    rw [this]
    refine congrArg (fun l => AVal.d (byt l)) ?_
    decide +kernel
  · refine acallI (k_hex (bytesOf _) (wfd_bytesOf _) (by decide +kernel) (by decide +kernel)) rfl fun r hr => ?_
    subst hr
    ((conv=>whnf);repeat'((first|(show(_=true→_)∧(_=false→_);first|refine nTt ?_|refine nFf ?_|refine gS ?_ ?_<;>(intro _h;try contradiction))|(show(_=false→_)∧(_=true→_);first|refine nU ?_|refine nV ?_|refine gZ ?_ ?_<;>(intro _h;try contradiction))|(intro _h;try contradiction)|(show _∧_;refine gA ?_)|fail);all_goals conv=>whnf))
    refine Ends.imm rfl ?_
    have : idx k = 2 := by unfold idx; simp [*]
    rw [this]
    refine congrArg (fun l => AVal.d (byt l)) ?_
    decide +kernel
  · refine acallI (k_hex (bytesOf _) (wfd_bytesOf _) (by decide +kernel) (by decide +kernel)) rfl fun r hr => ?_
    subst hr
    ((conv=>whnf);repeat'((first|(show(_=true→_)∧(_=false→_);first|refine nTt ?_|refine nFf ?_|refine gS ?_ ?_<;>(intro _h;try contradiction))|(show(_=false→_)∧(_=true→_);first|refine nU ?_|refine nV ?_|refine gZ ?_ ?_<;>(intro _h;try contradiction))|(intro _h;try contradiction)|(show _∧_;refine gA ?_)|fail);all_goals conv=>whnf))
    refine Ends.imm rfl ?_
    have : idx k = 3 := by unfold idx; simp [*]
    rw [this]
    refine congrArg (fun l => AVal.d (byt l)) ?_
    decide +kernel
  · refine acallI (k_hex (bytesOf _) (wfd_bytesOf _) (by decide +kernel) (by decide +kernel)) rfl fun r hr => ?_
    subst hr
    ((conv=>whnf);repeat'((first|(show(_=true→_)∧(_=false→_);first|refine nTt ?_|refine nFf ?_|refine gS ?_ ?_<;>(intro _h;try contradiction))|(show(_=false→_)∧(_=true→_);first|refine nU ?_|refine nV ?_|refine gZ ?_ ?_<;>(intro _h;try contradiction))|(intro _h;try contradiction)|(show _∧_;refine gA ?_)|fail);all_goals conv=>whnf))
    refine Ends.imm rfl ?_
    have : idx k = 0 := by unfold idx; simp [*]
    rw [this]
    refine congrArg (fun l => AVal.d (byt l)) ?_
    decide +kernel
theorem k_secret (k : Int) : Imm Tryd.prog 22 [i64 k] (fun r => r = .d (byt (secB (idx k)))) := by
  (refine Imm.of_awp told0 [] Tryd.func22 rfl (by decide) (Nat.le_of_ble_eq_true rfl) ?_; intro _w0 _S0 _E0 _B0; ((conv=>whnf);repeat'((first|(show(_=true→_)∧(_=false→_);first|refine nTt ?_|refine nFf ?_|refine gS ?_ ?_<;>(intro _h;try contradiction))|(show(_=false→_)∧(_=true→_);first|refine nU ?_|refine nV ?_|refine gZ ?_ ?_<;>(intro _h;try contradiction))|(intro _h;try contradiction)|(show _∧_;refine gA ?_)|fail);all_goals conv=>whnf)))
  · refine acallI (k_hex (bytesOf _) (wfd_bytesOf _) (by decide +kernel) (by decide +kernel)) rfl fun r hr => ?_
    subst hr
    ((conv=>whnf);repeat'((first|(show(_=true→_)∧(_=false→_);first|refine nTt ?_|refine nFf ?_|refine gS ?_ ?_<;>(intro _h;try contradiction))|(show(_=false→_)∧(_=true→_);first|refine nU ?_|refine nV ?_|refine gZ ?_ ?_<;>(intro _h;try contradiction))|(intro _h;try contradiction)|(show _∧_;refine gA ?_)|fail);all_goals conv=>whnf))
    refine Ends.imm rfl ?_
    have : idx k = 1 := by unfold idx; simp [*]
    rw [this]
    refine congrArg (fun l => AVal.d (byt l)) ?_
    decide +kernel
  · refine acallI (k_hex (bytesOf _) (wfd_bytesOf _) (by decide +kernel) (by decide +kernel)) rfl fun r hr => ?_
    subst hr
    ((conv=>whnf);repeat'((first|(show(_=true→_)∧(_=false→_);first|refine nTt ?_|refine nFf ?_|refine gS ?_ ?_<;>(intro _h;try contradiction))|(show(_=false→_)∧(_=true→_);first|refine nU ?_|refine nV ?_|refine gZ ?_ ?_<;>(intro _h;try contradiction))|(intro _h;try contradiction)|(show _∧_;refine gA ?_)|fail);all_goals conv=>whnf))
    refine Ends.imm rfl ?_
    have : idx k = 2 := by unfold idx; simp [*]
    rw [this]
    refine congrArg (fun l => AVal.d (byt l)) ?_
    decide +kernel
  · refine acallI (k_hex (bytesOf _) (wfd_bytesOf _) (by decide +kernel) (by decide +kernel)) rfl fun r hr => ?_
    subst hr
    ((conv=>whnf);repeat'((first|(show(_=true→_)∧(_=false→_);first|refine nTt ?_|refine nFf ?_|refine gS ?_ ?_<;>(intro _h;try contradiction))|(show(_=false→_)∧(_=true→_);first|refine nU ?_|refine nV ?_|refine gZ ?_ ?_<;>(intro _h;try contradiction))|(intro _h;try contradiction)|(show _∧_;refine gA ?_)|fail);all_goals conv=>whnf))
    refine Ends.imm rfl ?_
    have : idx k = 3 := by unfold idx; simp [*]
    rw [this]
    refine congrArg (fun l => AVal.d (byt l)) ?_
    decide +kernel
  · refine acallI (k_hex (bytesOf _) (wfd_bytesOf _) (by decide +kernel) (by decide +kernel)) rfl fun r hr => ?_
    subst hr
    ((conv=>whnf);repeat'((first|(show(_=true→_)∧(_=false→_);first|refine nTt ?_|refine nFf ?_|refine gS ?_ ?_<;>(intro _h;try contradiction))|(show(_=false→_)∧(_=true→_);first|refine nU ?_|refine nV ?_|refine gZ ?_ ?_<;>(intro _h;try contradiction))|(intro _h;try contradiction)|(show _∧_;refine gA ?_)|fail);all_goals conv=>whnf))
    refine Ends.imm rfl ?_
    have : idx k = 0 := by unfold idx; simp [*]
    rw [this]
    refine congrArg (fun l => AVal.d (byt l)) ?_
    decide +kernel
end Go.Proofs.YtniaeiikdgbnfaaDoor.R
namespace Go.Proofs.YtniaeiikdgbnfaaDoor.R
open Go Go.RowKit Go.Proofs Go.Proofs.YtniaeiikdgbnfaaDoor.AW
set_option maxRecDepth 100000
set_option linter.unusedSimpArgs false
set_option linter.unusedVariables false
set_option maxHeartbeats 4000000

/-- A power's rest, by squares. -/
def pm : Nat → Nat → Nat → Nat → Nat
  | 0, _, _, m => 1 % m
  | f + 1, b, e, m => if e = 0 then 1 % m else if e % 2 = 1 then b * pm f (b * b % m) (e / 2) m % m else pm f (b * b % m) (e / 2) m

set_option linter.unusedSectionVars false
variable [Globs]
theorem bn_be {n v : Nat} (h : v < 256 ^ n) : bn (be n v) = v := by
  unfold bn
  rw [dval_be, Nat.mod_eq_of_lt h]

theorem modB_len (k : Nat) : (modB k).length = keyL k := be_length _ _
theorem secB_len (k : Nat) : (secB k).length = keyL k := be_length _ _

/-- The block of the anchor, closed. -/
def ancX : Nat := 6066988274665191910888268032501191046303578170855220796717604126367961076137979329567869479535545857336114934390111988286836951580209618009209795422463266

end Go.Proofs.YtniaeiikdgbnfaaDoor.R
namespace Go.Proofs.YtniaeiikdgbnfaaDoor.R
open Go Go.RowKit Go.Proofs Go.Proofs.YtniaeiikdgbnfaaDoor.AW
set_option linter.unusedSectionVars false
variable [Globs]
set_option maxRecDepth 100000
set_option linter.unusedSimpArgs false
set_option linter.unusedVariables false
set_option maxHeartbeats 4000000

theorem modB_wfd (k : Nat) : wfd (modB k) := be_wfd _ _
theorem secB_wfd (k : Nat) : wfd (secB k) := be_wfd _ _
def toldAnc : AW.Told := ⟨fun _ => false, fun r i => if r == 7 && i == 3 then [38] else [], fun _ => .done⟩


theorem wfd_known {xs : List Int} (h : (D.ints .u8 xs).known) : wfd xs := fun x hx => by
  have := h.2 x hx
  rw [wrap_in] at this
  simp [loK, hiK] at this
  omega

theorem ev_exp : ev [1, 0, 1] = 65537 := by decide


theorem bn_nonneg {m : List Int} (h : wfd m) : 0 ≤ bn m := dval_nonneg h.reverse

def toldKP : AW.Told := ⟨fun _ => false, fun r i => if r == 14 && i == 0 then [7, 14] else [], fun r => if r == 16 then .take 0 (.take 1 (.take 2 (.take 3 (.take 5 (.take 6 (.take 7 (.two 4 (.one 8 (.take 9 (.take 10 (.take 11 (.take 12 .done))))) 8 (.take 4 (.take 9 (.take 10 (.take 11 (.take 12 .done)))))))))))) else .done⟩

theorem modB_right (k : Nat) (hk : k ≤ 3) : notMod (modB k) = 0 := by
  have : k = 0 ∨ k = 1 ∨ k = 2 ∨ k = 3 := by omega
  rcases this with rfl | rfl | rfl | rfl <;> decide +kernel
theorem keyL_le (k : Nat) : 64 ≤ keyL k ∧ keyL k ≤ 256 := by
  unfold keyL
  split <;> omega


theorem db {p q : Prop} [Decidable p] [Decidable q] (h : p ↔ q) : AVal.d (.bool (decide p)) = bool (decide q) := by
  rw [decide_eq_decide.2 h]

/-- Does a stretch lie within so many bytes? -/
def inside (o l t : Int) : Bool := decide (0 ≤ o ∧ 0 ≤ l ∧ 0 ≤ t ∧ o ≤ t ∧ l ≤ t - o)

theorem k_equal (a b : List Int) : Imm Tryd.prog 63 [.d (byt a), .d (byt b)] (fun r => r = bool (decide (a = b))) := by
  (refine Imm.of_awp told0 [] Tryd.func63 rfl (by decide) (Nat.le_of_ble_eq_true rfl) ?_; intro _w0 _S0 _E0 _B0; ((conv=>whnf);repeat'((first|(show(_=true→_)∧(_=false→_);first|refine nTt ?_|refine nFf ?_|refine gS ?_ ?_<;>(intro _h;try contradiction))|(show(_=false→_)∧(_=true→_);first|refine nU ?_|refine nV ?_|refine gZ ?_ ?_<;>(intro _h;try contradiction))|(intro _h;try contradiction)|(show _∧_;refine gA ?_)|fail);all_goals conv=>whnf)))
  refine Ends.imm rfl ?_
  exact db Iff.rfl

theorem bn_snoc (xs : List Int) (x : Int) : bn (xs ++ [x]) = bn xs * 256 + x := by
  unfold bn
  rw [List.reverse_append, List.reverse_singleton, List.singleton_append]
  simp only [dval]
  omega
theorem bn_lt {xs : List Int} (h : wfd xs) : bn xs < ((256 ^ xs.length : Nat) : Int) := by
  have a2 := dval_lt h.reverse
  rw [List.length_reverse] at a2
  have e : dpw xs.length = ((256 ^ xs.length : Nat) : Int) := by unfold dpw; push_cast; rfl
  rw [← e]
  exact a2

theorem wrap_u64 {n : Int} (h0 : 0 ≤ n) (h1 : n < 18446744073709551616) : IntKind.u64.wrap n = n := wrap_in.2 ⟨by simp only [loK]; omega, by simp only [hiK]; omega⟩

/-- So many bytes from a place on. -/
def cutB (b : List Int) (off len : Nat) : List Int := (b.take (off + len)).drop off
theorem cutB_len {b : List Int} {off len : Nat} (h : off + len ≤ b.length) : (cutB b off len).length = len := by simp [cutB]; omega
theorem wfd.cut {b : List Int} (h : wfd b) (off len : Nat) : wfd (cutB b off len) := (h.take _).drop _

/-- What Get answers. -/
def getV (b : List Int) (off size : Nat) : Int × Int :=
  if inside off size b.length = false then (0, 10)
  else if 9223372036854775808 ≤ bn (cutB b off size) then (0, 11) else (bn (cutB b off size), 0)


theorem u8w (n : Nat) : IntKind.u8.wrap (n : Int) = ((n % 256 : Nat) : Int) := by
  simp [IntKind.wrap, IntKind.bits, IntKind.signed]

end Go.Proofs.YtniaeiikdgbnfaaDoor.R
