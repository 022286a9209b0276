/- Parts K28, K29. No condition of its own. -/
import Derived.Test.YtniaeiikdgbnfaaDoorKO11
import Derived.Test.YtniaeiikdgbnfaaDoorKO12

namespace Go.Proofs.YtniaeiikdgbnfaaDoor.R
open Go Go.RowKit Go.Proofs Go.Proofs.YtniaeiikdgbnfaaDoor.AW
set_option linter.unusedSectionVars false
variable [Globs]
set_option maxRecDepth 100000
set_option linter.unusedSimpArgs false
set_option linter.unusedVariables false
set_option maxHeartbeats 4000000

theorem k_fromO (b : List Int) (w : Nat) (hb : wfd b) (hw : 1 ≤ w ∧ w ≤ 256) (hl : b.length ≤ 4 * w) : CSpec Tryd.prog 24 [.d (byt b), i64 w] [] 0 (fun st nx r => ∃ n, st = [(0, .row .u32 79 n)] ∧ nx = 1 ∧ r = .tup [.own 0, i64 0] ∧ n.length = w ∧ wfl n ∧ val n = dval b.reverse) := by
  refine CSpec.ends (CSpec.of_awp toldFrom [] Tryd.func24 rfl (by decide) (Nat.le_of_ble_eq_true rfl) fun _w0 _S0 _E0 _B0 => ?_)
  ((conv=>whnf);repeat'((first|(show(_=true→_)∧(_=false→_);first|refine gT ?_|refine gF ?_|refine gS ?_ ?_<;>(intro _h;try contradiction))|(show(_=false→_)∧(_=true→_);first|refine gU ?_|refine gV ?_|refine gZ ?_ ?_<;>(intro _h;try contradiction))|(intro _h;try contradiction)|(show _∧_;refine gA ?_)|fail);all_goals conv=>whnf))
  refine acallI (k_backB b) rfl fun r hr => ?_
  subst hr
  ((conv=>whnf);repeat'((first|(show(_=true→_)∧(_=false→_);first|refine gT ?_|refine gF ?_|refine gS ?_ ?_<;>(intro _h;try contradiction))|(show(_=false→_)∧(_=true→_);first|refine gU ?_|refine gV ?_|refine gZ ?_ ?_<;>(intro _h;try contradiction))|(intro _h;try contradiction)|(show _∧_;refine gA ?_)|fail);all_goals conv=>whnf))
  refine AWp.rangeFunc toldFrom (aiB b) (ι := List Int) [(2, .optr 0 0), (3, .optr 1 0), (4, .optr 2 0), (5, .optr 3 0), (6, .optr 5 0)]
    (fun n => [(0, .cell 22 [.d (byt b)]), (1, .cell 3 [i64 w]), (2, .cell 37 [.nls (nat [])]), (3, .cell 25 [i64 0]), (4, .row .u32 79 n), (5, .cell 37 [.own 4])]) 49 6 6
    (fun k n => n.length = w ∧ wfl n ∧ val n = dval (b.reverse.take k) ∧ keep4 k n)
    (fun e v => False) rfl rfl rfl (fun k hk => rfl) rfl rfl (Nat.zero_le _) (Nat.le_refl _) rfl ?_ ?_ ?_ ?_ ?_
  · refine ⟨List.replicate w 0, [0, 1, 2, 3, 4, 5], rfl, ⟨by simp, fun x hx => by rw [List.eq_of_mem_replicate hx]; omega, ?_, fun j hj => ?_, ?_⟩, by (refine ⟨rfl, rfl, ?_, ?_⟩ <;> repeat' (first | exact True.intro | rfl | decide | (refine And.intro ?_ ?_)))⟩
    · rw [val_zero_of _ fun j => ?_]; rfl
      rw [List.getD_eq_getElem?_getD, List.getElem?_replicate]; split <;> rfl
    · rw [List.getD_eq_getElem?_getD, List.getElem?_replicate]; split <;> rfl
    · rw [List.getD_eq_getElem?_getD, List.getElem?_replicate]; split <;> simp
  · intro k n hk ⟨hn, hwf, hv, hz, hlt⟩ _ _ _ _ _
    have e1 : IntKind.i64.wrap (IntKind.i64.wrap ((b.length : Int) - 1) - ((b.length : Int) - 1 - k)) = k := by
      rw [wrap_i64 (n := (b.length : Int) - 1) (by omega) (by omega), wrap_i64 (by omega) (by omega)]; omega
    have e2 : IntKind.i64.wrap ((k : Int).tdiv 4) = (k / 4 : Nat) := by
      rw [Int.tdiv_eq_ediv_of_nonneg (by omega), wrap_i64 (by omega) (by omega)]; omega
    have e3 : (k : Int).tmod 4 = (k % 4 : Nat) := by rw [Int.tmod_eq_emod_of_nonneg (by omega)]; omega
    have e12 : IntKind.i64.wrap ((IntKind.i64.wrap (IntKind.i64.wrap ((b.length : Int) - 1) - ((b.length : Int) - 1 - k))).tdiv 4) = (k / 4 : Nat) := by rw [e1, e2]
    have e13 : IntKind.i64.wrap (8 * (IntKind.i64.wrap (IntKind.i64.wrap ((b.length : Int) - 1) - ((b.length : Int) - 1 - k))).tmod 4) = 8 * (k % 4 : Nat) := by rw [e1, e3, wrap_i64 (by omega) (by omega)]
    have hg := hb.get (b.length - 1 - k)
    have hg2 := hwf.get (k / 4)
    ((conv=>whnf);repeat'((first|(show(_=true→_)∧(_=false→_);first|refine gT ?_|refine gF ?_|refine gS ?_ ?_<;>(intro _h;try contradiction))|(show(_=false→_)∧(_=true→_);first|refine gU ?_|refine gV ?_|refine gZ ?_ ?_<;>(intro _h;try contradiction))|(intro _h;try contradiction)|(show _∧_;refine gA ?_)|fail);all_goals conv=>whnf))
    refine ⟨_, [0, 1, 2, 3, 4, 5], rfl, from_step b n w k hb hk (by omega) hn hwf hv ⟨hz, hlt⟩ rfl, rfl, ?_⟩
    (repeat' (first | exact True.intro | rfl | decide | (refine And.intro ?_ ?_)))
    show some (Ob.row .u32 _ _) = some (Ob.row .u32 _ _)
    have ec : IntKind.u32.wrap (b.getD (b.length - 1 - k) 0) = b.getD (b.length - 1 - k) 0 := wrap_u32 (by omega) (by omega)
    rw [e12, Int.toNat_natCast, ec, or_step _ _ (k % 4) (Nat.mod_lt _ (by omega)) hg2.1 hlt hg.1 hg.2 _ e13]
  · intro n ⟨hn, hwf, hv, hz⟩
    ((conv=>whnf);repeat'((first|(show(_=true→_)∧(_=false→_);first|refine gT ?_|refine gF ?_|refine gS ?_ ?_<;>(intro _h;try contradiction))|(show(_=false→_)∧(_=true→_);first|refine gU ?_|refine gV ?_|refine gZ ?_ ?_<;>(intro _h;try contradiction))|(intro _h;try contradiction)|(show _∧_;refine gA ?_)|fail);all_goals conv=>whnf))
    refine ⟨[4], [(0, .row .u32 79 n)], .tup [.own 0, i64 0], ⟨rfl, ⟨⟨by decide, rfl⟩, trivial⟩, rfl⟩, n, rfl, rfl, rfl, hn, hwf, ?_⟩
    rw [hv, List.take_of_length_le (by simp)]
  · intro n h
    exact h.elim
  · intro id n h
    exact h.elim
theorem k_hexO (xs : List Int) (hx0 : wfd xs) (hl : xs.length ≤ 100000) (h2 : 2 ≤ xs.length) : CSpec Tryd.prog 54 [.d (.str xs)] [] 0 (fun st nx r => st = [(0, .row .u8 5 (hexB xs))] ∧ nx = 1 ∧ r = .own 0) := by
  refine CSpec.ends (CSpec.of_awp told0 [] Tryd.func54 rfl (by decide) (Nat.le_of_ble_eq_true rfl) fun _w0 _S0 _E0 _B0 => ?_)
  ((conv=>whnf);repeat'((first|(show(_=true→_)∧(_=false→_);first|refine gT ?_|refine gF ?_|refine gS ?_ ?_<;>(intro _h;try contradiction))|(show(_=false→_)∧(_=true→_);first|refine gU ?_|refine gV ?_|refine gZ ?_ ?_<;>(intro _h;try contradiction))|(intro _h;try contradiction)|(show _∧_;refine gA ?_)|fail);all_goals conv=>whnf))
  refine AWp.adopt 3 (.row .u8 5 []) rfl rfl ?_
  refine aloop (T := told0) (ι := Nat) (fun k => [(0, .d (.str xs)), (3, .own 0), (4, i64 (2 * k : Nat))]) (fun k => [(0, .row .u8 5 ((hexB xs).take k))]) 52 1
    (fun k => xs.length / 2 - k) (fun k => k ≤ xs.length / 2)
    ⟨0, [0], rfl, by omega, by (refine ⟨rfl, rfl, ?_, ?_⟩ <;> repeat' (first | exact True.intro | rfl | decide | (refine And.intro ?_ ?_)))⟩ ?_
  intro k hk
  have hlen : ((hexB xs).take k).length = k := by simp [hexB]; omega
  rcases Nat.lt_or_ge k (xs.length / 2) with hkl | hkl
  · have e1 : IntKind.i64.wrap (((2 * k : Nat) : Int) + 1) = (2 * k + 1 : Nat) := by rw [wrap_i64 (by omega) (by omega)]; omega
    have e2 : IntKind.i64.wrap (((2 * k : Nat) : Int) + 2) = (2 * k + 2 : Nat) := by rw [wrap_i64 (by omega) (by omega)]; omega
    ((conv=>whnf);repeat'((first|(show(_=true→_)∧(_=false→_);first|refine gT ?_|refine gF ?_|refine gS ?_ ?_<;>(intro _h;try contradiction))|(show(_=false→_)∧(_=true→_);first|refine gU ?_|refine gV ?_|refine gZ ?_ ?_<;>(intro _h;try contradiction))|(intro _h;try contradiction)|(show _∧_;refine gA ?_)|fail);all_goals conv=>whnf))
    obtain ⟨ys, hys⟩ : ∃ ys, ys = (xs.take (2 * k + 2)).drop (2 * k) := ⟨_, rfl⟩
    have hyl : ys.length = 2 := by rw [hys]; simp; omega
    have hyg : ∀ j, j < 2 → ys.getD j 0 = xs.getD (2 * k + j) 0 := fun j hj => by
      rw [hys, List.getD_eq_getElem?_getD, List.getElem?_drop, List.getElem?_take, if_pos (by omega), ← List.getD_eq_getElem?_getD]
    refine aloop (T := told0) (ι := Nat × Int) (fun p => [(0, .d (.str xs)), (3, .own 0), (4, i64 (2 * k : Nat)), (5, i64 p.2), (20, .d (byt ys)), (21, i64 ys.length), (22, i64 p.1)]) (fun p => [(0, .row .u8 5 ((hexB xs).take k))]) 52 1
      (fun p => 2 - p.1) (fun p => p.1 ≤ 2 ∧ p.2 = pv xs k p.1)
      ⟨(0, 0), [0], rfl, ⟨by omega, rfl⟩, by
        (refine ⟨rfl, rfl, ?_, ?_⟩ <;> repeat' (first | exact True.intro | rfl | decide | (refine And.intro ?_ ?_)))
        · show AVal.d (.ints .u8 _) = AVal.d (.ints .u8 ys)
          rw [e2, hys]; rfl
        · show AVal.d (.int .i64 _) = AVal.d (.int .i64 ys.length)
          rw [e2, hys]; rfl⟩ ?_
    intro ⟨j, n⟩ ⟨hj, hn⟩
    dsimp only at hj hn ⊢
    have hpb : ∀ j, j ≤ 2 → 0 ≤ pv xs k j ∧ pv xs k j ≤ 10000 := fun j hj => by
      have a0 := hx_le (xs.getD (2 * k + 0) 0)
      have a1 := hx_le (xs.getD (2 * k + 1) 0)
      have : j = 0 ∨ j = 1 ∨ j = 2 := by omega
      rcases this with rfl | rfl | rfl <;> simp only [pv] <;> omega
    have hp := hpb j hj
    rcases Nat.lt_or_ge j 2 with hj2 | hj2
    · have hg : ys.getD (j : Int).toNat 0 = xs.getD (2 * k + j) 0 := by rw [Int.toNat_natCast]; exact hyg j hj2
      have hc := hx0.get (2 * k + j)
      have hp1 := hpb (j + 1) (by omega)
      have hxl := hx_le (xs.getD (2 * k + j) 0)
      have e3 : IntKind.i64.wrap (n * 16) = n * 16 := wrap_i64 (by omega) (by omega)
      have key : ∀ v, v = pv xs k (j + 1) → AVal.d (.int .i64 v) = i64 (pv xs k (j + 1)) := fun v h => di h
      have hw8 : IntKind.u8.wrap (ys.getD (j : Int).toNat 0 - 48) = IntKind.u8.wrap (xs.getD (2 * k + j) 0 - 48) := by rw [hg]
      have hw8b : 0 ≤ IntKind.u8.wrap (xs.getD (2 * k + j) 0 - 48) ∧ IntKind.u8.wrap (xs.getD (2 * k + j) 0 - 48) ≤ 255 := by
        simp [IntKind.wrap, IntKind.bits, IntKind.signed]; omega
      have hlow : ¬ (97 ≤ xs.getD (2 * k + j) 0 ∧ xs.getD (2 * k + j) 0 ≤ 102) → IntKind.i64.wrap (IntKind.i64.wrap (n * 16) + IntKind.i64.wrap (IntKind.u8.wrap (ys.getD (j : Int).toNat 0 - 48))) = pv xs k (j + 1) := fun h => by
        rw [hw8, e3, wrap_i64 (n := IntKind.u8.wrap (xs.getD (2 * k + j) 0 - 48)) (by omega) (by omega), wrap_i64 (by omega) (by omega), hn]
        simp only [pv, hx]
        rw [if_neg h]
      ((conv=>whnf);repeat'((first|(show(_=true→_)∧(_=false→_);first|refine gT ?_|refine gF ?_|refine gS ?_ ?_<;>(intro _h;try contradiction))|(show(_=false→_)∧(_=true→_);first|refine gU ?_|refine gV ?_|refine gZ ?_ ?_<;>(intro _h;try contradiction))|(intro _h;try contradiction)|(show _∧_;refine gA ?_)|fail);all_goals conv=>whnf))
      · have hge : 97 ≤ xs.getD (2 * k + j) 0 ∧ xs.getD (2 * k + j) 0 ≤ 102 := by omega
        have hw9 : IntKind.u8.wrap (ys.getD (j : Int).toNat 0 - 97) = xs.getD (2 * k + j) 0 - 97 := by
          rw [hg]
          exact wrap_in.2 ⟨by simp only [loK]; omega, by simp only [hiK]; omega⟩
        refine ⟨(j + 1, pv xs k (j + 1)), [0], by dsimp only; omega, ⟨by dsimp only; omega, rfl⟩, rfl, ?_⟩
        (refine ⟨rfl, rfl, ?_, ?_⟩ <;> repeat' (first | exact True.intro | rfl | decide | (refine And.intro ?_ ?_)))
        · refine key _ ?_
          rw [hw9, e3, wrap_i64 (n := xs.getD (2 * k + j) 0 - 97) (by omega) (by omega), wrap_i64 (n := xs.getD (2 * k + j) 0 - 97 + 10) (by omega) (by omega), wrap_i64 (by omega) (by omega), hn]
          simp only [pv, hx]
          rw [if_pos hge]
        · exact di (by rw [wrap_i64 (by omega) (by omega)]; rfl)
      · refine ⟨(j + 1, pv xs k (j + 1)), [0], by dsimp only; omega, ⟨by dsimp only; omega, rfl⟩, rfl, ?_⟩
        (refine ⟨rfl, rfl, ?_, ?_⟩ <;> repeat' (first | exact True.intro | rfl | decide | (refine And.intro ?_ ?_)))
        · exact key _ (hlow (by omega))
        · exact di (by rw [wrap_i64 (by omega) (by omega)]; rfl)
      · refine ⟨(j + 1, pv xs k (j + 1)), [0], by dsimp only; omega, ⟨by dsimp only; omega, rfl⟩, rfl, ?_⟩
        (refine ⟨rfl, rfl, ?_, ?_⟩ <;> repeat' (first | exact True.intro | rfl | decide | (refine And.intro ?_ ?_)))
        · exact key _ (hlow (by omega))
        · exact di (by rw [wrap_i64 (by omega) (by omega)]; rfl)
    · have hj' : j = 2 := by omega
      ((conv=>whnf);repeat'((first|(show(_=true→_)∧(_=false→_);first|refine gT ?_|refine gF ?_|refine gS ?_ ?_<;>(intro _h;try contradiction))|(show(_=false→_)∧(_=true→_);first|refine gU ?_|refine gV ?_|refine gZ ?_ ?_<;>(intro _h;try contradiction))|(intro _h;try contradiction)|(show _∧_;refine gA ?_)|fail);all_goals conv=>whnf))
      have ebyte : IntKind.u8.wrap n = hxAt xs k := by
        rw [hn, hj']
        simp only [pv, hxAt]
        congr 1
        simp
      refine ⟨by rw [hlen]; show (k + 1) * 1 ≤ 140737488355328; omega, ?_⟩
      ((conv=>whnf);repeat'((first|(show(_=true→_)∧(_=false→_);first|refine gT ?_|refine gF ?_|refine gS ?_ ?_<;>(intro _h;try contradiction))|(show(_=false→_)∧(_=true→_);first|refine gU ?_|refine gV ?_|refine gZ ?_ ?_<;>(intro _h;try contradiction))|(intro _h;try contradiction)|(show _∧_;refine gA ?_)|fail);all_goals conv=>whnf))
      refine ⟨k + 1, [0], by omega, by omega, rfl, ?_⟩
      (refine ⟨rfl, rfl, ?_, ?_⟩ <;> repeat' (first | exact True.intro | rfl | decide | (refine And.intro ?_ ?_)))
      · exact di (by rw [e2]; omega)
      · show some (Ob.row .u8 _ _) = some (Ob.row .u8 _ _)
        rw [ebyte, hexB_take xs k hkl]
  · have e1 : IntKind.i64.wrap (((2 * k : Nat) : Int) + 1) = (2 * k + 1 : Nat) := by rw [wrap_i64 (by omega) (by omega)]; omega
    ((conv=>whnf);repeat'((first|(show(_=true→_)∧(_=false→_);first|refine gT ?_|refine gF ?_|refine gS ?_ ?_<;>(intro _h;try contradiction))|(show(_=false→_)∧(_=true→_);first|refine gU ?_|refine gV ?_|refine gZ ?_ ?_<;>(intro _h;try contradiction))|(intro _h;try contradiction)|(show _∧_;refine gA ?_)|fail);all_goals conv=>whnf))
    have e : (hexB xs).take k = hexB xs := List.take_of_length_le (by simp [hexB]; omega)
    rw [e]
    exact ⟨[0], [(0, .row .u8 5 (hexB xs))], .own 0, ⟨rfl, ⟨⟨by decide, rfl⟩, trivial⟩, rfl⟩, rfl, rfl, rfl⟩

theorem k_modulusO (k : Int) : CSpec Tryd.prog 20 [i64 k] [] 0 (fun st nx r => st = [(0, .row .u8 5 (modB (idx k)))] ∧ nx = 1 ∧ r = .own 0) := by
  refine CSpec.ends (CSpec.of_awp told0 [] Tryd.func20 rfl (by decide) (Nat.le_of_ble_eq_true rfl) fun _w0 _S0 _E0 _B0 => ?_)
  ((conv=>whnf);repeat'((first|(show(_=true→_)∧(_=false→_);first|refine nTt ?_|refine nFf ?_|refine gS ?_ ?_<;>(intro _h;try contradiction))|(show(_=false→_)∧(_=true→_);first|refine nU ?_|refine nV ?_|refine gZ ?_ ?_<;>(intro _h;try contradiction))|(intro _h;try contradiction)|(show _∧_;refine gA ?_)|fail);all_goals conv=>whnf))
  · refine acall [] (k_hexO (bytesOf _) (wfd_bytesOf _) (by decide +kernel) (by decide +kernel)) rfl (by simp [stIn]) rfl (fun _ => rfl) ?_
    rintro st nx r ⟨rfl, rfl, rfl⟩
    ((conv=>whnf);repeat'((first|(show(_=true→_)∧(_=false→_);first|refine nTt ?_|refine nFf ?_|refine gS ?_ ?_<;>(intro _h;try contradiction))|(show(_=false→_)∧(_=true→_);first|refine nU ?_|refine nV ?_|refine gZ ?_ ?_<;>(intro _h;try contradiction))|(intro _h;try contradiction)|(show _∧_;refine gA ?_)|fail);all_goals conv=>whnf))
    have : idx k = 1 := by unfold idx; simp [*]
    rw [this]
    refine ⟨[0], [(0, .row .u8 5 (modB 1))], .own 0, ⟨rfl, ⟨⟨by decide, ?_⟩, trivial⟩, rfl⟩, rfl, rfl, rfl⟩
    show some (Ob.row .u8 _ _) = some (Ob.row .u8 _ _)
    exact congrArg (fun l => some (Ob.row .u8 5 l)) (by decide +kernel)
  · refine acall [] (k_hexO (bytesOf _) (wfd_bytesOf _) (by decide +kernel) (by decide +kernel)) rfl (by simp [stIn]) rfl (fun _ => rfl) ?_
    rintro st nx r ⟨rfl, rfl, rfl⟩
    ((conv=>whnf);repeat'((first|(show(_=true→_)∧(_=false→_);first|refine nTt ?_|refine nFf ?_|refine gS ?_ ?_<;>(intro _h;try contradiction))|(show(_=false→_)∧(_=true→_);first|refine nU ?_|refine nV ?_|refine gZ ?_ ?_<;>(intro _h;try contradiction))|(intro _h;try contradiction)|(show _∧_;refine gA ?_)|fail);all_goals conv=>whnf))
    have : idx k = 2 := by unfold idx; simp [*]
    rw [this]
    refine ⟨[0], [(0, .row .u8 5 (modB 2))], .own 0, ⟨rfl, ⟨⟨by decide, ?_⟩, trivial⟩, rfl⟩, rfl, rfl, rfl⟩
    show some (Ob.row .u8 _ _) = some (Ob.row .u8 _ _)
    exact congrArg (fun l => some (Ob.row .u8 5 l)) (by decide +kernel)
  · refine acall [] (k_hexO (bytesOf _) (wfd_bytesOf _) (by decide +kernel) (by decide +kernel)) rfl (by simp [stIn]) rfl (fun _ => rfl) ?_
    rintro st nx r ⟨rfl, rfl, rfl⟩
    ((conv=>whnf);repeat'((first|(show(_=true→_)∧(_=false→_);first|refine nTt ?_|refine nFf ?_|refine gS ?_ ?_<;>(intro _h;try contradiction))|(show(_=false→_)∧(_=true→_);first|refine nU ?_|refine nV ?_|refine gZ ?_ ?_<;>(intro _h;try contradiction))|(intro _h;try contradiction)|(show _∧_;refine gA ?_)|fail);all_goals conv=>whnf))
    have : idx k = 3 := by unfold idx; simp [*]
    rw [this]
    refine ⟨[0], [(0, .row .u8 5 (modB 3))], .own 0, ⟨rfl, ⟨⟨by decide, ?_⟩, trivial⟩, rfl⟩, rfl, rfl, rfl⟩
    show some (Ob.row .u8 _ _) = some (Ob.row .u8 _ _)
    exact congrArg (fun l => some (Ob.row .u8 5 l)) (by decide +kernel)
  · refine acall [] (k_hexO (bytesOf _) (wfd_bytesOf _) (by decide +kernel) (by decide +kernel)) rfl (by simp [stIn]) rfl (fun _ => rfl) ?_
    rintro st nx r ⟨rfl, rfl, rfl⟩
    ((conv=>whnf);repeat'((first|(show(_=true→_)∧(_=false→_);first|refine nTt ?_|refine nFf ?_|refine gS ?_ ?_<;>(intro _h;try contradiction))|(show(_=false→_)∧(_=true→_);first|refine nU ?_|refine nV ?_|refine gZ ?_ ?_<;>(intro _h;try contradiction))|(intro _h;try contradiction)|(show _∧_;refine gA ?_)|fail);all_goals conv=>whnf))
    have : idx k = 0 := by unfold idx; simp [*]
    rw [this]
    refine ⟨[0], [(0, .row .u8 5 (modB 0))], .own 0, ⟨rfl, ⟨⟨by decide, ?_⟩, trivial⟩, rfl⟩, rfl, rfl, rfl⟩
    show some (Ob.row .u8 _ _) = some (Ob.row .u8 _ _)
    exact congrArg (fun l => some (Ob.row .u8 5 l)) (by decide +kernel)

def toldMk : AW.Told := ⟨fun f => f == 24 || f == 47, fun r i => if r == 7 && i == 1 then [37] else if r == 10 && i == 3 then [44] else [], fun _ => .done⟩

theorem k_makeO (m : List Int) (hm : wfd m) (hl : m.length ≤ LIM) (hn : notMod m = 0) : CSpec Tryd.prog 17 [.own 0] [(0, .row .u8 5 m)] 1 (fun st nx r => ∃ n n0 rr, st = [(0, .row .u8 5 m)] ∧ nx = 1 ∧ r = .tup [.d (keyD m n n0 rr), i64 0] ∧ Key m n n0 rr) := by
  unfold LIM at hl
  have hsz : sized m.length = true := by
    cases h : sized m.length with
    | true => rfl
    | false => unfold notMod at hn; rw [h] at hn; simp at hn
  have ⟨h1, h2, h3⟩ := sized_spec.1 hsz
  have hof : ¬ (m.getD 0 0 < 128 ∨ m.getD (m.length - 1) 0 % 2 = 0) := fun h => by unfold notMod at hn; rw [hsz, if_neg (by simp), if_pos h] at hn; simp at hn
  have e1 : IntKind.i64.wrap ((m.length : Int) - 1) = (m.length - 1 : Nat) := by rw [wrap_i64 (by omega) (by omega)]; omega
  have e2 : IntKind.i64.wrap ((m.length : Int).tdiv 4) = (m.length / 4 : Nat) := by rw [Int.tdiv_eq_ediv_of_nonneg (by omega), wrap_i64 (by omega) (by omega)]; omega
  have g1 := hm.get 0
  have g2 := hm.get (m.length - 1)
  have e3 : (m.getD (m.length - 1) 0).tmod 2 = m.getD (m.length - 1) 0 % 2 := Int.tmod_eq_emod_of_nonneg g2.1
  have e4 : m.length = 4 * (m.length / 4) := by omega
  have hh1 : ¬ m.getD (Int.toNat 0) 0 < 128 := fun h => hof (.inl h)
  have hh2 : ¬ (m.getD (IntKind.i64.wrap ((m.length : Int) - 1)).toNat 0).tmod 2 = 0 := by
    rw [e1, Int.toNat_natCast, e3]
    exact fun h => hof (.inr h)
  refine CSpec.ends (CSpec.of_awp toldMk [2] Tryd.func17 rfl (by decide) (Nat.le_of_ble_eq_true rfl) fun _w0 _S0 _E0 _B0 => ?_)
  ((conv=>whnf);repeat'((first|(show(_=true→_)∧(_=false→_);first|refine gT ?_|refine gF ?_|refine gS ?_ ?_<;>(intro _h;try contradiction))|(show(_=false→_)∧(_=true→_);first|refine gU ?_|refine gV ?_|refine gZ ?_ ?_<;>(intro _h;try contradiction))|(intro _h;try contradiction)|(show _∧_;refine gA ?_)|fail);all_goals conv=>whnf))
  refine acallI (k_sized m.length (by unfold LIM; omega)) rfl fun r hr => ?_
  subst hr
  rw [hsz]
  ((conv=>whnf);repeat'((first|(show(_=true→_)∧(_=false→_);first|refine gT ?_|refine gF ?_|refine gS ?_ ?_<;>(intro _h;try contradiction))|(show(_=false→_)∧(_=true→_);first|refine gU ?_|refine gV ?_|refine gZ ?_ ?_<;>(intro _h;try contradiction))|(intro _h;try contradiction)|(show _∧_;refine gA ?_)|fail);all_goals conv=>whnf))
  refine acall [0] ((k_fromO m (m.length / 4) hm (by omega) (by omega)).peek (e := 5) (fun x hx => by simp at hx; subst hx; exact ⟨_, _, rfl⟩) fun st nx r ⟨n, h1, h2, h3, _⟩ => ⟨_, _, n, h1, h2, .inr ⟨_, _, h3⟩⟩) rfl ⟨⟨by decide, rfl⟩, trivial⟩ (by rw [← e2]; rfl) (fun h => Bool.noConfusion h) ?_
  rintro st nx r ⟨k2, t2, xs, r0, ⟨n, hst, _, rfl, hnl, hnw, hnv⟩, rfl, rfl, rfl⟩
  simp only [List.cons.injEq, Prod.mk.injEq, Ob.row.injEq, and_true, true_and] at hst
  obtain ⟨rfl, rfl, rfl⟩ := hst
  have hodd : ¬ xs.getD 0 0 % 2 = 0 := by
    rw [← val_odd, hnv]
    show ¬ bn m % 2 = 0
    rw [bn_odd m (by omega)]
    exact fun h => hof (.inr h)
  have hbig : 1 < val xs := by
    rw [hnv]
    have := bn_high m hm (by omega)
    show 1 < bn m
    have : ¬ m.getD 0 0 < 128 := fun h => hof (.inl h)
    omega
  ((conv=>whnf);repeat'((first|(show(_=true→_)∧(_=false→_);first|refine gT ?_|refine gF ?_|refine gS ?_ ?_<;>(intro _h;try contradiction))|(show(_=false→_)∧(_=true→_);first|refine gU ?_|refine gV ?_|refine gZ ?_ ?_<;>(intro _h;try contradiction))|(intro _h;try contradiction)|(show _∧_;refine gA ?_)|fail);all_goals conv=>whnf))
  refine acallI (f11 xs hnw) rfl fun r hr => ?_
  rw [if_neg (by omega), if_neg (by omega)] at hr
  obtain ⟨n0, rr, rfl, hR⟩ := hr
  ((conv=>whnf);repeat'((first|(show(_=true→_)∧(_=false→_);first|refine gT ?_|refine gF ?_|refine gS ?_ ?_<;>(intro _h;try contradiction))|(show(_=false→_)∧(_=true→_);first|refine gU ?_|refine gV ?_|refine gZ ?_ ?_<;>(intro _h;try contradiction))|(intro _h;try contradiction)|(show _∧_;refine gA ?_)|fail);all_goals conv=>whnf))
  refine acall [0] ((k_cloneA m (by omega)).peek (e := 5) (fun x hx => by simp at hx) fun st nx r ⟨h1, h2, h3⟩ => ⟨_, _, m, h1, h2, .inl h3⟩) rfl ⟨⟨by decide, rfl⟩, trivial⟩ rfl (fun h => Bool.noConfusion h) ?_
  rintro st nx r ⟨k2, t2, ys, r0, ⟨hst, _, rfl⟩, rfl, rfl, rfl⟩
  simp only [List.cons.injEq, Prod.mk.injEq, Ob.row.injEq, and_true, true_and] at hst
  obtain ⟨rfl, rfl, rfl⟩ := hst
  ((conv=>whnf);repeat'((first|(show(_=true→_)∧(_=false→_);first|refine gT ?_|refine gF ?_|refine gS ?_ ?_<;>(intro _h;try contradiction))|(show(_=false→_)∧(_=true→_);first|refine gU ?_|refine gV ?_|refine gZ ?_ ?_<;>(intro _h;try contradiction))|(intro _h;try contradiction)|(show _∧_;refine gA ?_)|fail);all_goals conv=>whnf))
  exact ⟨[0], [(0, .row .u8 5 ys)], .tup [.d (keyD ys xs n0 rr), i64 0], ⟨rfl, ⟨⟨by decide, rfl⟩, trivial⟩, rfl⟩, xs, n0, rr, rfl, rfl, rfl, hR, by omega, hnv, hm, hn⟩

theorem k_modOfO (m n : List Int) (n0 : Int) (rr : List Int) (h : Key m n n0 rr) : CSpec Tryd.prog 31 [.d (keyD m n n0 rr)] [] 0 (fun st nx r => st = [(0, .row .u8 5 m)] ∧ nx = 1 ∧ r = .own 0) := by
  obtain ⟨h1, h2, h3, hs⟩ := h.pos
  have hl := h.len
  refine CSpec.ends (CSpec.of_awp told0 [] Tryd.func31 rfl (by decide) (Nat.le_of_ble_eq_true rfl) fun _w0 _S0 _E0 _B0 => ?_)
  ((conv=>whnf);repeat'((first|(show(_=true→_)∧(_=false→_);first|refine gT ?_|refine gF ?_|refine gS ?_ ?_<;>(intro _h;try contradiction))|(show(_=false→_)∧(_=true→_);first|refine gU ?_|refine gV ?_|refine gZ ?_ ?_<;>(intro _h;try contradiction))|(intro _h;try contradiction)|(show _∧_;refine gA ?_)|fail);all_goals conv=>whnf))
  refine acall [] (k_cloneA m (by omega)) rfl (by simp [stIn]) rfl (fun _ => rfl) ?_
  rintro st nx r ⟨rfl, rfl, rfl⟩
  ((conv=>whnf);repeat'((first|(show(_=true→_)∧(_=false→_);first|refine gT ?_|refine gF ?_|refine gS ?_ ?_<;>(intro _h;try contradiction))|(show(_=false→_)∧(_=true→_);first|refine gU ?_|refine gV ?_|refine gZ ?_ ?_<;>(intro _h;try contradiction))|(intro _h;try contradiction)|(show _∧_;refine gA ?_)|fail);all_goals conv=>whnf))
  exact ⟨[0], [(0, .row .u8 5 m)], .own 0, ⟨rfl, ⟨⟨by decide, rfl⟩, trivial⟩, rfl⟩, rfl, rfl, rfl⟩
end Go.Proofs.YtniaeiikdgbnfaaDoor.R
namespace Go.Proofs.YtniaeiikdgbnfaaDoor.R
open Go Go.RowKit Go.Proofs Go.Proofs.YtniaeiikdgbnfaaDoor.AW
set_option linter.unusedSectionVars false
variable [Globs]
set_option maxRecDepth 100000
set_option linter.unusedSimpArgs false
set_option linter.unusedVariables false
set_option maxHeartbeats 4000000
set_option pp.deepTerms false
set_option pp.deepTerms.threshold 9

theorem keyC_back {m : List Int} (hm : wfd m) (hn : notMod m = 0) : keyMod (keyC m) = m ∧ keyErr (keyC m) = 0 := by
  have hsz : sized m.length = true := by
    cases h : sized m.length with
    | true => rfl
    | false => unfold notMod at hn; rw [h] at hn; simp at hn
  have ⟨h1, h2, h3⟩ := sized_spec.1 hsz
  have hl := keyC_len m
  obtain ⟨x, hx⟩ : ∃ x, keyC m = be 4 (8 * m.length) ++ (be 4 x ++ (m ++ be m.length (2 ^ (16 * m.length) % (bn m).toNat))) := ⟨_, by unfold keyC; simp only [List.append_assoc]; rfl⟩
  have hc0 : cutB (keyC m) 0 4 = be 4 (8 * m.length) := by
    unfold cutB
    rw [hx, List.drop_zero, Nat.zero_add]
    have : (be 4 (8 * m.length)).length = 4 := be_length _ _
    conv => lhs; lhs; rw [← this]
    exact List.take_left
  have hb : bitsOf (keyC m) = ((8 * m.length : Nat) : Int) := by
    unfold bitsOf
    rw [hc0]
    exact bn_be (by omega)
  have hk : keySize (keyC m) = m.length := by unfold keySize; rw [hb]; omega
  have hmod : keyMod (keyC m) = m := by
    unfold keyMod cutB
    rw [hk, hx]
    have e4 : (be 4 (8 * m.length)).length = 4 := be_length _ _
    have e5 : (be 4 x).length = 4 := be_length _ _
    rw [← List.append_assoc, ← List.append_assoc]
    have e8 : (be 4 (8 * m.length) ++ be 4 x).length = 8 := by rw [List.length_append, e4, e5]
    have e9 : (be 4 (8 * m.length) ++ be 4 x ++ m).length = 8 + m.length := by rw [List.length_append, e8]
    rw [← e9, List.take_left]
    conv => lhs; lhs; rw [← e8]
    exact List.drop_left
  refine ⟨hmod, ?_⟩
  unfold keyErr
  rw [hb, hk, hmod, if_neg (by omega), if_neg (fun h => h.elim (fun h => by omega) (fun h => by rw [hsz] at h; cases h)), if_neg (by omega), if_neg (by omega), if_neg (fun h => h.elim (fun h => h hn) (fun h => h rfl))]

def toldKO : AW.Told := ⟨fun f => f == 17 || f == 1010007, fun r i => [], fun r => if r == 20 then .take 0 (.take 3 (.one 1 (.take 2 (.take 4 (.take 5 (.take 6 (.take 7 (.take 8 (.take 9 (.take 10 (.take 11 (.take 12 (.take 13 (.take 14 (.take 17 (.one 15 (.take 16 (.one 18 (.take 19 (.take 20 (.take 21 (.take 22 (.take 23 (.take 25 (.take 26 (.one 24 (.take 27 (.take 28 (.take 29 .done))))))))))))))))))))))))))))) else .done⟩

theorem idx_in3 {w : Int} (h0 : 0 ≤ w) (h2 : w ≤ 3) : idx w ≤ 3 := by
  unfold idx
  repeat' split
  all_goals omega

theorem l_keyOwn (hE : Globs.gl 0 = some EXP) (hG : Globs.gl 4 = some ROUNDS) (hF : Globs.gl 1 = some FIRST) (which : Int) :
    Imm Tryd.prog 9 [i64 which] (fun r => r = bool true) := by
  (refine Imm.of_awp toldKO [] Tryd.func9 rfl (by decide) (Nat.le_of_ble_eq_true rfl) ?_; intro _w0 _S0 _E0 _B0; ((conv=>whnf);repeat'((first|(show(_=true→_)∧(_=false→_);first|refine nTt ?_|refine nFf ?_|refine gS ?_ ?_<;>(intro _h;try contradiction))|(show(_=false→_)∧(_=true→_);first|refine nU ?_|refine nV ?_|refine gZ ?_ ?_<;>(intro _h;try contradiction))|(intro _h;try contradiction)|(show _∧_;refine gA ?_)|fail);all_goals conv=>whnf)))
  refine acallI (k_anchor hE) rfl fun r hr => ?_
  subst hr
  ((conv=>whnf);repeat'((first|(show(_=true→_)∧(_=false→_);first|refine gT ?_|refine gF ?_|refine gS ?_ ?_<;>(intro _h;try contradiction))|(show(_=false→_)∧(_=true→_);first|refine gU ?_|refine gV ?_|refine gZ ?_ ?_<;>(intro _h;try contradiction))|(intro _h;try contradiction)|(show _∧_;refine gA ?_)|fail);all_goals conv=>whnf))
  all_goals first
    | exact Ends.imm rfl rfl
    | skip
  have hk := idx_in3 (w := which) (by omega) (by omega)
  refine acall [] (k_modulusO which) rfl (by simp [stIn]) rfl (fun _ => rfl) ?_
  rintro st nx r ⟨rfl, rfl, rfl⟩
  obtain ⟨m, hm⟩ : ∃ m, m = modB (idx which) := ⟨_, rfl⟩
  have hml : m.length = keyL (idx which) := by rw [hm]; exact modB_len _
  have hmw : wfd m := by rw [hm]; exact modB_wfd _
  have hmr : notMod m = 0 := by rw [hm]; exact modB_right _ hk
  have hkl := keyL_le (idx which)
  rw [← hm]
  ((conv=>whnf);repeat'((first|(show(_=true→_)∧(_=false→_);first|refine gT ?_|refine gF ?_|refine gS ?_ ?_<;>(intro _h;try contradiction))|(show(_=false→_)∧(_=true→_);first|refine gU ?_|refine gV ?_|refine gZ ?_ ?_<;>(intro _h;try contradiction))|(intro _h;try contradiction)|(show _∧_;refine gA ?_)|fail);all_goals conv=>whnf))
  refine acall [0] (k_makeO m hmw (by unfold LIM; omega) hmr) rfl ⟨⟨by decide, rfl⟩, trivial⟩ rfl (fun h => Bool.noConfusion h) ?_
  rintro st nx r ⟨n, n0, rr, rfl, rfl, rfl, hkey⟩
  ((conv=>whnf);repeat'((first|(show(_=true→_)∧(_=false→_);first|refine gT ?_|refine gF ?_|refine gS ?_ ?_<;>(intro _h;try contradiction))|(show(_=false→_)∧(_=true→_);first|refine gU ?_|refine gV ?_|refine gZ ?_ ?_<;>(intro _h;try contradiction))|(intro _h;try contradiction)|(show _∧_;refine gA ?_)|fail);all_goals conv=>whnf))
  refine acallI (k_keyBytes m n n0 rr hkey) rfl fun r hr => ?_
  rw [key_eq hkey] at hr
  subst hr
  have hKl := keyC_len m
  have hKw := keyC_wfd hmw
  have hback := keyC_back hmw hmr
  have kbO := k_keyBytesO m n n0 rr hkey
  rw [key_eq hkey] at kbO
  have kb := k_keyBytes m n n0 rr hkey
  rw [key_eq hkey] at kb
  have knO := k_nameO hG hF m n n0 rr hkey
  have kn := k_name hG hF m n n0 rr hkey
  obtain ⟨K, hK⟩ : ∃ K, K = keyC m := ⟨_, rfl⟩
  rw [← hK] at hKl hKw hback kbO kb knO kn ⊢
  obtain ⟨N, hN⟩ : ∃ N, N = sumS K := ⟨_, rfl⟩
  have hNl : N.length = 32 := by rw [hN]; exact sumS_len K
  rw [← hN] at knO kn
  ((conv=>whnf);repeat'((first|(show(_=true→_)∧(_=false→_);first|refine gT ?_|refine gF ?_|refine gS ?_ ?_<;>(intro _h;try contradiction))|(show(_=false→_)∧(_=true→_);first|refine gU ?_|refine gV ?_|refine gZ ?_ ?_<;>(intro _h;try contradiction))|(intro _h;try contradiction)|(show _∧_;refine gA ?_)|fail);all_goals conv=>whnf))
  refine acall [] kbO rfl (by simp [stIn]) rfl (fun _ => rfl) ?_
  rintro st nx r ⟨rfl, rfl, rfl⟩
  ((conv=>whnf);repeat'((first|(show(_=true→_)∧(_=false→_);first|refine gT ?_|refine gF ?_|refine gS ?_ ?_<;>(intro _h;try contradiction))|(show(_=false→_)∧(_=true→_);first|refine gU ?_|refine gV ?_|refine gZ ?_ ?_<;>(intro _h;try contradiction))|(intro _h;try contradiction)|(show _∧_;refine gA ?_)|fail);all_goals conv=>whnf))
  refine acall [] (k_modOfO m n n0 rr hkey) rfl (by simp [stIn]) rfl (fun _ => rfl) ?_
  rintro st nx r ⟨rfl, rfl, rfl⟩
  ((conv=>whnf);repeat'((first|(show(_=true→_)∧(_=false→_);first|refine gT ?_|refine gF ?_|refine gS ?_ ?_<;>(intro _h;try contradiction))|(show(_=false→_)∧(_=true→_);first|refine gU ?_|refine gV ?_|refine gZ ?_ ?_<;>(intro _h;try contradiction))|(intro _h;try contradiction)|(show _∧_;refine gA ?_)|fail);all_goals conv=>whnf))
  refine acall [] knO rfl (by simp [stIn]) rfl (fun _ => rfl) ?_
  rintro st nx r ⟨rfl, rfl, rfl⟩
  ((conv=>whnf);repeat'((first|(show(_=true→_)∧(_=false→_);first|refine gT ?_|refine gF ?_|refine gS ?_ ?_<;>(intro _h;try contradiction))|(show(_=false→_)∧(_=true→_);first|refine gU ?_|refine gV ?_|refine gZ ?_ ?_<;>(intro _h;try contradiction))|(intro _h;try contradiction)|(show _∧_;refine gA ?_)|fail);all_goals conv=>whnf))
  refine ao_parts (js := [0, 1, 2, 3]) (n := 4) rfl rfl rfl (fun j hj => by simp at hj; rcases hj with rfl | rfl | rfl | rfl <;> exact ⟨_, _, _, rfl⟩) rfl rfl rfl rfl rfl rfl (by decide) (by decide) ?_
  ((conv=>whnf);repeat'((first|(show(_=true→_)∧(_=false→_);first|refine gT ?_|refine gF ?_|refine gS ?_ ?_<;>(intro _h;try contradiction))|(show(_=false→_)∧(_=true→_);first|refine gU ?_|refine gV ?_|refine gZ ?_ ?_<;>(intro _h;try contradiction))|(intro _h;try contradiction)|(show _∧_;refine gA ?_)|fail);all_goals conv=>whnf))
  refine AWp.rounds toldKO 5 ?_
  ((conv=>whnf);repeat'((first|(show(_=true→_)∧(_=false→_);first|refine gT ?_|refine gF ?_|refine gS ?_ ?_<;>(intro _h;try contradiction))|(show(_=false→_)∧(_=true→_);first|refine gU ?_|refine gV ?_|refine gZ ?_ ?_<;>(intro _h;try contradiction))|(intro _h;try contradiction)|(show _∧_;refine gA ?_)|fail);all_goals conv=>whnf))
  refine aloop (T := toldKO) (ι := Nat × List Int) (fun i => [(3, .own 0), (4, .d (keyD m n n0 rr)), (6, .d (.str K)), (8, .own 0), (43, .view 4 0 4), (44, i64 4), (45, i64 0), (50, i64 (m.length : Nat)), (51, i64 i.1)]) (fun i => [(0, .row .u8 5 i.2), (1, .row .u8 5 K), (2, .row .u8 5 m), (3, .row .u8 5 N), (4, .cell 22 [.own 0, .own 1, .own 2, .own 3])]) 97 5
    (fun i => m.length - i.1) (fun i => i.1 ≤ m.length ∧ i.2.length = m.length)
    ⟨(0, m), [0, 1, 2, 3, 4], rfl, ⟨Nat.zero_le _, rfl⟩, by (refine ⟨rfl, rfl, ?_, ?_⟩ <;> repeat' (first | exact True.intro | rfl | decide | (refine And.intro ?_ ?_)))⟩ ?_
  rintro ⟨i0, ya⟩ ⟨hi0, hl0⟩
  simp only at hi0 hl0
  by_cases hc0 : i0 < m.length
  · ((conv=>whnf);repeat'((first|(show(_=true→_)∧(_=false→_);first|refine gT ?_|refine gF ?_|refine gS ?_ ?_<;>(intro _h;try contradiction))|(show(_=false→_)∧(_=true→_);first|refine gU ?_|refine gV ?_|refine gZ ?_ ?_<;>(intro _h;try contradiction))|(intro _h;try contradiction)|(show _∧_;refine gA ?_)|fail);all_goals conv=>whnf))
    refine ⟨(i0 + 1, ya.set i0 (bitsK .xor .u8 (ya.getD i0 0) 255)), [0, 1, 2, 3, 4], ?_, ⟨?_, ?_⟩, rfl, ?_⟩
    · show m.length - (i0 + 1) < m.length - i0
      omega
    · show i0 + 1 ≤ m.length
      omega
    · show (ya.set i0 _).length = _
      rw [List.length_set, hl0]
    · (refine ⟨rfl, rfl, ?_, ?_⟩ <;> repeat' (first | exact True.intro | rfl | decide | (refine And.intro ?_ ?_)))
      exact di (by rw [wrap_i64 (by omega) (by omega)]; rfl)
  ((conv=>whnf);repeat'((first|(show(_=true→_)∧(_=false→_);first|refine gT ?_|refine gF ?_|refine gS ?_ ?_<;>(intro _h;try contradiction))|(show(_=false→_)∧(_=true→_);first|refine gU ?_|refine gV ?_|refine gZ ?_ ?_<;>(intro _h;try contradiction))|(intro _h;try contradiction)|(show _∧_;refine gA ?_)|fail);all_goals conv=>whnf))
  refine aloop (T := toldKO) (ι := Nat × List Int) (fun i => [(3, .own 0), (4, .d (keyD m n n0 rr)), (6, .d (.str K)), (8, .own 1), (43, .view 4 0 4), (44, i64 4), (45, i64 1), (50, i64 (K.length : Nat)), (51, i64 i.1)]) (fun i => [(0, .row .u8 5 ya), (1, .row .u8 5 i.2), (2, .row .u8 5 m), (3, .row .u8 5 N), (4, .cell 22 [.own 0, .own 1, .own 2, .own 3])]) 97 5
    (fun i => K.length - i.1) (fun i => i.1 ≤ K.length ∧ i.2.length = K.length)
    ⟨(0, K), [0, 1, 2, 3, 4], rfl, ⟨Nat.zero_le _, rfl⟩, by (refine ⟨rfl, rfl, ?_, ?_⟩ <;> repeat' (first | exact True.intro | rfl | decide | (refine And.intro ?_ ?_)))⟩ ?_
  rintro ⟨i1, yb⟩ ⟨hi1, hl1⟩
  simp only at hi1 hl1
  by_cases hc1 : i1 < K.length
  · ((conv=>whnf);repeat'((first|(show(_=true→_)∧(_=false→_);first|refine gT ?_|refine gF ?_|refine gS ?_ ?_<;>(intro _h;try contradiction))|(show(_=false→_)∧(_=true→_);first|refine gU ?_|refine gV ?_|refine gZ ?_ ?_<;>(intro _h;try contradiction))|(intro _h;try contradiction)|(show _∧_;refine gA ?_)|fail);all_goals conv=>whnf))
    refine ⟨(i1 + 1, yb.set i1 (bitsK .xor .u8 (yb.getD i1 0) 255)), [0, 1, 2, 3, 4], ?_, ⟨?_, ?_⟩, rfl, ?_⟩
    · show K.length - (i1 + 1) < K.length - i1
      omega
    · show i1 + 1 ≤ K.length
      omega
    · show (yb.set i1 _).length = _
      rw [List.length_set, hl1]
    · (refine ⟨rfl, rfl, ?_, ?_⟩ <;> repeat' (first | exact True.intro | rfl | decide | (refine And.intro ?_ ?_)))
      exact di (by rw [wrap_i64 (by omega) (by omega)]; rfl)
  ((conv=>whnf);repeat'((first|(show(_=true→_)∧(_=false→_);first|refine gT ?_|refine gF ?_|refine gS ?_ ?_<;>(intro _h;try contradiction))|(show(_=false→_)∧(_=true→_);first|refine gU ?_|refine gV ?_|refine gZ ?_ ?_<;>(intro _h;try contradiction))|(intro _h;try contradiction)|(show _∧_;refine gA ?_)|fail);all_goals conv=>whnf))
  refine aloop (T := toldKO) (ι := Nat × List Int) (fun i => [(3, .own 0), (4, .d (keyD m n n0 rr)), (6, .d (.str K)), (8, .own 2), (43, .view 4 0 4), (44, i64 4), (45, i64 2), (50, i64 (m.length : Nat)), (51, i64 i.1)]) (fun i => [(0, .row .u8 5 ya), (1, .row .u8 5 yb), (2, .row .u8 5 i.2), (3, .row .u8 5 N), (4, .cell 22 [.own 0, .own 1, .own 2, .own 3])]) 97 5
    (fun i => m.length - i.1) (fun i => i.1 ≤ m.length ∧ i.2.length = m.length)
    ⟨(0, m), [0, 1, 2, 3, 4], rfl, ⟨Nat.zero_le _, rfl⟩, by (refine ⟨rfl, rfl, ?_, ?_⟩ <;> repeat' (first | exact True.intro | rfl | decide | (refine And.intro ?_ ?_)))⟩ ?_
  rintro ⟨i2, yc⟩ ⟨hi2, hl2⟩
  simp only at hi2 hl2
  by_cases hc2 : i2 < m.length
  · ((conv=>whnf);repeat'((first|(show(_=true→_)∧(_=false→_);first|refine gT ?_|refine gF ?_|refine gS ?_ ?_<;>(intro _h;try contradiction))|(show(_=false→_)∧(_=true→_);first|refine gU ?_|refine gV ?_|refine gZ ?_ ?_<;>(intro _h;try contradiction))|(intro _h;try contradiction)|(show _∧_;refine gA ?_)|fail);all_goals conv=>whnf))
    refine ⟨(i2 + 1, yc.set i2 (bitsK .xor .u8 (yc.getD i2 0) 255)), [0, 1, 2, 3, 4], ?_, ⟨?_, ?_⟩, rfl, ?_⟩
    · show m.length - (i2 + 1) < m.length - i2
      omega
    · show i2 + 1 ≤ m.length
      omega
    · show (yc.set i2 _).length = _
      rw [List.length_set, hl2]
    · (refine ⟨rfl, rfl, ?_, ?_⟩ <;> repeat' (first | exact True.intro | rfl | decide | (refine And.intro ?_ ?_)))
      exact di (by rw [wrap_i64 (by omega) (by omega)]; rfl)
  ((conv=>whnf);repeat'((first|(show(_=true→_)∧(_=false→_);first|refine gT ?_|refine gF ?_|refine gS ?_ ?_<;>(intro _h;try contradiction))|(show(_=false→_)∧(_=true→_);first|refine gU ?_|refine gV ?_|refine gZ ?_ ?_<;>(intro _h;try contradiction))|(intro _h;try contradiction)|(show _∧_;refine gA ?_)|fail);all_goals conv=>whnf))
  refine aloop (T := toldKO) (ι := Nat × List Int) (fun i => [(3, .own 0), (4, .d (keyD m n n0 rr)), (6, .d (.str K)), (8, .own 3), (43, .view 4 0 4), (44, i64 4), (45, i64 3), (50, i64 (N.length : Nat)), (51, i64 i.1)]) (fun i => [(0, .row .u8 5 ya), (1, .row .u8 5 yb), (2, .row .u8 5 yc), (3, .row .u8 5 i.2), (4, .cell 22 [.own 0, .own 1, .own 2, .own 3])]) 97 5
    (fun i => N.length - i.1) (fun i => i.1 ≤ N.length ∧ i.2.length = N.length)
    ⟨(0, N), [0, 1, 2, 3, 4], rfl, ⟨Nat.zero_le _, rfl⟩, by (refine ⟨rfl, rfl, ?_, ?_⟩ <;> repeat' (first | exact True.intro | rfl | decide | (refine And.intro ?_ ?_)))⟩ ?_
  rintro ⟨i3, yd⟩ ⟨hi3, hl3⟩
  simp only at hi3 hl3
  by_cases hc3 : i3 < N.length
  · ((conv=>whnf);repeat'((first|(show(_=true→_)∧(_=false→_);first|refine gT ?_|refine gF ?_|refine gS ?_ ?_<;>(intro _h;try contradiction))|(show(_=false→_)∧(_=true→_);first|refine gU ?_|refine gV ?_|refine gZ ?_ ?_<;>(intro _h;try contradiction))|(intro _h;try contradiction)|(show _∧_;refine gA ?_)|fail);all_goals conv=>whnf))
    refine ⟨(i3 + 1, yd.set i3 (bitsK .xor .u8 (yd.getD i3 0) 255)), [0, 1, 2, 3, 4], ?_, ⟨?_, ?_⟩, rfl, ?_⟩
    · show N.length - (i3 + 1) < N.length - i3
      omega
    · show i3 + 1 ≤ N.length
      omega
    · show (yd.set i3 _).length = _
      rw [List.length_set, hl3]
    · (refine ⟨rfl, rfl, ?_, ?_⟩ <;> repeat' (first | exact True.intro | rfl | decide | (refine And.intro ?_ ?_)))
      exact di (by rw [wrap_i64 (by omega) (by omega)]; rfl)
  ((conv=>whnf);repeat'((first|(show(_=true→_)∧(_=false→_);first|refine gT ?_|refine gF ?_|refine gS ?_ ?_<;>(intro _h;try contradiction))|(show(_=false→_)∧(_=true→_);first|refine gU ?_|refine gV ?_|refine gZ ?_ ?_<;>(intro _h;try contradiction))|(intro _h;try contradiction)|(show _∧_;refine gA ?_)|fail);all_goals conv=>whnf))
  refine acallI (k_parse K hKw (by omega)) rfl fun r hr => ?_
  rw [if_neg (by simp [hback.2]), hback.1] at hr
  obtain ⟨n', n0', rr', rfl, hkey'⟩ := hr
  have kn' := k_name hG hF m n' n0' rr' hkey'
  rw [← hK, ← hN] at kn'
  ((conv=>whnf);repeat'((first|(show(_=true→_)∧(_=false→_);first|refine gT ?_|refine gF ?_|refine gS ?_ ?_<;>(intro _h;try contradiction))|(show(_=false→_)∧(_=true→_);first|refine gU ?_|refine gV ?_|refine gZ ?_ ?_<;>(intro _h;try contradiction))|(intro _h;try contradiction)|(show _∧_;refine gA ?_)|fail);all_goals conv=>whnf))
  refine acallI kb rfl fun r hr => ?_
  subst hr
  ((conv=>whnf);repeat'((first|(show(_=true→_)∧(_=false→_);first|refine gT ?_|refine gF ?_|refine gS ?_ ?_<;>(intro _h;try contradiction))|(show(_=false→_)∧(_=true→_);first|refine gU ?_|refine gV ?_|refine gZ ?_ ?_<;>(intro _h;try contradiction))|(intro _h;try contradiction)|(show _∧_;refine gA ?_)|fail);all_goals conv=>whnf))
  refine acallI kn' rfl fun r hr => ?_
  subst hr
  ((conv=>whnf);repeat'((first|(show(_=true→_)∧(_=false→_);first|refine gT ?_|refine gF ?_|refine gS ?_ ?_<;>(intro _h;try contradiction))|(show(_=false→_)∧(_=true→_);first|refine gU ?_|refine gV ?_|refine gZ ?_ ?_<;>(intro _h;try contradiction))|(intro _h;try contradiction)|(show _∧_;refine gA ?_)|fail);all_goals conv=>whnf))
  refine acallI kn rfl fun r hr => ?_
  subst hr
  ((conv=>whnf);repeat'((first|(show(_=true→_)∧(_=false→_);first|refine gT ?_|refine gF ?_|refine gS ?_ ?_<;>(intro _h;try contradiction))|(show(_=false→_)∧(_=true→_);first|refine gU ?_|refine gV ?_|refine gZ ?_ ?_<;>(intro _h;try contradiction))|(intro _h;try contradiction)|(show _∧_;refine gA ?_)|fail);all_goals conv=>whnf))
  refine acallI (k_size m n' n0' rr') rfl fun r hr => ?_
  subst hr
  ((conv=>whnf);repeat'((first|(show(_=true→_)∧(_=false→_);first|refine gT ?_|refine gF ?_|refine gS ?_ ?_<;>(intro _h;try contradiction))|(show(_=false→_)∧(_=true→_);first|refine gU ?_|refine gV ?_|refine gZ ?_ ?_<;>(intro _h;try contradiction))|(intro _h;try contradiction)|(show _∧_;refine gA ?_)|fail);all_goals conv=>whnf))
  exact Ends.imm rfl (by simp [hl0])
end Go.Proofs.YtniaeiikdgbnfaaDoor.R
