/- Parts S8, S7, S9, T1, L1, L2. No condition of its own. -/
import Derived.Test.YtniaeiikdgbnfaaDoorSD14
import Derived.Test.YtniaeiikdgbnfaaDoorSD6
import Derived.Test.YtniaeiikdgbnfaaDoorSD11
import Derived.Lib.LaidTab

namespace Go.Proofs.YtniaeiikdgbnfaaDoor.R
open Go Go.RowKit Go.Proofs Go.Proofs.YtniaeiikdgbnfaaDoor.AW
set_option linter.unusedSectionVars false
variable [Globs]
set_option maxRecDepth 100000
set_option linter.unusedSimpArgs false
set_option linter.unusedVariables false
set_option maxHeartbeats 4000000

theorem s_const : Imm Tryd.prog 119 [] (fun r => r = .d (wd KK)) := by
  (refine Imm.of_awp told0 [0] Tryd.func119 rfl (by decide) (Nat.le_of_ble_eq_true rfl) ?_; intro _w0 _S0 _E0 _B0; ((conv=>whnf);repeat'((first|(show(_=true→_)∧(_=false→_);first|refine nTt ?_|refine nFf ?_|refine gS ?_ ?_<;>(intro _h;try contradiction))|(show(_=false→_)∧(_=true→_);first|refine nU ?_|refine nV ?_|refine gZ ?_ ?_<;>(intro _h;try contradiction))|(intro _h;try contradiction)|(show _∧_;refine gA ?_)|fail);all_goals conv=>whnf)))
  exact Ends.imm rfl rfl

def toldB : AW.Told := ⟨fun _ => false, fun _ _ => [], fun r =>
  if r == 7 || r == 10 then .take 0 (.take 1 (.take 2 (.take 4 (.take 5 (.take 6 (.take 9 (.take 10 (.take 11 (.one 3 (.one 7 (.take 8 (.one 12 (.take 13 (.take 14 .done))))))))))))))
  else if r == 8 then .take 0 (.take 1 (.take 2 (.take 3 (.take 4 (.take 5 (.take 6 (.take 7 (.take 8 (.take 9 (.take 10 (.take 11 (.take 12 (.take 13 (.take 14 (.take 15 (.take 16 .done))))))))))))))))
  else if r == 9 then .take 0 (.take 1 (.take 2 (.take 3 (.take 4 (.take 5 (.take 6 (.take 7 (.take 8 (.take 9 (.take 10 (.take 11 (.take 12 (.take 13 (.take 14 (.take 15 (.take 16 (.take 17 .done)))))))))))))))))
  else if r == 11 then .take 0 (.take 1 (.take 2 (.take 3 (.take 4 (.take 5 (.take 6 (.take 7 (.take 8 (.take 9 (.take 10 (.take 11 (.take 12 (.take 13 (.take 14 (.take 15 (.take 16 (.take 17 (.take 18 (.take 19 (.take 20 (.take 21 (.take 22 (.take 23 .done)))))))))))))))))))))))
  else if r == 12 then .take 0 (.take 1 (.take 2 (.take 3 (.take 4 (.take 5 (.take 6 (.take 7 (.take 8 (.take 9 (.take 10 (.take 11 (.take 12 (.take 13 (.take 14 (.take 15 (.take 16 (.take 17 (.take 18 (.take 19 (.take 20 (.take 21 (.take 22 (.take 23 (.take 24 (.take 25 (.take 26 (.take 27 (.one 28 (.take 29 .done)))))))))))))))))))))))))))))
  else if r == 17 then .take 0 (.take 1 (.take 2 (.take 3 (.take 4 (.take 5 (.take 6 (.take 7 (.take 8 (.take 9 (.one 10 (.one 11 (.take 12 .done))))))))))))
  else .done⟩

theorem map_range_succ (f : Nat → Int) (k : Nat) : (List.range (k + 1)).map f = (List.range k).map f ++ [f k] := by
  rw [List.range_succ, List.map_append]; rfl

theorem s_refBlock (h b : List Int) (hh : h.length = 8) (hb : wfd b) (hl : b.length = 64) : Imm Tryd.prog 102 [.d (wd h), .d (byt b)] (fun r => r = .d (wd (blkS h b))) := by
  obtain ⟨ws, hws⟩ : ∃ ws, ws = schW b 64 := ⟨_, rfl⟩
  have hwl : ws.length = 64 := by rw [hws]; exact schW_len b 64
  have hsw := s_words b hb hl
  rw [← hws] at hsw
  obtain ⟨kk, hkk⟩ : ∃ kk, kk = KK := ⟨_, rfl⟩
  have hkl : kk.length = 64 := by rw [hkk]; rfl
  have hsc := s_const
  rw [← hkk] at hsc
  (refine Imm.of_awp toldB [4] Tryd.func102 rfl (by decide) (Nat.le_of_ble_eq_true rfl) ?_; intro _w0 _S0 _E0 _B0; ((conv=>whnf);repeat'((first|(show(_=true→_)∧(_=false→_);first|refine nTt ?_|refine nFf ?_|refine gS ?_ ?_<;>(intro _h;try contradiction))|(show(_=false→_)∧(_=true→_);first|refine nU ?_|refine nV ?_|refine gZ ?_ ?_<;>(intro _h;try contradiction))|(intro _h;try contradiction)|(show _∧_;refine gA ?_)|fail);all_goals conv=>whnf)))
  refine acallI hsw rfl fun r hr => ?_
  subst hr
  ((conv=>whnf);repeat'((first|(show(_=true→_)∧(_=false→_);first|refine gT ?_|refine gF ?_|refine gS ?_ ?_<;>(intro _h;try contradiction))|(show(_=false→_)∧(_=true→_);first|refine gU ?_|refine gV ?_|refine gZ ?_ ?_<;>(intro _h;try contradiction))|(intro _h;try contradiction)|(show _∧_;refine gA ?_)|fail);all_goals conv=>whnf))
  refine acallI hsc rfl fun r hr => ?_
  subst hr
  ((conv=>whnf);repeat'((first|(show(_=true→_)∧(_=false→_);first|refine gT ?_|refine gF ?_|refine gS ?_ ?_<;>(intro _h;try contradiction))|(show(_=false→_)∧(_=true→_);first|refine gU ?_|refine gV ?_|refine gZ ?_ ?_<;>(intro _h;try contradiction))|(intro _h;try contradiction)|(show _∧_;refine gA ?_)|fail);all_goals conv=>whnf))
  refine ⟨by show (0 + h.length) * 4 ≤ 140737488355328; omega, ?_⟩
  ((conv=>whnf);repeat'((first|(show(_=true→_)∧(_=false→_);first|refine gT ?_|refine gF ?_|refine gS ?_ ?_<;>(intro _h;try contradiction))|(show(_=false→_)∧(_=true→_);first|refine gU ?_|refine gV ?_|refine gZ ?_ ?_<;>(intro _h;try contradiction))|(intro _h;try contradiction)|(show _∧_;refine gA ?_)|fail);all_goals conv=>whnf))
  refine aloop (T := toldB) (ι := Nat) (fun k => [(0, .d (wd h)), (5, .d (wd ws)), (6, .d (wd kk)), (7, .own 0), (8, i64 k)]) (fun k => [(0, .row .u32 79 (rnds h ws k))]) 156 1
    (fun k => 64 - k) (fun k => k ≤ 64)
    ⟨0, [0], rfl, by omega, by (refine ⟨rfl, rfl, ?_, ?_⟩ <;> repeat' (first | exact True.intro | rfl | decide | (refine And.intro ?_ ?_)))⟩ ?_
  intro k hk
  have hvl := rnds_len h ws hh k
  obtain ⟨v, hv⟩ : ∃ v, v = rnds h ws k := ⟨_, rfl⟩
  rw [← hv] at hvl ⊢
  rcases Nat.lt_or_ge k 64 with h64 | h64
  · ((conv=>whnf);repeat'((first|(show(_=true→_)∧(_=false→_);first|refine gT ?_|refine gF ?_|refine gS ?_ ?_<;>(intro _h;try contradiction))|(show(_=false→_)∧(_=true→_);first|refine gU ?_|refine gV ?_|refine gZ ?_ ?_<;>(intro _h;try contradiction))|(intro _h;try contradiction)|(show _∧_;refine gA ?_)|fail);all_goals conv=>whnf))
    refine acallI (s_right (v.getD 4 0) 6 (by omega)) rfl fun r hr => ?_
    subst hr
    ((conv=>whnf);repeat'((first|(show(_=true→_)∧(_=false→_);first|refine gT ?_|refine gF ?_|refine gS ?_ ?_<;>(intro _h;try contradiction))|(show(_=false→_)∧(_=true→_);first|refine gU ?_|refine gV ?_|refine gZ ?_ ?_<;>(intro _h;try contradiction))|(intro _h;try contradiction)|(show _∧_;refine gA ?_)|fail);all_goals conv=>whnf))
    refine acallI (s_right (v.getD 4 0) 11 (by omega)) rfl fun r hr => ?_
    subst hr
    ((conv=>whnf);repeat'((first|(show(_=true→_)∧(_=false→_);first|refine gT ?_|refine gF ?_|refine gS ?_ ?_<;>(intro _h;try contradiction))|(show(_=false→_)∧(_=true→_);first|refine gU ?_|refine gV ?_|refine gZ ?_ ?_<;>(intro _h;try contradiction))|(intro _h;try contradiction)|(show _∧_;refine gA ?_)|fail);all_goals conv=>whnf))
    refine acallI (s_right (v.getD 4 0) 25 (by omega)) rfl fun r hr => ?_
    subst hr
    ((conv=>whnf);repeat'((first|(show(_=true→_)∧(_=false→_);first|refine gT ?_|refine gF ?_|refine gS ?_ ?_<;>(intro _h;try contradiction))|(show(_=false→_)∧(_=true→_);first|refine gU ?_|refine gV ?_|refine gZ ?_ ?_<;>(intro _h;try contradiction))|(intro _h;try contradiction)|(show _∧_;refine gA ?_)|fail);all_goals conv=>whnf))
    refine acallI (s_right (v.getD 0 0) 2 (by omega)) rfl fun r hr => ?_
    subst hr
    ((conv=>whnf);repeat'((first|(show(_=true→_)∧(_=false→_);first|refine gT ?_|refine gF ?_|refine gS ?_ ?_<;>(intro _h;try contradiction))|(show(_=false→_)∧(_=true→_);first|refine gU ?_|refine gV ?_|refine gZ ?_ ?_<;>(intro _h;try contradiction))|(intro _h;try contradiction)|(show _∧_;refine gA ?_)|fail);all_goals conv=>whnf))
    refine acallI (s_right (v.getD 0 0) 13 (by omega)) rfl fun r hr => ?_
    subst hr
    ((conv=>whnf);repeat'((first|(show(_=true→_)∧(_=false→_);first|refine gT ?_|refine gF ?_|refine gS ?_ ?_<;>(intro _h;try contradiction))|(show(_=false→_)∧(_=true→_);first|refine gU ?_|refine gV ?_|refine gZ ?_ ?_<;>(intro _h;try contradiction))|(intro _h;try contradiction)|(show _∧_;refine gA ?_)|fail);all_goals conv=>whnf))
    refine acallI (s_right (v.getD 0 0) 22 (by omega)) rfl fun r hr => ?_
    subst hr
    ((conv=>whnf);repeat'((first|(show(_=true→_)∧(_=false→_);first|refine gT ?_|refine gF ?_|refine gS ?_ ?_<;>(intro _h;try contradiction))|(show(_=false→_)∧(_=true→_);first|refine gU ?_|refine gV ?_|refine gZ ?_ ?_<;>(intro _h;try contradiction))|(intro _h;try contradiction)|(show _∧_;refine gA ?_)|fail);all_goals conv=>whnf))
    refine ⟨k + 1, [1], by omega, by omega, rfl, ?_⟩
    (refine ⟨rfl, rfl, ?_, ?_⟩ <;> repeat' (first | exact True.intro | rfl | decide | (refine And.intro ?_ ?_)))
    · exact di (by rw [wrap_i64 (by omega) (by omega)]; rfl)
    · have e : rnds h ws (k + 1) = rnd v (kk.getD k 0) (ws.getD k 0) := by rw [hv, hkk]; rfl
      show some (Ob.row .u32 _ _) = some (Ob.row .u32 _ (rnds h ws (k + 1)))
      rw [e]
      unfold rnd tmp2
      rw [← add2_assoc]
      rfl
  · have hk64 : k = 64 := by omega
    ((conv=>whnf);repeat'((first|(show(_=true→_)∧(_=false→_);first|refine gT ?_|refine gF ?_|refine gS ?_ ?_<;>(intro _h;try contradiction))|(show(_=false→_)∧(_=true→_);first|refine gU ?_|refine gV ?_|refine gZ ?_ ?_<;>(intro _h;try contradiction))|(intro _h;try contradiction)|(show _∧_;refine gA ?_)|fail);all_goals conv=>whnf))
    refine AWp.adopt 14 (.row .u32 79 []) rfl rfl ?_
    refine aloop (T := toldB) (ι := Nat) (fun i => [(0, .d (wd h)), (7, .own 0), (14, .own 1), (15, i64 i)]) (fun i => [(0, .row .u32 79 v), (1, .row .u32 79 ((List.range i).map fun i => add2 (h.getD i 0) (v.getD i 0)))]) 156 2
      (fun i => 8 - i) (fun i => i ≤ 8)
      ⟨0, [0, 1], rfl, by omega, by (refine ⟨rfl, rfl, ?_, ?_⟩ <;> repeat' (first | exact True.intro | rfl | decide | (refine And.intro ?_ ?_)))⟩ ?_
    intro i hi
    rcases Nat.lt_or_ge i 8 with h8 | h8
    · ((conv=>whnf);repeat'((first|(show(_=true→_)∧(_=false→_);first|refine gT ?_|refine gF ?_|refine gS ?_ ?_<;>(intro _h;try contradiction))|(show(_=false→_)∧(_=true→_);first|refine gU ?_|refine gV ?_|refine gZ ?_ ?_<;>(intro _h;try contradiction))|(intro _h;try contradiction)|(show _∧_;refine gA ?_)|fail);all_goals conv=>whnf))
      refine ⟨by rw [List.length_map, List.length_range]; show (i + 1) * 4 ≤ 140737488355328; omega, ?_⟩
      ((conv=>whnf);repeat'((first|(show(_=true→_)∧(_=false→_);first|refine gT ?_|refine gF ?_|refine gS ?_ ?_<;>(intro _h;try contradiction))|(show(_=false→_)∧(_=true→_);first|refine gU ?_|refine gV ?_|refine gZ ?_ ?_<;>(intro _h;try contradiction))|(intro _h;try contradiction)|(show _∧_;refine gA ?_)|fail);all_goals conv=>whnf))
      refine ⟨i + 1, [0, 1], by omega, by omega, rfl, ?_⟩
      (refine ⟨rfl, rfl, ?_, ?_⟩ <;> repeat' (first | exact True.intro | rfl | decide | (refine And.intro ?_ ?_)))
      · exact di (by rw [wrap_i64 (by omega) (by omega)]; rfl)
      · show some (Ob.row .u32 _ _) = some (Ob.row .u32 _ _)
        rw [map_range_succ]
        rfl
    · have hi8 : i = 8 := by omega
      subst hi8
      ((conv=>whnf);repeat'((first|(show(_=true→_)∧(_=false→_);first|refine gT ?_|refine gF ?_|refine gS ?_ ?_<;>(intro _h;try contradiction))|(show(_=false→_)∧(_=true→_);first|refine gU ?_|refine gV ?_|refine gZ ?_ ?_<;>(intro _h;try contradiction))|(intro _h;try contradiction)|(show _∧_;refine gA ?_)|fail);all_goals conv=>whnf))
      refine Ends.imm rfl ?_
      have e0 : blkS h b = (List.range 8).map fun i => add2 (h.getD i 0) (v.getD i 0) := by unfold blkS; rw [hv, hk64, hws]
      rw [e0]

theorem s_refPad (b : List Int) (hl : b.length ≤ 100000000) : Imm Tryd.prog 101 [.d (byt b)] (fun r => r = .d (byt (padS b))) := by
  obtain ⟨Z, hZ⟩ : ∃ Z, Z = (119 - b.length % 64) % 64 := ⟨_, rfl⟩
  have e8 : IntKind.u64.wrap (IntKind.u64.wrap (b.length : Int) * 8) = ((8 * b.length : Nat) : Int) := by
    rw [wrap_u64 (n := (b.length : Int)) (by omega) (by omega), wrap_u64 (by omega) (by omega)]; omega
  (refine Imm.of_awp told0 [2] Tryd.func101 rfl (by decide) (Nat.le_of_ble_eq_true rfl) ?_; intro _w0 _S0 _E0 _B0; ((conv=>whnf);repeat'((first|(show(_=true→_)∧(_=false→_);first|refine nTt ?_|refine nFf ?_|refine gS ?_ ?_<;>(intro _h;try contradiction))|(show(_=false→_)∧(_=true→_);first|refine nU ?_|refine nV ?_|refine gZ ?_ ?_<;>(intro _h;try contradiction))|(intro _h;try contradiction)|(show _∧_;refine gA ?_)|fail);all_goals conv=>whnf)))
  refine ⟨by show (0 + b.length) * 1 ≤ 140737488355328; omega, ?_⟩
  ((conv=>whnf);repeat'((first|(show(_=true→_)∧(_=false→_);first|refine gT ?_|refine gF ?_|refine gS ?_ ?_<;>(intro _h;try contradiction))|(show(_=false→_)∧(_=true→_);first|refine gU ?_|refine gV ?_|refine gZ ?_ ?_<;>(intro _h;try contradiction))|(intro _h;try contradiction)|(show _∧_;refine gA ?_)|fail);all_goals conv=>whnf))
  refine ⟨by show (b.length + 1) * 1 ≤ 140737488355328; omega, ?_⟩
  ((conv=>whnf);repeat'((first|(show(_=true→_)∧(_=false→_);first|refine gT ?_|refine gF ?_|refine gS ?_ ?_<;>(intro _h;try contradiction))|(show(_=false→_)∧(_=true→_);first|refine gU ?_|refine gV ?_|refine gZ ?_ ?_<;>(intro _h;try contradiction))|(intro _h;try contradiction)|(show _∧_;refine gA ?_)|fail);all_goals conv=>whnf))
  refine aloop (T := told0) (ι := Nat) (fun j => [(0, .d (byt b)), (3, .own 0)]) (fun j => [(0, .row .u8 5 (b ++ [128] ++ List.replicate j 0))]) 36 1
    (fun j => Z - j) (fun j => j ≤ Z)
    ⟨0, [0], rfl, by omega, by (refine ⟨rfl, rfl, ?_, ?_⟩ <;> repeat' (first | exact True.intro | rfl | decide | (refine And.intro ?_ ?_))); simp; rfl⟩ ?_
  intro j hj
  have hrl : (b ++ [128] ++ List.replicate j 0).length = b.length + 1 + j := by simp; omega
  have hmod : ((b ++ [128] ++ List.replicate j 0).length : Int).tmod 64 = (((b.length + 1 + j) % 64 : Nat) : Int) := by
    rw [hrl, Int.tmod_eq_emod_of_nonneg (by omega)]; omega
  rcases Nat.lt_or_ge j Z with hjz | hjz
  · have hne : ¬ ((b ++ [128] ++ List.replicate j 0).length : Int).tmod 64 = 56 := by rw [hmod]; omega
    ((conv=>whnf);repeat'((first|(show(_=true→_)∧(_=false→_);first|refine gT ?_|refine gF ?_|refine gS ?_ ?_<;>(intro _h;try contradiction))|(show(_=false→_)∧(_=true→_);first|refine gU ?_|refine gV ?_|refine gZ ?_ ?_<;>(intro _h;try contradiction))|(intro _h;try contradiction)|(show _∧_;refine gA ?_)|fail);all_goals conv=>whnf))
    refine ⟨by rw [hrl]; show (b.length + 1 + j + 1) * 1 ≤ 140737488355328; omega, ?_⟩
    ((conv=>whnf);repeat'((first|(show(_=true→_)∧(_=false→_);first|refine gT ?_|refine gF ?_|refine gS ?_ ?_<;>(intro _h;try contradiction))|(show(_=false→_)∧(_=true→_);first|refine gU ?_|refine gV ?_|refine gZ ?_ ?_<;>(intro _h;try contradiction))|(intro _h;try contradiction)|(show _∧_;refine gA ?_)|fail);all_goals conv=>whnf))
    refine ⟨j + 1, [0], by omega, by omega, rfl, ?_⟩
    (refine ⟨rfl, rfl, ?_, ?_⟩ <;> repeat' (first | exact True.intro | rfl | decide | (refine And.intro ?_ ?_)))
    show some (Ob.row .u8 _ _) = some (Ob.row .u8 _ _)
    rw [List.replicate_succ', ← List.append_assoc]
  · have hjz' : j = Z := by omega
    have heq : ((b ++ [128] ++ List.replicate j 0).length : Int).tmod 64 = 56 := by rw [hmod]; omega
    ((conv=>whnf);repeat'((first|(show(_=true→_)∧(_=false→_);first|refine gT ?_|refine gF ?_|refine gS ?_ ?_<;>(intro _h;try contradiction))|(show(_=false→_)∧(_=true→_);first|refine gU ?_|refine gV ?_|refine gZ ?_ ?_<;>(intro _h;try contradiction))|(intro _h;try contradiction)|(show _∧_;refine gA ?_)|fail);all_goals conv=>whnf))
    refine aloop (T := told0) (ι := Nat) (fun i => [(3, .own 0), (4, .d (.int .u64 ((8 * b.length : Nat) : Int))), (5, i64 (7 - (i : Int)))]) (fun i => [(0, .row .u8 5 (b ++ [128] ++ List.replicate j 0 ++ (be 8 (8 * b.length)).take i))]) 36 1
      (fun i => 8 - i) (fun i => i ≤ 8)
      ⟨0, [0], rfl, by omega, by
        (refine ⟨rfl, rfl, ?_, ?_⟩ <;> repeat' (first | exact True.intro | rfl | decide | (refine And.intro ?_ ?_)))
        · show AVal.d (.int .u64 _) = AVal.d (.int .u64 _)
          rw [e8]
        · simp; rfl⟩ ?_
    intro i hi
    rcases Nat.lt_or_ge i 8 with h8 | h8
    · have e1 : IntKind.i64.wrap (8 * (7 - (i : Int))) = ((8 * (7 - i) : Nat) : Int) := by rw [wrap_i64 (by omega) (by omega)]; omega
      have e0 : (0 : Int) ≤ IntKind.i64.wrap (8 * (7 - (i : Int))) := by omega
      have hlen : (b ++ [128] ++ List.replicate j 0 ++ (be 8 (8 * b.length)).take i).length = b.length + 1 + j + i := by
        rw [List.length_append, hrl, List.length_take, be_length]; omega
      have e2 : IntKind.u8.wrap ((((8 * b.length : Nat) : Int)) / 2 ^ min (IntKind.i64.wrap (8 * (7 - (i : Int)))).toNat IntKind.u64.bits) = ((8 * b.length / 256 ^ (8 - 1 - i) % 256 : Nat) : Int) := by
        rw [e1, Int.toNat_natCast, Nat.min_eq_left (by simp [IntKind.bits]; omega)]
        have : (2 : Int) ^ (8 * (7 - i)) = ((256 ^ (8 - 1 - i) : Nat) : Int) := by
          rw [Int.pow_mul]; push_cast; rfl
        rw [this, ← Int.natCast_ediv, u8w]
      ((conv=>whnf);repeat'((first|(show(_=true→_)∧(_=false→_);first|refine gT ?_|refine gF ?_|refine gS ?_ ?_<;>(intro _h;try contradiction))|(show(_=false→_)∧(_=true→_);first|refine gU ?_|refine gV ?_|refine gZ ?_ ?_<;>(intro _h;try contradiction))|(intro _h;try contradiction)|(show _∧_;refine gA ?_)|fail);all_goals conv=>whnf))
      refine ⟨by rw [hlen]; show (b.length + 1 + j + i + 1) * 1 ≤ 140737488355328; omega, ?_⟩
      ((conv=>whnf);repeat'((first|(show(_=true→_)∧(_=false→_);first|refine gT ?_|refine gF ?_|refine gS ?_ ?_<;>(intro _h;try contradiction))|(show(_=false→_)∧(_=true→_);first|refine gU ?_|refine gV ?_|refine gZ ?_ ?_<;>(intro _h;try contradiction))|(intro _h;try contradiction)|(show _∧_;refine gA ?_)|fail);all_goals conv=>whnf))
      refine ⟨i + 1, [0], by omega, by omega, rfl, ?_⟩
      (refine ⟨rfl, rfl, ?_, ?_⟩ <;> repeat' (first | exact True.intro | rfl | decide | (refine And.intro ?_ ?_)))
      · exact di (by rw [wrap_i64 (by omega) (by omega)]; omega)
      · show some (Ob.row .u8 _ _) = some (Ob.row .u8 _ _)
        rw [e2, be_take (by omega), ← List.append_assoc]
    · have hi8 : i = 8 := by omega
      ((conv=>whnf);repeat'((first|(show(_=true→_)∧(_=false→_);first|refine gT ?_|refine gF ?_|refine gS ?_ ?_<;>(intro _h;try contradiction))|(show(_=false→_)∧(_=true→_);first|refine gU ?_|refine gV ?_|refine gZ ?_ ?_<;>(intro _h;try contradiction))|(intro _h;try contradiction)|(show _∧_;refine gA ?_)|fail);all_goals conv=>whnf))
      refine Ends.imm rfl ?_
      rw [List.take_of_length_le (by rw [be_length]; omega), hjz', hZ]
      unfold padS
      rw [Nat.mod_eq_of_lt (a := 8 * b.length) (b := 18446744073709551616) (by omega)]

theorem padS_wfd {b : List Int} (hb : wfd b) : wfd (padS b) := by
  unfold padS
  exact ((hb.append (fun x hx => by simp at hx; omega)).append (fun x hx => by rw [List.eq_of_mem_replicate hx]; omega)).append (be_wfd _ _)
theorem padS_le (b : List Int) : (padS b).length ≤ b.length + 73 := by
  simp [padS, be_length]; omega

theorem blkS_wfl (s b : List Int) : wfl (blkS s b) := fun x hx => by
  unfold blkS at hx
  obtain ⟨i, _, rfl⟩ := List.mem_map.1 hx
  exact wrap32_range _
theorem H0_wfl : wfl H0 := by unfold wfl; decide
theorem foldS_wfl (p : List Int) : ∀ k, wfl (foldS H0 p k)
  | 0 => H0_wfl
  | k + 1 => blkS_wfl _ _

theorem byte4 (x : Int) (j : Nat) (m : Int) (hx : 0 ≤ x) (hj : j < 4) (hm : m = 8 * (3 - j : Nat)) : IntKind.u8.wrap (x / 2 ^ min m.toNat (IntKind.bits .u32)) = ((x.toNat / 256 ^ (4 - 1 - j) % 256 : Nat) : Int) := by
  obtain ⟨n, rfl⟩ : ∃ n : Nat, x = n := ⟨x.toNat, by omega⟩
  have e : m.toNat = 8 * (3 - j) := by omega
  rw [e, Nat.min_eq_left (by simp [IntKind.bits]; omega)]
  have : (2 : Int) ^ (8 * (3 - j)) = ((256 ^ (4 - 1 - j) : Nat) : Int) := by
    rw [Int.pow_mul]; push_cast; rfl
  rw [this, ← Int.natCast_ediv, u8w, Int.toNat_natCast]

def toldRS : AW.Told := ⟨fun _ => false, fun r i => if r == 2 && i == 0 then [3] else [], fun _ => .done⟩

theorem flat_take4 (xs : List Int) (k : Nat) (h : k < xs.length) : (xs.take (k + 1)).flatMap (fun x => be 4 x.toNat) = (xs.take k).flatMap (fun x => be 4 x.toNat) ++ be 4 (xs.getD k 0).toNat := by
  rw [take_snoc h, List.flatMap_append]; simp
theorem s_refSum (b : List Int) (hb : wfd b) (hl : b.length ≤ 100000000) : Imm Tryd.prog 72 [.d (byt b)] (fun r => r = .d (byt (sumS b))) := by
  have hpw := padS_wfd hb
  have hple := padS_le b
  have hpm := padS_len b
  have hsp := s_refPad b hl
  have hsum : sumS b = (foldS H0 (padS b) ((padS b).length / 64)).flatMap fun x => be 4 x.toNat := rfl
  obtain ⟨p, hp⟩ : ∃ p, p = padS b := ⟨_, rfl⟩
  rw [← hp] at hpw hple hpm hsp hsum
  (refine Imm.of_awp toldRS [2] Tryd.func72 rfl (by decide) (Nat.le_of_ble_eq_true rfl) ?_; intro _w0 _S0 _E0 _B0; ((conv=>whnf);repeat'((first|(show(_=true→_)∧(_=false→_);first|refine nTt ?_|refine nFf ?_|refine gS ?_ ?_<;>(intro _h;try contradiction))|(show(_=false→_)∧(_=true→_);first|refine nU ?_|refine nV ?_|refine gZ ?_ ?_<;>(intro _h;try contradiction))|(intro _h;try contradiction)|(show _∧_;refine gA ?_)|fail);all_goals conv=>whnf)))
  refine acallI hsp rfl fun r hr => ?_
  subst hr
  ((conv=>whnf);repeat'((first|(show(_=true→_)∧(_=false→_);first|refine gT ?_|refine gF ?_|refine gS ?_ ?_<;>(intro _h;try contradiction))|(show(_=false→_)∧(_=true→_);first|refine gU ?_|refine gV ?_|refine gZ ?_ ?_<;>(intro _h;try contradiction))|(intro _h;try contradiction)|(show _∧_;refine gA ?_)|fail);all_goals conv=>whnf))
  refine aloop (T := toldRS) (ι := Nat) (fun k => [(3, .d (wd (foldS H0 p k))), (4, .d (byt p)), (5, i64 (64 * k : Nat))]) (fun _ => []) 45 0
    (fun k => p.length / 64 - k) (fun k => 64 * k ≤ p.length)
    ⟨0, [], rfl, by omega, by (refine ⟨rfl, rfl, ?_, ?_⟩ <;> repeat' (first | exact True.intro | rfl | decide | (refine And.intro ?_ ?_)))⟩ ?_
  intro k hk
  have hfl := foldS_len H0 p rfl k
  have hfw := foldS_wfl p k
  rcases Nat.lt_or_ge (64 * k) p.length with hlt | hge
  · have e1 : IntKind.i64.wrap (((64 * k : Nat) : Int) + 64) = ((64 * k + 64 : Nat) : Int) := by rw [wrap_i64 (by omega) (by omega)]; omega
    ((conv=>whnf);repeat'((first|(show(_=true→_)∧(_=false→_);first|refine gT ?_|refine gF ?_|refine gS ?_ ?_<;>(intro _h;try contradiction))|(show(_=false→_)∧(_=true→_);first|refine gU ?_|refine gV ?_|refine gZ ?_ ?_<;>(intro _h;try contradiction))|(intro _h;try contradiction)|(show _∧_;refine gA ?_)|fail);all_goals conv=>whnf))
    refine acallI (s_refBlock (foldS H0 p k) (cutB p (64 * k) 64) hfl (hpw.cut _ _) (cutB_len (by omega))) (by rw [e1]; rfl) fun r hr => ?_
    subst hr
    ((conv=>whnf);repeat'((first|(show(_=true→_)∧(_=false→_);first|refine gT ?_|refine gF ?_|refine gS ?_ ?_<;>(intro _h;try contradiction))|(show(_=false→_)∧(_=true→_);first|refine gU ?_|refine gV ?_|refine gZ ?_ ?_<;>(intro _h;try contradiction))|(intro _h;try contradiction)|(show _∧_;refine gA ?_)|fail);all_goals conv=>whnf))
    refine ⟨k + 1, [], by omega, by omega, rfl, ?_⟩
    (refine ⟨rfl, rfl, ?_, ?_⟩ <;> repeat' (first | exact True.intro | rfl | decide | (refine And.intro ?_ ?_)))
    exact di (by rw [e1]; omega)
  · have hkk : p.length / 64 = k := by omega
    rw [hkk] at hsum
    obtain ⟨v, hv⟩ : ∃ v, v = foldS H0 p k := ⟨_, rfl⟩
    rw [← hv] at hfl hfw hsum ⊢
    ((conv=>whnf);repeat'((first|(show(_=true→_)∧(_=false→_);first|refine gT ?_|refine gF ?_|refine gS ?_ ?_<;>(intro _h;try contradiction))|(show(_=false→_)∧(_=true→_);first|refine gU ?_|refine gV ?_|refine gZ ?_ ?_<;>(intro _h;try contradiction))|(intro _h;try contradiction)|(show _∧_;refine gA ?_)|fail);all_goals conv=>whnf))
    refine AWp.adopt 6 (.row .u8 5 []) rfl rfl ?_
    refine aloop (T := toldRS) (ι := Nat) (fun i => [(3, .d (wd v)), (6, .own 0), (7, i64 i)]) (fun i => [(0, .row .u8 5 ((v.take i).flatMap fun x => be 4 x.toNat))]) 45 1
      (fun i => 8 - i) (fun i => i ≤ 8)
      ⟨0, [0], rfl, by omega, by (refine ⟨rfl, rfl, ?_, ?_⟩ <;> repeat' (first | exact True.intro | rfl | decide | (refine And.intro ?_ ?_)))⟩ ?_
    intro i hi
    rcases Nat.lt_or_ge i 8 with h8 | h8
    · have hf4 := flat_take4 v i (by omega)
      have hfll := flat_len (v.take i)
      rw [List.length_take, Nat.min_eq_left (by omega)] at hfll
      ((conv=>whnf);repeat'((first|(show(_=true→_)∧(_=false→_);first|refine gT ?_|refine gF ?_|refine gS ?_ ?_<;>(intro _h;try contradiction))|(show(_=false→_)∧(_=true→_);first|refine gU ?_|refine gV ?_|refine gZ ?_ ?_<;>(intro _h;try contradiction))|(intro _h;try contradiction)|(show _∧_;refine gA ?_)|fail);all_goals conv=>whnf))
      refine aloop (T := toldRS) (ι := Nat) (fun j => [(3, .d (wd v)), (6, .own 0), (7, i64 i), (8, i64 (3 - (j : Int)))]) (fun j => [(0, .row .u8 5 ((v.take i).flatMap (fun x => be 4 x.toNat) ++ (be 4 (v.getD i 0).toNat).take j))]) 45 1
        (fun j => 4 - j) (fun j => j ≤ 4)
        ⟨0, [0], rfl, by omega, by (refine ⟨rfl, rfl, ?_, ?_⟩ <;> repeat' (first | exact True.intro | rfl | decide | (refine And.intro ?_ ?_))); simp; rfl⟩ ?_
      intro j hj
      have hx := hfw.get i
      have hlen : ((v.take i).flatMap (fun x => be 4 x.toNat) ++ (be 4 (v.getD i 0).toNat).take j).length = 4 * i + j := by
        rw [List.length_append, hfll, List.length_take, be_length]; omega
      rcases Nat.lt_or_ge j 4 with h4 | h4
      · have e1 : IntKind.i64.wrap (8 * (3 - (j : Int))) = 8 * ((3 - j : Nat) : Int) := by rw [wrap_i64 (by omega) (by omega)]; omega
        have e0 : (0 : Int) ≤ IntKind.i64.wrap (8 * (3 - (j : Int))) := by omega
        have e2 := byte4 (v.getD i 0) j _ hx.1 h4 e1
        ((conv=>whnf);repeat'((first|(show(_=true→_)∧(_=false→_);first|refine gT ?_|refine gF ?_|refine gS ?_ ?_<;>(intro _h;try contradiction))|(show(_=false→_)∧(_=true→_);first|refine gU ?_|refine gV ?_|refine gZ ?_ ?_<;>(intro _h;try contradiction))|(intro _h;try contradiction)|(show _∧_;refine gA ?_)|fail);all_goals conv=>whnf))
        refine ⟨by rw [hlen]; show (4 * i + j + 1) * 1 ≤ 140737488355328; omega, ?_⟩
        ((conv=>whnf);repeat'((first|(show(_=true→_)∧(_=false→_);first|refine gT ?_|refine gF ?_|refine gS ?_ ?_<;>(intro _h;try contradiction))|(show(_=false→_)∧(_=true→_);first|refine gU ?_|refine gV ?_|refine gZ ?_ ?_<;>(intro _h;try contradiction))|(intro _h;try contradiction)|(show _∧_;refine gA ?_)|fail);all_goals conv=>whnf))
        refine ⟨j + 1, [0], by omega, by omega, rfl, ?_⟩
        (refine ⟨rfl, rfl, ?_, ?_⟩ <;> repeat' (first | exact True.intro | rfl | decide | (refine And.intro ?_ ?_)))
        · exact di (by rw [wrap_i64 (by omega) (by omega)]; omega)
        · show some (Ob.row .u8 _ _) = some (Ob.row .u8 _ _)
          rw [Int.toNat_natCast, e2, be_take (by omega), ← List.append_assoc]
      · have hj4 : j = 4 := by omega
        ((conv=>whnf);repeat'((first|(show(_=true→_)∧(_=false→_);first|refine gT ?_|refine gF ?_|refine gS ?_ ?_<;>(intro _h;try contradiction))|(show(_=false→_)∧(_=true→_);first|refine gU ?_|refine gV ?_|refine gZ ?_ ?_<;>(intro _h;try contradiction))|(intro _h;try contradiction)|(show _∧_;refine gA ?_)|fail);all_goals conv=>whnf))
        refine ⟨i + 1, [0], by omega, by omega, rfl, ?_⟩
        (refine ⟨rfl, rfl, ?_, ?_⟩ <;> repeat' (first | exact True.intro | rfl | decide | (refine And.intro ?_ ?_)))
        · exact di (by rw [wrap_i64 (by omega) (by omega)]; rfl)
        · show some (Ob.row .u8 _ _) = some (Ob.row .u8 _ _)
          rw [hf4, List.take_of_length_le (l := be 4 _) (by rw [be_length]; omega)]
    · have hi8 : i = 8 := by omega
      ((conv=>whnf);repeat'((first|(show(_=true→_)∧(_=false→_);first|refine gT ?_|refine gF ?_|refine gS ?_ ?_<;>(intro _h;try contradiction))|(show(_=false→_)∧(_=true→_);first|refine gU ?_|refine gV ?_|refine gZ ?_ ?_<;>(intro _h;try contradiction))|(intro _h;try contradiction)|(show _∧_;refine gA ?_)|fail);all_goals conv=>whnf))
      refine Ends.imm rfl ?_
      rw [hsum, hi8, List.take_of_length_le (by omega)]

def toldSum : AW.Told := ⟨fun f => f == 116 || f == 1004002, fun r i => if r == 9 && i == 2 then [54] else [], fun r =>
  if r == 1 then .take 0 (.take 1 (.take 2 (.take 4 (.take 5 (.take 6 (.take 7 (.four 3 (.three 8 (.two 9 (.two 10 (.two 11 (.one 12 (.one 13 .done)) 12 (.one 11 (.one 13 .done))) 12 (.one 10 (.one 11 (.one 13 .done)))) 12 (.one 9 (.one 10 (.one 11 (.one 13 .done))))) 9 (.two 8 (.two 10 (.two 11 (.one 12 (.one 13 .done)) 12 (.one 11 (.one 13 .done))) 12 (.one 10 (.one 11 (.one 13 .done)))) 12 (.one 8 (.one 10 (.one 11 (.one 13 .done))))) 12 (.two 8 (.one 9 (.one 10 (.one 11 (.one 13 .done)))) 9 (.one 8 (.one 10 (.one 11 (.one 13 .done)))))) 8 (.three 3 (.two 9 (.two 10 (.two 11 (.one 12 (.one 13 .done)) 12 (.one 11 (.one 13 .done))) 12 (.one 10 (.one 11 (.one 13 .done)))) 12 (.one 9 (.one 10 (.one 11 (.one 13 .done))))) 9 (.three 3 (.two 10 (.two 11 (.one 12 (.one 13 .done)) 12 (.one 11 (.one 13 .done))) 12 (.one 10 (.one 11 (.one 13 .done)))) 10 (.take 3 (.two 11 (.one 12 (.one 13 .done)) 12 (.one 11 (.one 13 .done)))) 12 (.two 3 (.one 10 (.one 11 (.one 13 .done))) 10 (.take 3 (.one 11 (.one 13 .done))))) 12 (.two 3 (.one 9 (.one 10 (.one 11 (.one 13 .done)))) 9 (.two 3 (.one 10 (.one 11 (.one 13 .done))) 10 (.take 3 (.one 11 (.one 13 .done)))))) 9 (.three 3 (.two 8 (.two 10 (.two 11 (.one 12 (.one 13 .done)) 12 (.one 11 (.one 13 .done))) 12 (.one 10 (.one 11 (.one 13 .done)))) 12 (.one 8 (.one 10 (.one 11 (.one 13 .done))))) 8 (.three 3 (.two 10 (.two 11 (.one 12 (.one 13 .done)) 12 (.one 11 (.one 13 .done))) 12 (.one 10 (.one 11 (.one 13 .done)))) 10 (.take 3 (.two 11 (.one 12 (.one 13 .done)) 12 (.one 11 (.one 13 .done)))) 12 (.two 3 (.one 10 (.one 11 (.one 13 .done))) 10 (.take 3 (.one 11 (.one 13 .done))))) 12 (.two 3 (.one 8 (.one 10 (.one 11 (.one 13 .done)))) 8 (.two 3 (.one 10 (.one 11 (.one 13 .done))) 10 (.take 3 (.one 11 (.one 13 .done)))))) 12 (.three 3 (.two 8 (.one 9 (.one 10 (.one 11 (.one 13 .done)))) 9 (.one 8 (.one 10 (.one 11 (.one 13 .done))))) 8 (.two 3 (.one 9 (.one 10 (.one 11 (.one 13 .done)))) 9 (.two 3 (.one 10 (.one 11 (.one 13 .done))) 10 (.take 3 (.one 11 (.one 13 .done))))) 9 (.two 3 (.one 8 (.one 10 (.one 11 (.one 13 .done)))) 8 (.two 3 (.one 10 (.one 11 (.one 13 .done))) 10 (.take 3 (.one 11 (.one 13 .done)))))))))))))
  else if r == 8 then .take 0 (.take 1 (.take 2 (.take 3 (.take 4 (.take 7 (.one 5 (.take 6 (.take 8 (.take 9 (.one 10 (.one 11 (.take 12 (.one 13 .done)))))))))))))
  else .done⟩

/-- What is left, a bit 1, noughts, and how many bits there were. -/
def endP (rest : List Int) (cnt : Nat) : List Int := rest ++ [128] ++ List.replicate ((119 - rest.length % 64) % 64) 0 ++ be 8 (8 * cnt % 18446744073709551616)

theorem k_chunk (xs : List Int) : Imm Tryd.prog 117 [.d (byt xs), i64 64] (fun r => r = .d (.fn 130 [.ptr (byt xs), .ptr (.int .i64 64)])) := by
  (refine Imm.of_awp (⟨fun _ => false, fun r i => if r == 3 && i == 0 then [2, 3] else [], fun _ => .done⟩ : AW.Told) [] Tryd.func117 rfl (by decide) (Nat.le_of_ble_eq_true rfl) ?_; intro _w0 _S0 _E0 _B0; ((conv=>whnf);repeat'((first|(show(_=true→_)∧(_=false→_);first|refine gT ?_|refine gF ?_|refine gS ?_ ?_<;>(intro _h;try contradiction))|(show(_=false→_)∧(_=true→_);first|refine gU ?_|refine gV ?_|refine gZ ?_ ?_<;>(intro _h;try contradiction))|(intro _h;try contradiction)|(show _∧_;refine gA ?_)|fail);all_goals conv=>whnf)))
  exact Ends.imm rfl rfl

theorem s_sum (hG : Globs.gl 4 = some ROUNDS) (s rest : List Int) (cnt : Nat) (hs : s.length = 8) (hr : wfd rest) (hl : rest.length < 64) (hc : cnt ≤ 1000000000) :
    CSpec Tryd.prog 100 [.optr 0 0] [(0, .cell 136 (hashC s (.own 1) cnt)), (1, .row .u8 5 rest)] 2
      (fun st nx r => st = [(0, .cell 136 (hashC s (.own 1) cnt)), (1, .row .u8 5 rest), (2, .row .u8 5 ((foldS s (endP rest cnt) ((endP rest cnt).length / 64)).flatMap fun x => be 4 x.toNat))] ∧ nx = 3 ∧ r = .own 2) := by
  refine CSpec.ends (CSpec.of_AWp [] Tryd.func100 rfl (by decide) (Nat.le_of_ble_eq_true rfl) fun _w0 _S0 _E0 _B0 => ?_)
  obtain ⟨Z, hZ⟩ : ∃ Z, Z = (119 - rest.length % 64) % 64 := ⟨_, rfl⟩
  refine AWp.seq toldSum ?_
  ((conv=>whnf);repeat'((first|(show(_=true→_)∧(_=false→_);first|refine gT ?_|refine gF ?_|refine gS ?_ ?_<;>(intro _h;try contradiction))|(show(_=false→_)∧(_=true→_);first|refine gU ?_|refine gV ?_|refine gZ ?_ ?_<;>(intro _h;try contradiction))|(intro _h;try contradiction)|(show _∧_;refine gA ?_)|fail);all_goals conv=>whnf))
  refine AWp.cut toldSum (ι := Unit) (fun _ => [(0, .optr 0 0), (3, .optr 2 0)])
    (fun _ => [(0, .cell 136 (hashC s (.own 1) cnt)), (1, .row .u8 5 rest), (2, .cell 136 (hashC s (.own 3) 0)), (3, .row .u8 5 (rest ++ [128]))]) 77 4 (fun _ => True) ?_ fun _ _ => ?_
  · ((conv=>whnf);repeat'((first|(show(_=true→_)∧(_=false→_);first|refine gT ?_|refine gF ?_|refine gS ?_ ?_<;>(intro _h;try contradiction))|(show(_=false→_)∧(_=true→_);first|refine gU ?_|refine gV ?_|refine gZ ?_ ?_<;>(intro _h;try contradiction))|(intro _h;try contradiction)|(show _∧_;refine gA ?_)|fail);all_goals conv=>whnf))
    repeat' (first
      | (refine acallP [] [] (k_cloneA rest (by omega)) rfl trivial trivial rfl (fun _ => rfl) ?_; rintro st nx r ⟨rfl, rfl, rfl⟩; refine ⟨rfl, rfl, ?_⟩; ((conv=>whnf);repeat'((first|(show(_=true→_)∧(_=false→_);first|refine gT ?_|refine gF ?_|refine gS ?_ ?_<;>(intro _h;try contradiction))|(show(_=false→_)∧(_=true→_);first|refine gU ?_|refine gV ?_|refine gZ ?_ ?_<;>(intro _h;try contradiction))|(intro _h;try contradiction)|(show _∧_;refine gA ?_)|fail);all_goals conv=>whnf)))
      | (refine And.intro (by show (rest.length + 1) * 1 ≤ 140737488355328; omega) ?_; ((conv=>whnf);repeat'((first|(show(_=true→_)∧(_=false→_);first|refine gT ?_|refine gF ?_|refine gS ?_ ?_<;>(intro _h;try contradiction))|(show(_=false→_)∧(_=true→_);first|refine gU ?_|refine gV ?_|refine gZ ?_ ?_<;>(intro _h;try contradiction))|(intro _h;try contradiction)|(show _∧_;refine gA ?_)|fail);all_goals conv=>whnf)))
      | (refine And.intro ?_ ?_ <;> ((conv=>whnf);repeat'((first|(show(_=true→_)∧(_=false→_);first|refine gT ?_|refine gF ?_|refine gS ?_ ?_<;>(intro _h;try contradiction))|(show(_=false→_)∧(_=true→_);first|refine gU ?_|refine gV ?_|refine gZ ?_ ?_<;>(intro _h;try contradiction))|(intro _h;try contradiction)|(show _∧_;refine gA ?_)|fail);all_goals conv=>whnf))))
    all_goals first
      | (refine ⟨(), [0, 1, 4, 2], trivial, rfl, ?_⟩; (refine ⟨rfl, rfl, ?_, ?_⟩ <;> repeat' (first | exact True.intro | rfl | decide | (refine And.intro ?_ ?_))); done)
      | (refine ⟨(), [0, 1, 4, 3], trivial, rfl, ?_⟩; (refine ⟨rfl, rfl, ?_, ?_⟩ <;> repeat' (first | exact True.intro | rfl | decide | (refine And.intro ?_ ?_))); done)
      | (refine ⟨(), [0, 1, 3, 2], trivial, rfl, ?_⟩; (refine ⟨rfl, rfl, ?_, ?_⟩ <;> repeat' (first | exact True.intro | rfl | decide | (refine And.intro ?_ ?_))); done)
      | (refine ⟨(), [0, 1, 3, 4], trivial, rfl, ?_⟩; (refine ⟨rfl, rfl, ?_, ?_⟩ <;> repeat' (first | exact True.intro | rfl | decide | (refine And.intro ?_ ?_))); done)
      | (refine ⟨(), [0, 1, 2, 3], trivial, rfl, ?_⟩; (refine ⟨rfl, rfl, ?_, ?_⟩ <;> repeat' (first | exact True.intro | rfl | decide | (refine And.intro ?_ ?_))); done)
      | (refine ⟨(), [0, 1, 2, 4], trivial, rfl, ?_⟩; (refine ⟨rfl, rfl, ?_, ?_⟩ <;> repeat' (first | exact True.intro | rfl | decide | (refine And.intro ?_ ?_))); done)
  · refine AWp.of_awp toldSum ?_
    ((conv=>whnf);repeat'((first|(show(_=true→_)∧(_=false→_);first|refine gT ?_|refine gF ?_|refine gS ?_ ?_<;>(intro _h;try contradiction))|(show(_=false→_)∧(_=true→_);first|refine gU ?_|refine gV ?_|refine gZ ?_ ?_<;>(intro _h;try contradiction))|(intro _h;try contradiction)|(show _∧_;refine gA ?_)|fail);all_goals conv=>whnf))
    refine aloop (T := toldSum) (ι := Nat) (fun j => [(0, .optr 0 0), (3, .optr 2 0)]) (fun j => [(0, .cell 136 (hashC s (.own 1) cnt)), (1, .row .u8 5 rest), (2, .cell 136 (hashC s (.own 3) 0)), (3, .row .u8 5 (rest ++ [128] ++ List.replicate j 0))]) 77 4
      (fun j => Z - j) (fun j => j ≤ Z)
      ⟨0, [0, 1, 2, 3], rfl, by omega, by (refine ⟨rfl, rfl, ?_, ?_⟩ <;> repeat' (first | exact True.intro | rfl | decide | (refine And.intro ?_ ?_))); simp; rfl⟩ ?_
    intro j hj
    have hrl : (rest ++ [128] ++ List.replicate j 0).length = rest.length + 1 + j := by simp; omega
    have hmod : ((rest ++ [128] ++ List.replicate j 0).length : Int).tmod 64 = (((rest.length + 1 + j) % 64 : Nat) : Int) := by
      rw [hrl, Int.tmod_eq_emod_of_nonneg (by omega)]; omega
    rcases Nat.lt_or_ge j Z with hjz | hjz
    · have hne : ¬ ((rest ++ [128] ++ List.replicate j 0).length : Int).tmod 64 = 56 := by rw [hmod]; omega
      ((conv=>whnf);repeat'((first|(show(_=true→_)∧(_=false→_);first|refine gT ?_|refine gF ?_|refine gS ?_ ?_<;>(intro _h;try contradiction))|(show(_=false→_)∧(_=true→_);first|refine gU ?_|refine gV ?_|refine gZ ?_ ?_<;>(intro _h;try contradiction))|(intro _h;try contradiction)|(show _∧_;refine gA ?_)|fail);all_goals conv=>whnf))
      refine ⟨by rw [hrl]; show (rest.length + 1 + j + 1) * 1 ≤ 140737488355328; omega, ?_⟩
      ((conv=>whnf);repeat'((first|(show(_=true→_)∧(_=false→_);first|refine gT ?_|refine gF ?_|refine gS ?_ ?_<;>(intro _h;try contradiction))|(show(_=false→_)∧(_=true→_);first|refine gU ?_|refine gV ?_|refine gZ ?_ ?_<;>(intro _h;try contradiction))|(intro _h;try contradiction)|(show _∧_;refine gA ?_)|fail);all_goals conv=>whnf))
      refine ⟨j + 1, [0, 1, 2, 3], by omega, by omega, rfl, ?_⟩
      (refine ⟨rfl, rfl, ?_, ?_⟩ <;> repeat' (first | exact True.intro | rfl | decide | (refine And.intro ?_ ?_)))
      show some (Ob.row .u8 _ _) = some (Ob.row .u8 _ _)
      rw [List.replicate_succ', ← List.append_assoc]
    · have hjz' : j = Z := by omega
      have heq : ((rest ++ [128] ++ List.replicate j 0).length : Int).tmod 64 = 56 := by rw [hmod]; omega
      ((conv=>whnf);repeat'((first|(show(_=true→_)∧(_=false→_);first|refine gT ?_|refine gF ?_|refine gS ?_ ?_<;>(intro _h;try contradiction))|(show(_=false→_)∧(_=true→_);first|refine gU ?_|refine gV ?_|refine gZ ?_ ?_<;>(intro _h;try contradiction))|(intro _h;try contradiction)|(show _∧_;refine gA ?_)|fail);all_goals conv=>whnf))
      refine ao_app0 (k := .u8) (j := 3) rfl rfl rfl rfl rfl rfl rfl rfl rfl ?_
      ((conv=>whnf);repeat'((first|(show(_=true→_)∧(_=false→_);first|refine gT ?_|refine gF ?_|refine gS ?_ ?_<;>(intro _h;try contradiction))|(show(_=false→_)∧(_=true→_);first|refine gU ?_|refine gV ?_|refine gZ ?_ ?_<;>(intro _h;try contradiction))|(intro _h;try contradiction)|(show _∧_;refine gA ?_)|fail);all_goals conv=>whnf))
      rw [hjz']
      obtain ⟨p0, hp0⟩ : ∃ p0, p0 = rest ++ [128] ++ List.replicate Z 0 := ⟨_, rfl⟩
      have hpl : p0.length = rest.length + 1 + Z := by rw [hp0, ← hjz', hrl]
      rw [← hp0]
      refine aloop (T := toldSum) (ι := Nat) (fun i => [(0, .optr 0 0), (3, .optr 2 0), (4, i64 (8 * (7 - (i : Int))))]) (fun i => [(0, .cell 136 (hashC s (.own 1) cnt)), (1, .row .u8 5 rest), (2, .cell 136 (hashC s (.own 3) 0)), (3, .row .u8 5 (p0 ++ (be 8 (8 * cnt)).take i))]) 77 4
        (fun i => 8 - i) (fun i => i ≤ 8)
        ⟨0, [0, 1, 2, 3], rfl, by omega, by (refine ⟨rfl, rfl, ?_, ?_⟩ <;> repeat' (first | exact True.intro | rfl | decide | (refine And.intro ?_ ?_))); simp; rfl⟩ ?_
      intro i hi
      have hlen : (p0 ++ (be 8 (8 * cnt)).take i).length = p0.length + i := by
        rw [List.length_append, List.length_take, be_length]; omega
      rcases Nat.lt_or_ge i 8 with h8 | h8
      · have e8 : IntKind.u64.wrap (8 * (cnt : Int)) = ((8 * cnt : Nat) : Int) := by rw [wrap_u64 (by omega) (by omega)]; omega
        have e0 : (0 : Int) ≤ 8 * (7 - (i : Int)) := by omega
        have e2 : IntKind.u8.wrap (IntKind.u64.wrap (8 * (cnt : Int)) / 2 ^ min (8 * (7 - (i : Int))).toNat IntKind.u64.bits) = ((8 * cnt / 256 ^ (8 - 1 - i) % 256 : Nat) : Int) := by
          have e1 : (8 * (7 - (i : Int))).toNat = 8 * (7 - i) := by omega
          rw [e1, e8, Nat.min_eq_left (by simp [IntKind.bits]; omega)]
          have : (2 : Int) ^ (8 * (7 - i)) = ((256 ^ (8 - 1 - i) : Nat) : Int) := by
            rw [Int.pow_mul]; push_cast; rfl
          rw [this, ← Int.natCast_ediv, u8w]
        ((conv=>whnf);repeat'((first|(show(_=true→_)∧(_=false→_);first|refine gT ?_|refine gF ?_|refine gS ?_ ?_<;>(intro _h;try contradiction))|(show(_=false→_)∧(_=true→_);first|refine gU ?_|refine gV ?_|refine gZ ?_ ?_<;>(intro _h;try contradiction))|(intro _h;try contradiction)|(show _∧_;refine gA ?_)|fail);all_goals conv=>whnf))
        refine ⟨by rw [hlen]; show (p0.length + i + 1) * 1 ≤ 140737488355328; omega, ?_⟩
        ((conv=>whnf);repeat'((first|(show(_=true→_)∧(_=false→_);first|refine gT ?_|refine gF ?_|refine gS ?_ ?_<;>(intro _h;try contradiction))|(show(_=false→_)∧(_=true→_);first|refine gU ?_|refine gV ?_|refine gZ ?_ ?_<;>(intro _h;try contradiction))|(intro _h;try contradiction)|(show _∧_;refine gA ?_)|fail);all_goals conv=>whnf))
        refine ⟨i + 1, [0, 1, 2, 3], by omega, by omega, rfl, ?_⟩
        (refine ⟨rfl, rfl, ?_, ?_⟩ <;> repeat' (first | exact True.intro | rfl | decide | (refine And.intro ?_ ?_)))
        · exact di (by rw [wrap_i64 (by omega) (by omega)]; omega)
        · show some (Ob.row .u8 _ _) = some (Ob.row .u8 _ _)
          rw [e2, be_take (by omega), ← List.append_assoc]
      · have hi8 : i = 8 := by omega
        have hend : endP rest cnt = p0 ++ be 8 (8 * cnt) := by
          unfold endP
          rw [hp0, hZ, Nat.mod_eq_of_lt (a := 8 * cnt) (b := 18446744073709551616) (by omega)]
        have htk : (be 8 (8 * cnt)).take i = be 8 (8 * cnt) := List.take_of_length_le (by rw [be_length]; omega)
        rw [htk, hend]
        obtain ⟨p, hp⟩ : ∃ p, p = p0 ++ be 8 (8 * cnt) := ⟨_, rfl⟩
        obtain ⟨n, hn⟩ : ∃ n, p.length = 64 * n := ⟨(rest.length + 9 + Z) / 64, by rw [hp, List.length_append, be_length, hpl]; omega⟩
        have hpn : p.length / 64 = n := by omega
        have hn0 : 0 < n := by have := congrArg List.length hp; rw [List.length_append, be_length, hpl] at this; omega
        have hple : p.length ≤ 1000000000 := by have := congrArg List.length hp; rw [List.length_append, be_length, hpl] at this; omega
        have hpw : wfd p := by
          rw [hp, hp0]
          exact ((hr.append (fun x hx => by simp at hx; omega)).append (fun x hx => by rw [List.eq_of_mem_replicate hx]; omega)).append (be_wfd _ _)
        rw [← hp, hpn]
        ((conv=>whnf);repeat'((first|(show(_=true→_)∧(_=false→_);first|refine gT ?_|refine gF ?_|refine gS ?_ ?_<;>(intro _h;try contradiction))|(show(_=false→_)∧(_=true→_);first|refine gU ?_|refine gV ?_|refine gZ ?_ ?_<;>(intro _h;try contradiction))|(intro _h;try contradiction)|(show _∧_;refine gA ?_)|fail);all_goals conv=>whnf))
        refine acallI (k_chunk p) rfl fun r hr => ?_
        subst hr
        ((conv=>whnf);repeat'((first|(show(_=true→_)∧(_=false→_);first|refine gT ?_|refine gF ?_|refine gS ?_ ?_<;>(intro _h;try contradiction))|(show(_=false→_)∧(_=true→_);first|refine gU ?_|refine gV ?_|refine gZ ?_ ?_<;>(intro _h;try contradiction))|(intro _h;try contradiction)|(show _∧_;refine gA ?_)|fail);all_goals conv=>whnf))
        refine AWp.rangeFunc toldSum (aiC p n hn hple hn0) (ι := Nat) [(0, .optr 0 0), (3, .optr 2 0)]
          (fun k => [(0, .cell 136 (hashC s (.own 1) cnt)), (1, .row .u8 5 rest), (2, .cell 136 (hashC (foldS s p k) (.d (byt p)) 0))]) 77 3 3
          (fun k i => i = k) (fun e v => False) rfl rfl rfl (fun k hk => rfl) rfl rfl (show 2 ≤ 3 by decide) (Nat.le_refl _) rfl ?_ ?_ ?_ ?_ ?_
        · exact ⟨0, [0, 1, 2], rfl, rfl, by (refine ⟨rfl, rfl, ?_, ?_⟩ <;> repeat' (first | exact True.intro | rfl | decide | (refine And.intro ?_ ?_)))⟩
        · intro k i hk hi' _ _ _ _ _
          subst hi'
          have hfl := foldS_len s p hs i
          ((conv=>whnf);repeat'((first|(show(_=true→_)∧(_=false→_);first|refine gT ?_|refine gF ?_|refine gS ?_ ?_<;>(intro _h;try contradiction))|(show(_=false→_)∧(_=true→_);first|refine gU ?_|refine gV ?_|refine gZ ?_ ?_<;>(intro _h;try contradiction))|(intro _h;try contradiction)|(show _∧_;refine gA ?_)|fail);all_goals conv=>whnf))
          refine acall [2] (s_take hG (foldS s p i) (cutB p (64 * i) 64) p 0 hfl (hpw.cut _ _) (cutB_len (by omega))) rfl ⟨⟨by decide, rfl⟩, trivial⟩ rfl (fun h => Bool.noConfusion h) ?_
          rintro st nx r ⟨rfl, rfl, rfl⟩
          ((conv=>whnf);repeat'((first|(show(_=true→_)∧(_=false→_);first|refine gT ?_|refine gF ?_|refine gS ?_ ?_<;>(intro _h;try contradiction))|(show(_=false→_)∧(_=true→_);first|refine gU ?_|refine gV ?_|refine gZ ?_ ?_<;>(intro _h;try contradiction))|(intro _h;try contradiction)|(show _∧_;refine gA ?_)|fail);all_goals conv=>whnf))
          refine ⟨i + 1, [0, 1, 2], rfl, rfl, rfl, ?_⟩
          (repeat' (first | exact True.intro | rfl | decide | (refine And.intro ?_ ?_)))
        · intro k hk
          subst hk
          have hfl := foldS_len s p hs k
          obtain ⟨v, hv⟩ : ∃ v, v = foldS s p k := ⟨_, rfl⟩
          have hvw : wfl v := by
            obtain ⟨k', rfl⟩ : ∃ k', k = k' + 1 := ⟨k - 1, by omega⟩
            rw [hv]
            exact blkS_wfl _ _
          rw [← hv] at hfl ⊢
          ((conv=>whnf);repeat'((first|(show(_=true→_)∧(_=false→_);first|refine gT ?_|refine gF ?_|refine gS ?_ ?_<;>(intro _h;try contradiction))|(show(_=false→_)∧(_=true→_);first|refine gU ?_|refine gV ?_|refine gZ ?_ ?_<;>(intro _h;try contradiction))|(intro _h;try contradiction)|(show _∧_;refine gA ?_)|fail);all_goals conv=>whnf))
          refine AWp.adopt 6 (.row .u8 5 []) rfl rfl ?_
          refine aloop (T := toldSum) (ι := Nat) (fun i => [(60, .ag 134 (st8 v)), (6, .own 3), (61, i64 i)]) (fun i => [(0, .cell 136 (hashC s (.own 1) cnt)), (1, .row .u8 5 rest), (3, .row .u8 5 ((v.take i).flatMap fun x => be 4 x.toNat))]) 77 4
            (fun i => 8 - i) (fun i => i ≤ 8)
            ⟨0, [0, 1, 2, 3], rfl, by omega, by (refine ⟨rfl, rfl, ?_, ?_⟩ <;> repeat' (first | exact True.intro | rfl | decide | (refine And.intro ?_ ?_)))⟩ ?_
          intro i hi
          rcases Nat.lt_or_ge i 8 with h8 | h8
          · have hf4 := flat_take4 v i (by omega)
            have hfll := flat_len (v.take i)
            rw [List.length_take, Nat.min_eq_left (by omega)] at hfll
            ((conv=>whnf);repeat'((first|(show(_=true→_)∧(_=false→_);first|refine gT ?_|refine gF ?_|refine gS ?_ ?_<;>(intro _h;try contradiction))|(show(_=false→_)∧(_=true→_);first|refine gU ?_|refine gV ?_|refine gZ ?_ ?_<;>(intro _h;try contradiction))|(intro _h;try contradiction)|(show _∧_;refine gA ?_)|fail);all_goals conv=>whnf))
            have hx0 := hvw.get i
            have hgx : [v.getD 0 0, v.getD 1 0, v.getD 2 0, v.getD 3 0, v.getD 4 0, v.getD 5 0, v.getD 6 0, v.getD 7 0].getD (i : Int).toNat 0 = v.getD i 0 := by
              rw [Int.toNat_natCast]
              rcases Nat.lt_or_ge i 8 with _ | h
              · match i, h8 with
                | 0, _ => rfl
                | 1, _ => rfl
                | 2, _ => rfl
                | 3, _ => rfl
                | 4, _ => rfl
                | 5, _ => rfl
                | 6, _ => rfl
                | 7, _ => rfl
              · omega
            obtain ⟨x, hx⟩ : ∃ x, x = v.getD i 0 := ⟨_, rfl⟩
            rw [← hx] at hgx hx0 hf4
            refine aloop (T := toldSum) (ι := Nat) (fun j => [(60, .ag 134 (st8 v)), (6, .own 3), (61, i64 i), (8, u32 x), (9, i64 (8 * (3 - (j : Int))))]) (fun j => [(0, .cell 136 (hashC s (.own 1) cnt)), (1, .row .u8 5 rest), (3, .row .u8 5 ((v.take i).flatMap (fun x => be 4 x.toNat) ++ (be 4 x.toNat).take j))]) 77 4
              (fun j => 4 - j) (fun j => j ≤ 4)
              ⟨0, [0, 1, 2, 3], rfl, by omega, by
                (refine ⟨rfl, rfl, ?_, ?_⟩ <;> repeat' (first | exact True.intro | rfl | decide | (refine And.intro ?_ ?_)))
                · rw [← hgx]; rfl
                · simp; rfl⟩ ?_
            intro j hj
            have hlen : ((v.take i).flatMap (fun x => be 4 x.toNat) ++ (be 4 x.toNat).take j).length = 4 * i + j := by
              rw [List.length_append, hfll, List.length_take, be_length]; omega
            rcases Nat.lt_or_ge j 4 with h4 | h4
            · have e2 := byte4 x j (8 * (3 - (j : Int))) hx0.1 h4 (by omega)
              ((conv=>whnf);repeat'((first|(show(_=true→_)∧(_=false→_);first|refine gT ?_|refine gF ?_|refine gS ?_ ?_<;>(intro _h;try contradiction))|(show(_=false→_)∧(_=true→_);first|refine gU ?_|refine gV ?_|refine gZ ?_ ?_<;>(intro _h;try contradiction))|(intro _h;try contradiction)|(show _∧_;refine gA ?_)|fail);all_goals conv=>whnf))
              refine ⟨by rw [hlen]; show (4 * i + j + 1) * 1 ≤ 140737488355328; omega, ?_⟩
              ((conv=>whnf);repeat'((first|(show(_=true→_)∧(_=false→_);first|refine gT ?_|refine gF ?_|refine gS ?_ ?_<;>(intro _h;try contradiction))|(show(_=false→_)∧(_=true→_);first|refine gU ?_|refine gV ?_|refine gZ ?_ ?_<;>(intro _h;try contradiction))|(intro _h;try contradiction)|(show _∧_;refine gA ?_)|fail);all_goals conv=>whnf))
              refine ⟨j + 1, [0, 1, 2, 3], by omega, by omega, rfl, ?_⟩
              (refine ⟨rfl, rfl, ?_, ?_⟩ <;> repeat' (first | exact True.intro | rfl | decide | (refine And.intro ?_ ?_)))
              · exact di (by rw [wrap_i64 (by omega) (by omega)]; omega)
              · show some (Ob.row .u8 _ _) = some (Ob.row .u8 _ _)
                rw [e2, be_take (by omega), ← List.append_assoc]
            · have hj4 : j = 4 := by omega
              ((conv=>whnf);repeat'((first|(show(_=true→_)∧(_=false→_);first|refine gT ?_|refine gF ?_|refine gS ?_ ?_<;>(intro _h;try contradiction))|(show(_=false→_)∧(_=true→_);first|refine gU ?_|refine gV ?_|refine gZ ?_ ?_<;>(intro _h;try contradiction))|(intro _h;try contradiction)|(show _∧_;refine gA ?_)|fail);all_goals conv=>whnf))
              refine ⟨i + 1, [0, 1, 2, 3], by omega, by omega, rfl, ?_⟩
              (refine ⟨rfl, rfl, ?_, ?_⟩ <;> repeat' (first | exact True.intro | rfl | decide | (refine And.intro ?_ ?_)))
              · exact di (by rw [wrap_i64 (by omega) (by omega)]; rfl)
              · show some (Ob.row .u8 _ _) = some (Ob.row .u8 _ _)
                rw [hf4, List.take_of_length_le (l := be 4 _) (by rw [be_length]; omega)]
          · have hi8 : i = 8 := by omega
            ((conv=>whnf);repeat'((first|(show(_=true→_)∧(_=false→_);first|refine gT ?_|refine gF ?_|refine gS ?_ ?_<;>(intro _h;try contradiction))|(show(_=false→_)∧(_=true→_);first|refine gU ?_|refine gV ?_|refine gZ ?_ ?_<;>(intro _h;try contradiction))|(intro _h;try contradiction)|(show _∧_;refine gA ?_)|fail);all_goals conv=>whnf))
            refine ⟨[0, 1, 3], [(0, .cell 136 (hashC s (.own 1) cnt)), (1, .row .u8 5 rest), (2, .row .u8 5 (v.flatMap fun x => be 4 x.toNat))], .own 2, ⟨rfl, ⟨⟨by decide, rfl⟩, ⟨by decide, rfl⟩, ⟨by decide, ?_⟩, trivial⟩, rfl⟩, rfl, rfl, rfl⟩
            have e : v.take i = v := by rw [hi8, List.take_of_length_le (by omega)]
            rw [e]
            rfl
        · intro n h
          exact h.elim
        · intro id n h
          exact h.elim

theorem sum_end (t : List Int) : (foldS (stS t) (endP (reS t) t.length) ((endP (reS t) t.length).length / 64)).flatMap (fun x => be 4 x.toNat) = sumS t := by
  have hl := reS_len t
  have e0 : t = t.take (64 * (t.length / 64)) ++ reS t := (List.take_append_drop _ _).symm
  have ep : padS t = t.take (64 * (t.length / 64)) ++ endP (reS t) t.length := by
    unfold padS endP
    rw [hl, Nat.mod_mod]
    conv => lhs; lhs; lhs; lhs; rw [e0]
    simp only [List.append_assoc]
  have el : (t.take (64 * (t.length / 64))).length = 64 * (t.length / 64) := by rw [List.length_take]; omega
  have e1 : (padS t).length / 64 = t.length / 64 + (endP (reS t) t.length).length / 64 := by
    rw [ep, List.length_append, el]; omega
  have e2 : (padS t).drop (64 * (t.length / 64)) = endP (reS t) t.length := by
    rw [ep, List.drop_append_of_le_length (by omega), List.drop_of_length_le (by omega)]; rfl
  have e3 : foldS H0 (padS t) (t.length / 64) = stS t := by
    unfold padS stS
    rw [List.append_assoc, List.append_assoc, foldS_app _ _ _ (by omega)]
  unfold sumS
  rw [e1, foldS_split, e2, e3]

def toldOf : AW.Told := ⟨fun f => f == 99 || f == 100, fun _ _ => [], fun _ => .done⟩

theorem s_of (hG : Globs.gl 4 = some ROUNDS) (hF : Globs.gl 1 = some FIRST) (xss : List (List Int)) (hw : ∀ x ∈ xss, wfd x) (hl : xss.flatten.length ≤ 10000000) (hx : xss.length ≤ 1000000) :
    Imm Tryd.prog 71 [.d (.sl 1 (xss.map byt))] (fun r => r = .d (byt (sumS xss.flatten))) := by
  have hwf : ∀ k, wfd (xss.take k).flatten := fun k x hx => by
    obtain ⟨l, h1, h2⟩ := List.mem_flatten.1 hx
    exact hw l (List.mem_of_mem_take h1) x h2
  (refine Imm.of_awp toldOf [2] Tryd.func71 rfl (by decide) (Nat.le_of_ble_eq_true rfl) ?_; intro _w0 _S0 _E0 _B0; ((conv=>whnf);repeat'((first|(show(_=true→_)∧(_=false→_);first|refine nTt ?_|refine nFf ?_|refine gS ?_ ?_<;>(intro _h;try contradiction))|(show(_=false→_)∧(_=true→_);first|refine nU ?_|refine nV ?_|refine gZ ?_ ?_<;>(intro _h;try contradiction))|(intro _h;try contradiction)|(show _∧_;refine gA ?_)|fail);all_goals conv=>whnf)))
  refine acall [] (s_new hF) rfl (by simp [stIn]) rfl (fun _ => rfl) ?_
  rintro st nx r ⟨rfl, rfl, rfl⟩
  ((conv=>whnf);repeat'((first|(show(_=true→_)∧(_=false→_);first|refine gT ?_|refine gF ?_|refine gS ?_ ?_<;>(intro _h;try contradiction))|(show(_=false→_)∧(_=true→_);first|refine gU ?_|refine gV ?_|refine gZ ?_ ?_<;>(intro _h;try contradiction))|(intro _h;try contradiction)|(show _∧_;refine gA ?_)|fail);all_goals conv=>whnf))
  refine aloop (T := toldOf) (fun k : Nat => [(3, .optr 0 0), (7, .d (.sl 1 (xss.map byt))), (8, i64 xss.length), (9, i64 k)])
    (fun k => [(0, .cell 136 (hashC (stS (xss.take k).flatten) (.own 1) ((xss.take k).flatten.length : Nat))), (1, .row .u8 5 (reS (xss.take k).flatten))]) 19 2 (fun k => xss.length - k) (fun k => k ≤ xss.length)
    ⟨0, [0, 1], rfl, Nat.zero_le _, by
      (refine ⟨rfl, rfl, ?_, ?_⟩ <;> repeat' (first | exact True.intro | rfl | decide | (refine And.intro ?_ ?_)))
      · simp [AW.upd, renV]
      · rw [List.take_zero, List.flatten_nil, show stS [] = H0 from rfl]; rfl
      · rw [List.take_zero, List.flatten_nil, show reS [] = [] from rfl]; rfl⟩ ?_
  intro k hk
  have hf1 := flat_le xss k
  have hf2 := flat_le xss (k + 1)
  obtain ⟨t, ht⟩ : ∃ t, t = (xss.take k).flatten := ⟨_, rfl⟩
  have htw : wfd t := by rw [ht]; exact hwf k
  have hrl := reS_len t
  rw [← ht] at hf1 ⊢
  rcases Nat.lt_or_ge k xss.length with hkl | hkl
  · have hfk := flat_take xss k hkl
    rw [← ht] at hfk
    have hlen : (xss.take (k + 1)).flatten.length = t.length + (xss.getD k []).length := by rw [hfk, List.length_append]
    obtain ⟨b, hb⟩ : ∃ b, b = xss.getD k [] := ⟨_, rfl⟩
    have hbw : wfd b := by
      rw [hb, List.getD_eq_getElem?_getD, List.getElem?_eq_getElem hkl]
      exact hw _ (List.getElem_mem hkl)
    rw [← hb] at hfk hlen
    have hap := stS_app t b
    have ew : IntKind.u64.wrap ((t.length : Int) + b.length) = ((t ++ b).length : Nat) := by rw [wrap_u64 (by omega) (by omega), List.length_append]; rfl
    ((conv=>whnf);repeat'((first|(show(_=true→_)∧(_=false→_);first|refine gT ?_|refine gF ?_|refine gS ?_ ?_<;>(intro _h;try contradiction))|(show(_=false→_)∧(_=true→_);first|refine gU ?_|refine gV ?_|refine gZ ?_ ?_<;>(intro _h;try contradiction))|(intro _h;try contradiction)|(show _∧_;refine gA ?_)|fail);all_goals conv=>whnf))
    rw [Int.toNat_natCast, getD_map byt xss k [] default (by omega), ← hb]
    ((conv=>whnf);repeat'((first|(show(_=true→_)∧(_=false→_);first|refine gT ?_|refine gF ?_|refine gS ?_ ?_<;>(intro _h;try contradiction))|(show(_=false→_)∧(_=true→_);first|refine gU ?_|refine gV ?_|refine gZ ?_ ?_<;>(intro _h;try contradiction))|(intro _h;try contradiction)|(show _∧_;refine gA ?_)|fail);all_goals conv=>whnf))
    refine acall [0, 1] (s_write hG (stS t) (reS t) b t.length (stS_len t) (reS_wfd htw) hbw (by omega)) rfl ⟨⟨by decide, rfl⟩, ⟨by decide, rfl⟩, trivial⟩ rfl (fun h => Bool.noConfusion h) ?_
    rintro st nx r ⟨rfl, rfl, rfl⟩
    ((conv=>whnf);repeat'((first|(show(_=true→_)∧(_=false→_);first|refine gT ?_|refine gF ?_|refine gS ?_ ?_<;>(intro _h;try contradiction))|(show(_=false→_)∧(_=true→_);first|refine gU ?_|refine gV ?_|refine gZ ?_ ?_<;>(intro _h;try contradiction))|(intro _h;try contradiction)|(show _∧_;refine gA ?_)|fail);all_goals conv=>whnf))
    refine ⟨k + 1, [0, 2], by omega, by omega, rfl, ?_⟩
    (refine ⟨rfl, rfl, ?_, ?_⟩ <;> repeat' (first | exact True.intro | rfl | decide | (refine And.intro ?_ ?_)))
    · exact di (by rw [wrap_i64 (by omega) (by omega)]; rfl)
    · rw [hfk, hap.1, ew]; rfl
    · rw [hfk, hap.2]; rfl
  · have hk' : k = xss.length := by omega
    subst hk'
    rw [List.take_length] at ht
    ((conv=>whnf);repeat'((first|(show(_=true→_)∧(_=false→_);first|refine gT ?_|refine gF ?_|refine gS ?_ ?_<;>(intro _h;try contradiction))|(show(_=false→_)∧(_=true→_);first|refine gU ?_|refine gV ?_|refine gZ ?_ ?_<;>(intro _h;try contradiction))|(intro _h;try contradiction)|(show _∧_;refine gA ?_)|fail);all_goals conv=>whnf))
    refine acall [0, 1] (s_sum hG (stS t) (reS t) t.length (stS_len t) (reS_wfd htw) (by omega) (by omega)) rfl ⟨⟨by decide, rfl⟩, ⟨by decide, rfl⟩, trivial⟩ rfl (fun h => Bool.noConfusion h) ?_
    rintro st nx r ⟨rfl, rfl, rfl⟩
    ((conv=>whnf);repeat'((first|(show(_=true→_)∧(_=false→_);first|refine gT ?_|refine gF ?_|refine gS ?_ ?_<;>(intro _h;try contradiction))|(show(_=false→_)∧(_=true→_);first|refine gU ?_|refine gV ?_|refine gZ ?_ ?_<;>(intro _h;try contradiction))|(intro _h;try contradiction)|(show _∧_;refine gA ?_)|fail);all_goals conv=>whnf))
    refine Ends.imm rfl ?_
    rw [← ht, ← sum_end t]

end Go.Proofs.YtniaeiikdgbnfaaDoor.R
namespace Go.Proofs.YtniaeiikdgbnfaaDoor.AW
open Go Go.RowKit
set_option linter.unusedSectionVars false
set_option linter.unusedVariables false

/-- A table: its name, number, type, the type of its elements, their kind, its numbers. -/
structure Tab where
  name : String
  g : Nat
  t : TypeId
  e : TypeId
  k : IntKind
  zs : List Int

def Tab.ok (P : Program) (x : Tab) : Prop :=
  P.globalNamed x.name = some x.g ∧ (P.globals[x.g]?).map (·.type) = some x.t ∧ P.underlying x.t = some (.array x.zs.length x.e) ∧ P.underlying x.e = some (.int x.k) ∧ P.cellsOf x.e = 1 ∧ P.cellsOf x.t = x.zs.length ∧
    x.zs.all (fun z => x.k.wrap z == z) = true ∧ 0 < x.zs.length

def tabGl (tabs : List Tab) (g : Nat) : Option D := (tabs.find? (fun x => x.g == g)).map fun x => .agg (x.zs.map (D.int x.k))

def tabLaid (tabs : List Tab) : List (String × DataW Unit) := tabs.map fun x => (x.name, Lib.tabData x.k x.zs)

theorem tabs_of_vars {P : Program} {W : World} : ∀ {tabs : List Tab} {ps : List MemPlace}, (∀ x ∈ tabs, x.ok P) → DataW.LaidVars P W (tabLaid tabs) ps → ∀ x ∈ tabs, Lib.TabIs P W x.name x.k x.zs
  | [], _, _, _, x, hx => by simp at hx
  | y :: tabs, ps, hok, h, x, hx => by
    obtain ⟨g', t', cs, fuel, p, q, hg', ht', hvar, hd, hr, _⟩ := h
    rcases List.mem_cons.1 hx with rfl | hx
    · obtain ⟨h1, h2, h3, h4, h5, h6, _⟩ := hok x (List.mem_cons_self ..)
      obtain rfl := Option.some.inj (h1.symm.trans hg')
      obtain rfl := Option.some.inj (h2.symm.trans ht')
      unfold Lib.TabIs
      rw [hvar, ← Lib.cells_of_tab h3 h4 h5 h6 hd]
    · exact tabs_of_vars (fun z hz => hok z (List.mem_cons_of_mem _ hz)) hr x hx

theorem repAll_ints {W : World} {S : Nat → Prop} {k : IntKind} : ∀ {zs : List Int}, zs.all (fun z => k.wrap z == z) = true → RepAll W S (zs.map (D.int k)) (zs.map (Value.int k))
  | [], _ => rfl
  | z :: zs, h => by
    simp only [List.all_cons, Bool.and_eq_true, beq_iff_eq] at h
    simp only [List.map_cons, RepAll, Rep]
    exact ⟨[.int k z], _, rfl, ⟨rfl, h.1⟩, repAll_ints h.2⟩

theorem globOk_tabs [Globs] {P : Program} {W : World} (tabs : List Tab) (hgl : ∀ g, Globs.gl g = tabGl tabs g) (hok : ∀ x ∈ tabs, x.ok P) (h : laidMet P (tabLaid tabs) W) : GlobOk W (fun b => b < W.heap.size) := fun g d hg => by
  rw [hgl] at hg
  unfold tabGl at hg
  obtain ⟨ps, hv, _⟩ := h
  cases hf : tabs.find? (fun x => x.g == g) with
  | none => rw [hf] at hg; simp at hg
  | some x =>
    rw [hf] at hg
    simp only [Option.map_some, Option.some.injEq] at hg
    subst hg
    have hx := List.mem_of_find?_eq_some hf
    have hxg : x.g = g := by have := List.find?_some hf; simpa using this
    obtain ⟨h1, h2, h3, h4, h5, h6, h7, h8⟩ := hok x hx
    have ht := tabs_of_vars hok hv x hx
    have c : ∀ i, i < x.zs.length → W.cell? ⟨x.g, i, none⟩ = some (.int x.k (x.zs.getD i 0)) := fun i hi => ht.cell h1 i hi
    subst hxg
    refine ⟨?_, x.zs.map (Value.int x.k), ?_, ?_⟩
    · have := c 0 h8
      unfold World.cell? at this
      cases hb : W.heap[x.g]? with
      | none => simp [hb] at this
      | some o => exact (Array.getElem?_eq_some_iff.1 hb).1
    · intro i v hv
      rw [List.getElem?_map] at hv
      have hi : i < x.zs.length := by
        rcases Nat.lt_or_ge i x.zs.length with h | h
        · exact h
        · rw [List.getElem?_eq_none h] at hv; simp at hv
      have h9 := c i hi
      rw [List.getElem?_eq_getElem hi] at hv
      simp only [Option.map_some, Option.some.injEq] at hv
      rw [Nat.zero_add, h9, ← hv, List.getD_eq_getElem?_getD, List.getElem?_eq_getElem hi]
      rfl
    · simp only [Rep]
      exact repAll_ints h7
end Go.Proofs.YtniaeiikdgbnfaaDoor.AW
namespace Go.Proofs.YtniaeiikdgbnfaaDoor.R.L
open Go Go.RowKit Go.Proofs Go.Proofs.YtniaeiikdgbnfaaDoor.AW
set_option linter.unusedSectionVars false
variable [Globs]
set_option maxRecDepth 100000
set_option linter.unusedSimpArgs false
set_option linter.unusedVariables false
set_option maxHeartbeats 4000000

abbrev u64 (n : Int) : AVal := .d (.int .u64 n)
abbrev wd (xs : List Int) : D := .ints .u64 xs

def xor2 (a b : Int) : Int := bitsK .xor .u64 a b
def and2 (a b : Int) : Int := bitsK .and .u64 a b
def not2 (a : Int) : Int := bitsK .xor .u64 18446744073709551615 a
def add2 (a b : Int) : Int := IntKind.u64.wrap (a + b)
/-- A word turned to the right. -/
def rot2 (x : Int) (n : Nat) : Int := bitsK .or .u64 (x / 2 ^ n) (IntKind.u64.wrap (x * 2 ^ (64 - n)))

theorem wrap32_range (n : Int) : 0 ≤ IntKind.u64.wrap n ∧ IntKind.u64.wrap n < 18446744073709551616 := by
  simp [IntKind.wrap, IntKind.bits, IntKind.signed]; omega
theorem wrap32 (n : Int) : IntKind.u64.wrap n = n % 18446744073709551616 := by
  simp [IntKind.wrap, IntKind.bits, IntKind.signed]
theorem add2_assoc (a b c : Int) : add2 (add2 a b) c = add2 a (add2 b c) := by
  unfold add2
  rw [wrap32, wrap32, wrap32, wrap32]
  omega
theorem or_comm2 (a b : Int) : bitsK .or .u64 a b = bitsK .or .u64 b a := by
  unfold bitsK
  dsimp only
  rw [BitVec.or_comm]

def sml0 (x : Int) : Int := xor2 (xor2 (rot2 x 1) (rot2 x 8)) (x / 2 ^ 7)
def sml1 (x : Int) : Int := xor2 (xor2 (rot2 x 19) (rot2 x 61)) (x / 2 ^ 6)
def big0 (x : Int) : Int := xor2 (xor2 (rot2 x 28) (rot2 x 34)) (rot2 x 39)
def big1 (x : Int) : Int := xor2 (xor2 (rot2 x 14) (rot2 x 18)) (rot2 x 41)
def chx (e f g : Int) : Int := xor2 (and2 e f) (and2 (not2 e) g)
def mjx (a b c : Int) : Int := xor2 (xor2 (and2 a b) (and2 a c)) (and2 b c)

/-- Word number i of a block's spread, those ahead of it given. -/
def nextW (b ws : List Int) (i : Nat) : Int :=
  if i < 16 then bn (cutB b (8 * i) 8)
  else add2 (add2 (add2 (ws.getD (i - 16) 0) (sml0 (ws.getD (i - 15) 0))) (ws.getD (i - 7) 0)) (sml1 (ws.getD (i - 2) 0))
def schW (b : List Int) : Nat → List Int
  | 0 => []
  | k + 1 => schW b k ++ [nextW b (schW b k) k]
theorem schW_len (b : List Int) : ∀ k, (schW b k).length = k
  | 0 => rfl
  | k + 1 => by simp [schW, schW_len b k]
/-- The rounds' constants. -/
def KK : List Int := [0x428a2f98d728ae22, 0x7137449123ef65cd, 0xb5c0fbcfec4d3b2f, 0xe9b5dba58189dbbc,
  0x3956c25bf348b538, 0x59f111f1b605d019, 0x923f82a4af194f9b, 0xab1c5ed5da6d8118,
  0xd807aa98a3030242, 0x12835b0145706fbe, 0x243185be4ee4b28c, 0x550c7dc3d5ffb4e2,
  0x72be5d74f27b896f, 0x80deb1fe3b1696b1, 0x9bdc06a725c71235, 0xc19bf174cf692694,
  0xe49b69c19ef14ad2, 0xefbe4786384f25e3, 0x0fc19dc68b8cd5b5, 0x240ca1cc77ac9c65,
  0x2de92c6f592b0275, 0x4a7484aa6ea6e483, 0x5cb0a9dcbd41fbd4, 0x76f988da831153b5,
  0x983e5152ee66dfab, 0xa831c66d2db43210, 0xb00327c898fb213f, 0xbf597fc7beef0ee4,
  0xc6e00bf33da88fc2, 0xd5a79147930aa725, 0x06ca6351e003826f, 0x142929670a0e6e70,
  0x27b70a8546d22ffc, 0x2e1b21385c26c926, 0x4d2c6dfc5ac42aed, 0x53380d139d95b3df,
  0x650a73548baf63de, 0x766a0abb3c77b2a8, 0x81c2c92e47edaee6, 0x92722c851482353b,
  0xa2bfe8a14cf10364, 0xa81a664bbc423001, 0xc24b8b70d0f89791, 0xc76c51a30654be30,
  0xd192e819d6ef5218, 0xd69906245565a910, 0xf40e35855771202a, 0x106aa07032bbd1b8,
  0x19a4c116b8d2d0c8, 0x1e376c085141ab53, 0x2748774cdf8eeb99, 0x34b0bcb5e19b48a8,
  0x391c0cb3c5c95a63, 0x4ed8aa4ae3418acb, 0x5b9cca4f7763e373, 0x682e6ff3d6b2b8a3,
  0x748f82ee5defb2fc, 0x78a5636f43172f60, 0x84c87814a1f0ab72, 0x8cc702081a6439ec,
  0x90befffa23631e28, 0xa4506cebde82bde9, 0xbef9a3f7b2c67915, 0xc67178f2e372532b,
  0xca273eceea26619c, 0xd186b8c721c0c207, 0xeada7dd6cde0eb1e, 0xf57d4f7fee6ed178,
  0x06f067aa72176fba, 0x0a637dc5a2c898a6, 0x113f9804bef90dae, 0x1b710b35131c471b,
  0x28db77f523047d84, 0x32caab7b40c72493, 0x3c9ebe0a15c9bebc, 0x431d67c49c100d4c,
  0x4cc5d4becb3e42b6, 0x597f299cfc657e2a, 0x5fcb6fab3ad6faec, 0x6c44198c4a475817]
/-- The state at first. -/
def H0 : List Int := [0x6a09e667f3bcc908, 0xbb67ae8584caa73b, 0x3c6ef372fe94f82b, 0xa54ff53a5f1d36f1, 0x510e527fade682d1, 0x9b05688c2b3e6c1f, 0x1f83d9abfb41bd6b, 0x5be0cd19137e2179]

def tmp1 (s : List Int) (k w : Int) : Int := add2 (add2 (add2 (add2 (s.getD 7 0) (big1 (s.getD 4 0))) (chx (s.getD 4 0) (s.getD 5 0) (s.getD 6 0))) k) w
def tmp2 (s : List Int) : Int := add2 (big0 (s.getD 0 0)) (mjx (s.getD 0 0) (s.getD 1 0) (s.getD 2 0))
/-- A round. -/
def rnd (s : List Int) (k w : Int) : List Int :=
  [add2 (tmp1 s k w) (tmp2 s), s.getD 0 0, s.getD 1 0, s.getD 2 0, add2 (s.getD 3 0) (tmp1 s k w), s.getD 4 0, s.getD 5 0, s.getD 6 0]
def rnds (s ws : List Int) : Nat → List Int
  | 0 => s
  | k + 1 => rnd (rnds s ws k) (KK.getD k 0) (ws.getD k 0)
theorem rnds_len (s ws : List Int) (hs : s.length = 8) : ∀ k, (rnds s ws k).length = 8
  | 0 => hs
  | k + 1 => rfl
/-- The state behind a block. -/
def blkS (s b : List Int) : List Int := (List.range 8).map fun i => add2 (s.getD i 0) ((rnds s (schW b 80) 80).getD i 0)
theorem blkS_len (s b : List Int) : (blkS s b).length = 8 := by simp [blkS]
/-- The state behind so many blocks. -/
def foldS (s p : List Int) : Nat → List Int
  | 0 => s
  | k + 1 => blkS (foldS s p k) (cutB p (128 * k) 128)
theorem foldS_len (s p : List Int) (hs : s.length = 8) : ∀ k, (foldS s p k).length = 8
  | 0 => hs
  | k + 1 => blkS_len _ _
/-- A text, a bit 1, noughts, and how many bits it has. -/
def padS (b : List Int) : List Int := b ++ [128] ++ List.replicate ((239 - b.length % 128) % 128) 0 ++ List.replicate 8 0 ++ be 8 (8 * b.length % 18446744073709551616)
theorem padS_len (b : List Int) : (padS b).length % 128 = 0 := by
  simp [padS, be_length]; omega
/-- THE SUM. -/
def sumS (b : List Int) : List Int := (foldS H0 (padS b) ((padS b).length / 128)).flatMap fun x => be 8 x.toNat

theorem flat_len (xs : List Int) : (xs.flatMap fun x => be 8 x.toNat).length = 8 * xs.length := by
  induction xs with
  | nil => rfl
  | cons x xs ih => simp [be_length, ih]; omega
theorem sumS_len (b : List Int) : (sumS b).length = 64 := by
  unfold sumS
  rw [flat_len, foldS_len _ _ rfl]
theorem sumS_wfd (b : List Int) : wfd (sumS b) := fun x hx => by
  unfold sumS at hx
  obtain ⟨y, _, h⟩ := List.mem_flatMap.1 hx
  exact be_wfd _ _ x h

/-! ### Words turned -/
theorem minb {n : Nat} (h : n ≤ 64) : min n (IntKind.bits .u64) = n := Nat.min_eq_left (by simp [IntKind.bits]; omega)

theorem s_right (x : Int) (n : Nat) (hn : 1 ≤ n ∧ n ≤ 63) : Imm Tryd.prog 124 [u64 x, i64 n] (fun r => r = u64 (rot2 x n)) := by
  have e1 : IntKind.i64.wrap (64 - (n : Int)) = ((64 - n : Nat) : Int) := by rw [wrap_i64 (by omega) (by omega)]; omega
  (refine Imm.of_awp (⟨fun _ => false, fun _ _ => [], fun r => if r == 1 then .take 0 (.take 1 (.take 2 (.take 3 (.take 4 (.take 5 (.take 6 (.take 7 (.take 8 .done)))))))) else .done⟩ : AW.Told) [] Tryd.func124 rfl (by decide) (Nat.le_of_ble_eq_true rfl) ?_; intro _w0 _S0 _E0 _B0; ((conv=>whnf);repeat'((first|(show(_=true→_)∧(_=false→_);first|refine gT ?_|refine gF ?_|refine gS ?_ ?_<;>(intro _h;try contradiction))|(show(_=false→_)∧(_=true→_);first|refine gU ?_|refine gV ?_|refine gZ ?_ ?_<;>(intro _h;try contradiction))|(intro _h;try contradiction)|(show _∧_;refine gA ?_)|fail);all_goals conv=>whnf)))
  refine Ends.imm rfl ?_
  unfold rot2
  rw [e1, Int.toNat_natCast, Int.toNat_natCast, minb (by omega), minb (by omega)]

theorem s_rotl (x : Int) (n : Nat) (hn : 1 ≤ n ∧ n ≤ 63) : Imm Tryd.prog 134 [u64 x, i64 (IntKind.i64.wrap (0 - (n : Int)))] (fun r => r = u64 (rot2 x n)) := by
  have e : bitsK .and .u64 (IntKind.u64.wrap (IntKind.i64.wrap (0 - (n : Int)))) 63 = ((64 - n : Nat) : Int) := by
    have : ∀ k : Fin 64, 1 ≤ k.val → bitsK .and .u64 (IntKind.u64.wrap (IntKind.i64.wrap (0 - (k.val : Int)))) 63 = ((64 - k.val : Nat) : Int) := by decide
    exact this ⟨n, by omega⟩ hn.1
  have e2 : IntKind.u64.wrap (64 - ((64 - n : Nat) : Int)) = (n : Int) := by rw [wrap_u64 (by omega) (by omega)]; omega
  have e3 : 0 ≤ IntKind.u64.wrap (64 - bitsK .and .u64 (IntKind.u64.wrap (IntKind.i64.wrap (0 - (n : Int)))) 63) := by rw [e, e2]; omega
  (refine Imm.of_awp told0 [] Tryd.func134 rfl (by decide) (Nat.le_of_ble_eq_true rfl) ?_; intro _w0 _S0 _E0 _B0; ((conv=>whnf);repeat'((first|(show(_=true→_)∧(_=false→_);first|refine gT ?_|refine gF ?_|refine gS ?_ ?_<;>(intro _h;try contradiction))|(show(_=false→_)∧(_=true→_);first|refine gU ?_|refine gV ?_|refine gZ ?_ ?_<;>(intro _h;try contradiction))|(intro _h;try contradiction)|(show _∧_;refine gA ?_)|fail);all_goals conv=>whnf)))
  refine Ends.imm rfl ?_
  rw [e, e2, Int.toNat_natCast, Int.toNat_natCast, minb (by omega), minb (by omega), or_comm2]
  rfl

theorem s_turn (x : Int) (n : Nat) (hn : 1 ≤ n ∧ n ≤ 63) : Imm Tryd.prog 132 [u64 x, i64 n] (fun r => r = u64 (rot2 x n)) := by
  (refine Imm.of_awp told0 [] Tryd.func132 rfl (by decide) (Nat.le_of_ble_eq_true rfl) ?_; intro _w0 _S0 _E0 _B0; ((conv=>whnf);repeat'((first|(show(_=true→_)∧(_=false→_);first|refine nTt ?_|refine nFf ?_|refine gS ?_ ?_<;>(intro _h;try contradiction))|(show(_=false→_)∧(_=true→_);first|refine nU ?_|refine nV ?_|refine gZ ?_ ?_<;>(intro _h;try contradiction))|(intro _h;try contradiction)|(show _∧_;refine gA ?_)|fail);all_goals conv=>whnf)))
  refine acallI (s_rotl x n hn) rfl fun r hr => ?_
  subst hr
  ((conv=>whnf);repeat'((first|(show(_=true→_)∧(_=false→_);first|refine nTt ?_|refine nFf ?_|refine gS ?_ ?_<;>(intro _h;try contradiction))|(show(_=false→_)∧(_=true→_);first|refine nU ?_|refine nV ?_|refine gZ ?_ ?_<;>(intro _h;try contradiction))|(intro _h;try contradiction)|(show _∧_;refine gA ?_)|fail);all_goals conv=>whnf))
  exact Ends.imm rfl rfl

def toldW : AW.Told := ⟨fun _ => false, fun _ _ => [], fun r =>
  if r == 14 || r == 15 then .take 0 (.take 1 (.take 2 (.take 3 (.take 4 (.take 6 (.take 7 (.take 8 (.take 9 (.take 10 (.take 13 (.take 14 (.take 15 (.take 16 (.take 17 (.take 18 (.one 5 (.one 11 (.take 12 (.take 19 (.take 20 .done))))))))))))))))))))
  else if r == 16 then .take 0 (.take 1 (.take 2 (.take 3 (.take 4 (.take 6 (.take 8 (.take 9 (.take 10 (.take 11 (.take 14 (.two 5 (.take 7 (.one 12 (.take 13 (.take 15 (.one 16 (.one 17 (.take 18 .done))))))) 12 (.one 5 (.take 7 (.take 13 (.take 15 (.one 16 (.one 17 (.take 18 .done))))))))))))))))))
  else .done⟩


theorem s_words (b : List Int) (hb : wfd b) (hl : b.length = 128) : Imm Tryd.prog 122 [.d (byt b)] (fun r => r = .d (wd (schW b 80))) := by
  (refine Imm.of_awp toldW [2] Tryd.func122 rfl (by decide) (Nat.le_of_ble_eq_true rfl) ?_; intro _w0 _S0 _E0 _B0; ((conv=>whnf);repeat'((first|(show(_=true→_)∧(_=false→_);first|refine nTt ?_|refine nFf ?_|refine gS ?_ ?_<;>(intro _h;try contradiction))|(show(_=false→_)∧(_=true→_);first|refine nU ?_|refine nV ?_|refine gZ ?_ ?_<;>(intro _h;try contradiction))|(intro _h;try contradiction)|(show _∧_;refine gA ?_)|fail);all_goals conv=>whnf)))
  refine AWp.adopt 3 (.row .u64 117 []) rfl rfl ?_
  refine aloop (T := toldW) (ι := Nat) (fun k => [(0, .d (byt b)), (3, .own 0), (4, i64 k)]) (fun k => [(0, .row .u64 117 (schW b k))]) 96 1
    (fun k => 16 - k) (fun k => k ≤ 16)
    ⟨0, [0], rfl, by omega, by (refine ⟨rfl, rfl, ?_, ?_⟩ <;> repeat' (first | exact True.intro | rfl | decide | (refine And.intro ?_ ?_)))⟩ ?_
  intro k hk
  have hsl := schW_len b k
  rcases Nat.lt_or_ge k 16 with h16 | h16
  · have hcl : (cutB b (8 * k) 8).length = 8 := cutB_len (by omega)
    have hcw : wfd (cutB b (8 * k) 8) := hb.cut _ _
    ((conv=>whnf);repeat'((first|(show(_=true→_)∧(_=false→_);first|refine gT ?_|refine gF ?_|refine gS ?_ ?_<;>(intro _h;try contradiction))|(show(_=false→_)∧(_=true→_);first|refine gU ?_|refine gV ?_|refine gZ ?_ ?_<;>(intro _h;try contradiction))|(intro _h;try contradiction)|(show _∧_;refine gA ?_)|fail);all_goals conv=>whnf))
    refine aloop (T := toldW) (ι := Nat) (fun j => [(0, .d (byt b)), (3, .own 0), (4, i64 k), (5, u64 (bn ((cutB b (8 * k) 8).take j))), (6, i64 j)]) (fun j => [(0, .row .u64 117 (schW b k))]) 96 1
      (fun j => 8 - j) (fun j => j ≤ 8)
      ⟨0, [0], rfl, by omega, by (refine ⟨rfl, rfl, ?_, ?_⟩ <;> repeat' (first | exact True.intro | rfl | decide | (refine And.intro ?_ ?_)))⟩ ?_
    intro j hj
    have hlt : bn ((cutB b (8 * k) 8).take j) < ((256 ^ j : Nat) : Int) := by
      have := bn_lt (hcw.take j)
      rwa [List.length_take, Nat.min_eq_left (by omega)] at this
    have hnn := bn_nonneg (hcw.take j)
    rcases Nat.lt_or_ge j 8 with h4 | h4
    · have hp : 256 ^ j ≤ 256 ^ 7 := Nat.pow_le_pow_right (by omega) (by omega)
      have est : bn ((cutB b (8 * k) 8).take (j + 1)) = bn ((cutB b (8 * k) 8).take j) * 256 + b.getD (8 * k + j) 0 := by
        rw [take_snoc (by omega), bn_snoc, cutB_get _ _ _ _ h4]
      have hg := hb.get (8 * k + j)
      have e1 : IntKind.i64.wrap (IntKind.i64.wrap (8 * (k : Int)) + j) = ((8 * k + j : Nat) : Int) := by rw [wrap_i64 (n := 8 * (k : Int)) (by omega) (by omega), wrap_i64 (by omega) (by omega)]; omega
      ((conv=>whnf);repeat'((first|(show(_=true→_)∧(_=false→_);first|refine gT ?_|refine gF ?_|refine gS ?_ ?_<;>(intro _h;try contradiction))|(show(_=false→_)∧(_=true→_);first|refine gU ?_|refine gV ?_|refine gZ ?_ ?_<;>(intro _h;try contradiction))|(intro _h;try contradiction)|(show _∧_;refine gA ?_)|fail);all_goals conv=>whnf))
      refine ⟨j + 1, [0], by omega, by omega, rfl, ?_⟩
      (refine ⟨rfl, rfl, ?_, ?_⟩ <;> repeat' (first | exact True.intro | rfl | decide | (refine And.intro ?_ ?_)))
      · show AVal.d (.int .u64 _) = AVal.d (.int .u64 _)
        rw [e1, Int.toNat_natCast, est, wrap_u64 (n := bn _ * 256) (by omega) (by omega), wrap_u64 (n := b.getD (8 * k + j) 0) (by omega) (by omega), wrap_u64 (by omega) (by omega)]
      · exact di (by rw [wrap_i64 (by omega) (by omega)]; rfl)
    · have hj4 : j = 8 := by omega
      have hall : (cutB b (8 * k) 8).take j = cutB b (8 * k) 8 := List.take_of_length_le (by omega)
      rw [hall]
      ((conv=>whnf);repeat'((first|(show(_=true→_)∧(_=false→_);first|refine gT ?_|refine gF ?_|refine gS ?_ ?_<;>(intro _h;try contradiction))|(show(_=false→_)∧(_=true→_);first|refine gU ?_|refine gV ?_|refine gZ ?_ ?_<;>(intro _h;try contradiction))|(intro _h;try contradiction)|(show _∧_;refine gA ?_)|fail);all_goals conv=>whnf))
      refine ⟨by rw [hsl]; show (k + 1) * 8 ≤ 140737488355328; omega, ?_⟩
      ((conv=>whnf);repeat'((first|(show(_=true→_)∧(_=false→_);first|refine gT ?_|refine gF ?_|refine gS ?_ ?_<;>(intro _h;try contradiction))|(show(_=false→_)∧(_=true→_);first|refine gU ?_|refine gV ?_|refine gZ ?_ ?_<;>(intro _h;try contradiction))|(intro _h;try contradiction)|(show _∧_;refine gA ?_)|fail);all_goals conv=>whnf))
      refine ⟨k + 1, [0], by omega, by omega, rfl, ?_⟩
      (refine ⟨rfl, rfl, ?_, ?_⟩ <;> repeat' (first | exact True.intro | rfl | decide | (refine And.intro ?_ ?_)))
      · exact di (by rw [wrap_i64 (by omega) (by omega)]; rfl)
      · show some (Ob.row .u64 _ _) = some (Ob.row .u64 _ _)
        simp only [schW, nextW]
        rw [if_pos h16]
  · have hk16 : k = 16 := by omega
    subst hk16
    ((conv=>whnf);repeat'((first|(show(_=true→_)∧(_=false→_);first|refine gT ?_|refine gF ?_|refine gS ?_ ?_<;>(intro _h;try contradiction))|(show(_=false→_)∧(_=true→_);first|refine gU ?_|refine gV ?_|refine gZ ?_ ?_<;>(intro _h;try contradiction))|(intro _h;try contradiction)|(show _∧_;refine gA ?_)|fail);all_goals conv=>whnf))
    refine aloop (T := toldW) (ι := Nat) (fun k => [(3, .own 0), (7, i64 k)]) (fun k => [(0, .row .u64 117 (schW b k))]) 96 1
      (fun k => 80 - k) (fun k => 16 ≤ k ∧ k ≤ 80)
      ⟨16, [0], rfl, by omega, by (refine ⟨rfl, rfl, ?_, ?_⟩ <;> repeat' (first | exact True.intro | rfl | decide | (refine And.intro ?_ ?_)))⟩ ?_
    intro k ⟨hk1, hk2⟩
    have hsl := schW_len b k
    rcases Nat.lt_or_ge k 80 with h64 | h64
    · have e15 : IntKind.i64.wrap ((k : Int) - 15) = (k - 15 : Nat) := by rw [wrap_i64 (by omega) (by omega)]; omega
      have e2 : IntKind.i64.wrap ((k : Int) - 2) = (k - 2 : Nat) := by rw [wrap_i64 (by omega) (by omega)]; omega
      have e16 : IntKind.i64.wrap ((k : Int) - 16) = (k - 16 : Nat) := by rw [wrap_i64 (by omega) (by omega)]; omega
      have e7 : IntKind.i64.wrap ((k : Int) - 7) = (k - 7 : Nat) := by rw [wrap_i64 (by omega) (by omega)]; omega
      ((conv=>whnf);repeat'((first|(show(_=true→_)∧(_=false→_);first|refine gT ?_|refine gF ?_|refine gS ?_ ?_<;>(intro _h;try contradiction))|(show(_=false→_)∧(_=true→_);first|refine gU ?_|refine gV ?_|refine gZ ?_ ?_<;>(intro _h;try contradiction))|(intro _h;try contradiction)|(show _∧_;refine gA ?_)|fail);all_goals conv=>whnf))
      rw [e15, Int.toNat_natCast]
      refine acallI (s_right ((schW b k).getD (k - 15) 0) 1 (by omega)) rfl fun r hr => ?_
      subst hr
      ((conv=>whnf);repeat'((first|(show(_=true→_)∧(_=false→_);first|refine gT ?_|refine gF ?_|refine gS ?_ ?_<;>(intro _h;try contradiction))|(show(_=false→_)∧(_=true→_);first|refine gU ?_|refine gV ?_|refine gZ ?_ ?_<;>(intro _h;try contradiction))|(intro _h;try contradiction)|(show _∧_;refine gA ?_)|fail);all_goals conv=>whnf))
      refine acallI (s_right ((schW b k).getD (k - 15) 0) 8 (by omega)) rfl fun r hr => ?_
      subst hr
      ((conv=>whnf);repeat'((first|(show(_=true→_)∧(_=false→_);first|refine gT ?_|refine gF ?_|refine gS ?_ ?_<;>(intro _h;try contradiction))|(show(_=false→_)∧(_=true→_);first|refine gU ?_|refine gV ?_|refine gZ ?_ ?_<;>(intro _h;try contradiction))|(intro _h;try contradiction)|(show _∧_;refine gA ?_)|fail);all_goals conv=>whnf))
      rw [e2, Int.toNat_natCast]
      refine acallI (s_right ((schW b k).getD (k - 2) 0) 19 (by omega)) rfl fun r hr => ?_
      subst hr
      ((conv=>whnf);repeat'((first|(show(_=true→_)∧(_=false→_);first|refine gT ?_|refine gF ?_|refine gS ?_ ?_<;>(intro _h;try contradiction))|(show(_=false→_)∧(_=true→_);first|refine gU ?_|refine gV ?_|refine gZ ?_ ?_<;>(intro _h;try contradiction))|(intro _h;try contradiction)|(show _∧_;refine gA ?_)|fail);all_goals conv=>whnf))
      refine acallI (s_right ((schW b k).getD (k - 2) 0) 61 (by omega)) rfl fun r hr => ?_
      subst hr
      ((conv=>whnf);repeat'((first|(show(_=true→_)∧(_=false→_);first|refine gT ?_|refine gF ?_|refine gS ?_ ?_<;>(intro _h;try contradiction))|(show(_=false→_)∧(_=true→_);first|refine gU ?_|refine gV ?_|refine gZ ?_ ?_<;>(intro _h;try contradiction))|(intro _h;try contradiction)|(show _∧_;refine gA ?_)|fail);all_goals conv=>whnf))
      refine And.intro ?_ ?_
      all_goals
        ((conv=>whnf);repeat'((first|(show(_=true→_)∧(_=false→_);first|refine gT ?_|refine gF ?_|refine gS ?_ ?_<;>(intro _h;try contradiction))|(show(_=false→_)∧(_=true→_);first|refine gU ?_|refine gV ?_|refine gZ ?_ ?_<;>(intro _h;try contradiction))|(intro _h;try contradiction)|(show _∧_;refine gA ?_)|fail);all_goals conv=>whnf))
        refine ⟨by rw [hsl]; show (k + 1) * 8 ≤ 140737488355328; omega, ?_⟩
        ((conv=>whnf);repeat'((first|(show(_=true→_)∧(_=false→_);first|refine gT ?_|refine gF ?_|refine gS ?_ ?_<;>(intro _h;try contradiction))|(show(_=false→_)∧(_=true→_);first|refine gU ?_|refine gV ?_|refine gZ ?_ ?_<;>(intro _h;try contradiction))|(intro _h;try contradiction)|(show _∧_;refine gA ?_)|fail);all_goals conv=>whnf))
        refine ⟨k + 1, [0], by omega, by omega, rfl, ?_⟩
        (refine ⟨rfl, rfl, ?_, ?_⟩ <;> repeat' (first | exact True.intro | rfl | decide | (refine And.intro ?_ ?_)))
        · exact di (by rw [wrap_i64 (by omega) (by omega)]; rfl)
        · show some (Ob.row .u64 _ _) = some (Ob.row .u64 _ _)
          rw [e16, e7, Int.toNat_natCast, Int.toNat_natCast]
          simp only [schW, nextW]
          rw [if_neg (by omega)]
          rfl
    · have hk64 : k = 80 := by omega
      obtain ⟨ws, hws⟩ : ∃ ws, ws = schW b k := ⟨_, rfl⟩
      rw [← hws] at hsl ⊢
      ((conv=>whnf);repeat'((first|(show(_=true→_)∧(_=false→_);first|refine gT ?_|refine gF ?_|refine gS ?_ ?_<;>(intro _h;try contradiction))|(show(_=false→_)∧(_=true→_);first|refine gU ?_|refine gV ?_|refine gZ ?_ ?_<;>(intro _h;try contradiction))|(intro _h;try contradiction)|(show _∧_;refine gA ?_)|fail);all_goals conv=>whnf))
      refine Ends.imm rfl ?_
      rw [hws, hk64]
end Go.Proofs.YtniaeiikdgbnfaaDoor.R.L
