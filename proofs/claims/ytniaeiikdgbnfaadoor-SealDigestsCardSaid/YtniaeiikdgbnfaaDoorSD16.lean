/- Parts L3, L4, L5, L6, L8. No condition of its own. -/
import Derived.Test.YtniaeiikdgbnfaaDoorSD15
import Derived.Test.YtniaeiikdgbnfaaDoorSD10
import Derived.Test.YtniaeiikdgbnfaaDoorSD6

namespace Go.Proofs.YtniaeiikdgbnfaaDoor.R.L
open Go Go.RowKit Go.Proofs Go.Proofs.YtniaeiikdgbnfaaDoor.AW
set_option linter.unusedSectionVars false
variable [Globs]
set_option maxRecDepth 100000
set_option linter.unusedSimpArgs false
set_option linter.unusedVariables false
set_option maxHeartbeats 4000000

def toldSch : AW.Told := ⟨fun _ => false, fun _ _ => [], fun r =>
  if r == 13 then .take 0 (.take 1 (.take 2 (.take 3 (.take 4 (.take 5 (.take 6 (.take 7 (.take 8 (.take 9 .done)))))))))
  else if r == 14 then .take 0 (.take 1 (.take 2 (.take 3 (.take 4 (.take 5 (.take 7 (.take 10 (.take 11 (.take 14 (.take 15 (.take 16 (.take 17 (.take 19 (.take 21 (.take 24 (.take 25 (.one 6 (.one 8 (.take 9 (.take 12 (.take 13 (.take 18 (.one 20 (.one 22 (.take 23 (.take 26 (.take 27 (.take 28 (.one 29 .done)))))))))))))))))))))))))))))
  else .done⟩

theorem or2_step (x c : Int) (hx : 0 ≤ x) (hx2 : x < 72057594037927936) (hc : 0 ≤ c) (hc2 : c < 256) :
    bitsK .or .u64 (IntKind.u64.wrap (x * 2 ^ (min (8 : Int).toNat (IntKind.bits .u64)))) (IntKind.u64.wrap c) = x * 256 + c := by
  obtain ⟨a, rfl⟩ : ∃ a : Nat, x = a := ⟨x.toNat, by omega⟩
  obtain ⟨d, rfl⟩ : ∃ a : Nat, c = a := ⟨c.toNat, by omega⟩
  have e0 : (a : Int) * 2 ^ (min (8 : Int).toNat (IntKind.bits .u64)) = ((a * 256 : Nat) : Int) := by
    rw [show min (8 : Int).toNat (IntKind.bits .u64) = 8 from rfl]; push_cast; rfl
  rw [e0, wrap_u64 (by omega) (by omega), wrap_u64 (by omega) (by omega)]
  have e4 : a * 256 ||| d = a * 256 + d := by
    have := Nat.shiftLeft_add_eq_or_of_lt (show d < 2 ^ 8 by omega) a
    rw [Nat.shiftLeft_eq] at this
    exact this.symm
  have e6 : (BitVec.ofInt 64 ((a * 256 : Nat) : Int) ||| BitVec.ofInt 64 (d : Int)).toNat = a * 256 ||| d := by
    simp only [BitVec.ofInt_natCast, BitVec.toNat_or, BitVec.toNat_ofNat]
    rw [Nat.mod_eq_of_lt (by omega), Nat.mod_eq_of_lt (by omega)]
  show IntKind.u64.wrap ((BitVec.ofInt 64 ((a * 256 : Nat) : Int) ||| BitVec.ofInt 64 (d : Int)).toNat : Int) = _
  rw [e6, e4, wrap_u64 (by omega) (by omega)]
  push_cast
  rfl


theorem ones_ok (st : List (Nat × Ob)) : ∀ ns : List Int, ((flatDs (ns.map (D.int .u64))).map AVal.d).all (oneV st) = true
  | [] => rfl
  | n :: ns => by
    have := ones_ok st ns
    simp only [List.map_cons, flatDs, flatD, List.map_append, List.all_append, this, Bool.and_true]
    rfl

theorem s_sched (b : List Int) (hb : wfd b) (hl : b.length = 128) : Imm Tryd.prog 131 [.d (byt b)] (fun r => r = .d (.agg ((schW b 80).map (D.int .u64)))) := by
  (refine Imm.of_awp toldSch [] Tryd.func131 rfl (by decide) (Nat.le_of_ble_eq_true rfl) ?_; intro _w0 _S0 _E0 _B0; ((conv=>whnf);repeat'((first|(show(_=true→_)∧(_=false→_);first|refine nTt ?_|refine nFf ?_|refine gS ?_ ?_<;>(intro _h;try contradiction))|(show(_=false→_)∧(_=true→_);first|refine nU ?_|refine nV ?_|refine gZ ?_ ?_<;>(intro _h;try contradiction))|(intro _h;try contradiction)|(show _∧_;refine gA ?_)|fail);all_goals conv=>whnf)))
  refine aloop (T := toldSch) (ι := Nat) (fun k => [(0, .d (byt b)), (2, .optr 0 0), (9, i64 k)]) (fun k => [(0, .row .u64 154 (schW b k ++ List.replicate (80 - k) 0))]) 77 1
    (fun k => 16 - k) (fun k => k ≤ 16)
    ⟨0, [0], rfl, by omega, by (refine ⟨rfl, rfl, ?_, ?_⟩ <;> repeat' (first | exact True.intro | rfl | decide | (refine And.intro ?_ ?_)))⟩ ?_
  intro k hk
  have hsl := schW_len b k
  rcases Nat.lt_or_ge k 16 with h16 | h16
  · obtain ⟨ys, hys⟩ : ∃ ys, ys = cutB b (8 * k) 8 := ⟨_, rfl⟩
    have hyl : ys.length = 8 := by rw [hys]; exact cutB_len (by omega)
    have hyw : wfd ys := by rw [hys]; exact hb.cut _ _
    have e1 : IntKind.i64.wrap (8 * (k : Int)) = ((8 * k : Nat) : Int) := by rw [wrap_i64 (by omega) (by omega)]; omega
    have e2 : IntKind.i64.wrap (IntKind.i64.wrap (8 * (k : Int)) + 8) = ((8 * k + 8 : Nat) : Int) := by rw [e1, wrap_i64 (by omega) (by omega)]; omega
    have erep : List.replicate (80 - k) (0 : Int) = 0 :: List.replicate (79 - k) 0 := by rw [show 80 - k = (79 - k) + 1 by omega, List.replicate_succ]
    ((conv=>whnf);repeat'((first|(show(_=true→_)∧(_=false→_);first|refine gT ?_|refine gF ?_|refine gS ?_ ?_<;>(intro _h;try contradiction))|(show(_=false→_)∧(_=true→_);first|refine gU ?_|refine gV ?_|refine gZ ?_ ?_<;>(intro _h;try contradiction))|(intro _h;try contradiction)|(show _∧_;refine gA ?_)|fail);all_goals conv=>whnf))
    refine aloop (T := toldSch) (ι := Nat) (fun j => [(0, .d (byt b)), (2, .optr 0 0), (3, i64 k), (9, i64 k), (18, .d (byt ys)), (19, i64 8), (20, i64 j)]) (fun j => [(0, .row .u64 154 (schW b k ++ bn (ys.take j) :: List.replicate (79 - k) 0))]) 77 1
      (fun j => 8 - j) (fun j => j ≤ 8)
      ⟨0, [0], rfl, by omega, by
        (refine ⟨rfl, rfl, ?_, ?_⟩ <;> repeat' (first | exact True.intro | rfl | decide | (refine And.intro ?_ ?_)))
        · show AVal.d (.ints .u8 _) = AVal.d (.ints .u8 ys)
          rw [e2, e1, hys]; rfl
        · show AVal.d (.int .i64 _) = AVal.d (.int .i64 8)
          rw [e2, e1]
          have : ((b.take ((8 * k + 8 : Nat) : Int).toNat).drop ((8 * k : Nat) : Int).toNat).length = 8 := by
            rw [Int.toNat_natCast, Int.toNat_natCast]; simp; omega
          rw [this]; rfl
        · show some (Ob.row .u64 _ _) = some (Ob.row .u64 _ _)
          rw [erep]; rfl⟩ ?_
    intro j hj
    have hlt : bn (ys.take j) < ((256 ^ j : Nat) : Int) := by
      have := bn_lt (hyw.take j)
      rwa [List.length_take, Nat.min_eq_left (by omega)] at this
    have hnn := bn_nonneg (hyw.take j)
    have hrl : (schW b k ++ bn (ys.take j) :: List.replicate (79 - k) 0).length = 80 := by simp [hsl]; omega
    rcases Nat.lt_or_ge j 8 with h4 | h4
    · have hp : 256 ^ j ≤ 256 ^ 7 := Nat.pow_le_pow_right (by omega) (by omega)
      have est : bn (ys.take (j + 1)) = bn (ys.take j) * 256 + ys.getD j 0 := by rw [take_snoc (by omega), bn_snoc]
      have hg := hyw.get j
      ((conv=>whnf);repeat'((first|(show(_=true→_)∧(_=false→_);first|refine gT ?_|refine gF ?_|refine gS ?_ ?_<;>(intro _h;try contradiction))|(show(_=false→_)∧(_=true→_);first|refine gU ?_|refine gV ?_|refine gZ ?_ ?_<;>(intro _h;try contradiction))|(intro _h;try contradiction)|(show _∧_;refine gA ?_)|fail);all_goals conv=>whnf))
      refine ⟨j + 1, [0], by omega, by omega, rfl, ?_⟩
      (refine ⟨rfl, rfl, ?_, ?_⟩ <;> repeat' (first | exact True.intro | rfl | decide | (refine And.intro ?_ ?_)))
      · exact di (by rw [wrap_i64 (by omega) (by omega)]; rfl)
      · show some (Ob.row .u64 _ _) = some (Ob.row .u64 _ _)
        rw [Nat.zero_add, Int.toNat_natCast, Int.toNat_natCast]
        have hat := app_at (schW b k) (List.replicate (79 - k) 0) (bn (ys.take j))
        rw [hsl] at hat
        rw [hat, or2_step _ _ hnn (by omega) hg.1 (by omega), est]
        have := app_set (schW b k) (List.replicate (79 - k) 0) (bn (ys.take j)) (bn (ys.take j) * 256 + ys.getD j 0)
        rw [hsl] at this
        rw [this]
    · have hj4 : j = 8 := by omega
      have hall : ys.take j = ys := List.take_of_length_le (by omega)
      rw [hall]
      ((conv=>whnf);repeat'((first|(show(_=true→_)∧(_=false→_);first|refine gT ?_|refine gF ?_|refine gS ?_ ?_<;>(intro _h;try contradiction))|(show(_=false→_)∧(_=true→_);first|refine gU ?_|refine gV ?_|refine gZ ?_ ?_<;>(intro _h;try contradiction))|(intro _h;try contradiction)|(show _∧_;refine gA ?_)|fail);all_goals conv=>whnf))
      refine ⟨k + 1, [0], by omega, by omega, rfl, ?_⟩
      (refine ⟨rfl, rfl, ?_, ?_⟩ <;> repeat' (first | exact True.intro | rfl | decide | (refine And.intro ?_ ?_)))
      · exact di (by rw [wrap_i64 (by omega) (by omega)]; rfl)
      · show some (Ob.row .u64 _ _) = some (Ob.row .u64 _ _)
        simp only [schW, nextW]
        rw [if_pos h16, ← hys, List.append_assoc, show 80 - (k + 1) = 79 - k by omega]
        rfl
  · have hk16 : k = 16 := by omega
    subst hk16
    ((conv=>whnf);repeat'((first|(show(_=true→_)∧(_=false→_);first|refine gT ?_|refine gF ?_|refine gS ?_ ?_<;>(intro _h;try contradiction))|(show(_=false→_)∧(_=true→_);first|refine gU ?_|refine gV ?_|refine gZ ?_ ?_<;>(intro _h;try contradiction))|(intro _h;try contradiction)|(show _∧_;refine gA ?_)|fail);all_goals conv=>whnf))
    refine aloop (T := toldSch) (ι := Nat) (fun k => [(2, .optr 0 0), (6, i64 k)]) (fun k => [(0, .row .u64 154 (schW b k ++ List.replicate (80 - k) 0))]) 77 1
      (fun k => 80 - k) (fun k => 16 ≤ k ∧ k ≤ 80)
      ⟨16, [0], rfl, by omega, by (refine ⟨rfl, rfl, ?_, ?_⟩ <;> repeat' (first | exact True.intro | rfl | decide | (refine And.intro ?_ ?_)))⟩ ?_
    intro k ⟨hk1, hk2⟩
    have hsl := schW_len b k
    have hrl : (schW b k ++ List.replicate (80 - k) 0).length = 80 := by simp [hsl]; omega
    rcases Nat.lt_or_ge k 80 with h64 | h64
    · have e15 : IntKind.i64.wrap ((k : Int) - 15) = (k - 15 : Nat) := by rw [wrap_i64 (by omega) (by omega)]; omega
      have e2 : IntKind.i64.wrap ((k : Int) - 2) = (k - 2 : Nat) := by rw [wrap_i64 (by omega) (by omega)]; omega
      have e16 : IntKind.i64.wrap ((k : Int) - 16) = (k - 16 : Nat) := by rw [wrap_i64 (by omega) (by omega)]; omega
      have e7 : IntKind.i64.wrap ((k : Int) - 7) = (k - 7 : Nat) := by rw [wrap_i64 (by omega) (by omega)]; omega
      have g : ∀ (z : Int) (j : Nat), z = (j : Nat) → j < k → (schW b k ++ List.replicate (80 - k) 0).getD (0 + z.toNat) 0 = (schW b k).getD j 0 := fun z j hz hj => by
        rw [hz, Int.toNat_natCast, Nat.zero_add, app_get _ _ (by omega)]
      have g15 := g _ _ e15 (by omega)
      have g2 := g _ _ e2 (by omega)
      have g16 := g _ _ e16 (by omega)
      have g7 := g _ _ e7 (by omega)
      ((conv=>whnf);repeat'((first|(show(_=true→_)∧(_=false→_);first|refine gT ?_|refine gF ?_|refine gS ?_ ?_<;>(intro _h;try contradiction))|(show(_=false→_)∧(_=true→_);first|refine gU ?_|refine gV ?_|refine gZ ?_ ?_<;>(intro _h;try contradiction))|(intro _h;try contradiction)|(show _∧_;refine gA ?_)|fail);all_goals conv=>whnf))
      refine acallI (s_turn ((schW b k).getD (k - 15) 0) 1 (by omega)) (by rw [← g15]; rfl) fun r hr => ?_
      subst hr
      ((conv=>whnf);repeat'((first|(show(_=true→_)∧(_=false→_);first|refine gT ?_|refine gF ?_|refine gS ?_ ?_<;>(intro _h;try contradiction))|(show(_=false→_)∧(_=true→_);first|refine gU ?_|refine gV ?_|refine gZ ?_ ?_<;>(intro _h;try contradiction))|(intro _h;try contradiction)|(show _∧_;refine gA ?_)|fail);all_goals conv=>whnf))
      refine acallI (s_turn ((schW b k).getD (k - 15) 0) 8 (by omega)) (by rw [← g15]; rfl) fun r hr => ?_
      subst hr
      ((conv=>whnf);repeat'((first|(show(_=true→_)∧(_=false→_);first|refine gT ?_|refine gF ?_|refine gS ?_ ?_<;>(intro _h;try contradiction))|(show(_=false→_)∧(_=true→_);first|refine gU ?_|refine gV ?_|refine gZ ?_ ?_<;>(intro _h;try contradiction))|(intro _h;try contradiction)|(show _∧_;refine gA ?_)|fail);all_goals conv=>whnf))
      refine acallI (s_turn ((schW b k).getD (k - 2) 0) 19 (by omega)) (by rw [← g2]; rfl) fun r hr => ?_
      subst hr
      ((conv=>whnf);repeat'((first|(show(_=true→_)∧(_=false→_);first|refine gT ?_|refine gF ?_|refine gS ?_ ?_<;>(intro _h;try contradiction))|(show(_=false→_)∧(_=true→_);first|refine gU ?_|refine gV ?_|refine gZ ?_ ?_<;>(intro _h;try contradiction))|(intro _h;try contradiction)|(show _∧_;refine gA ?_)|fail);all_goals conv=>whnf))
      refine acallI (s_turn ((schW b k).getD (k - 2) 0) 61 (by omega)) (by rw [← g2]; rfl) fun r hr => ?_
      subst hr
      ((conv=>whnf);repeat'((first|(show(_=true→_)∧(_=false→_);first|refine gT ?_|refine gF ?_|refine gS ?_ ?_<;>(intro _h;try contradiction))|(show(_=false→_)∧(_=true→_);first|refine gU ?_|refine gV ?_|refine gZ ?_ ?_<;>(intro _h;try contradiction))|(intro _h;try contradiction)|(show _∧_;refine gA ?_)|fail);all_goals conv=>whnf))
      refine ⟨k + 1, [0], by omega, by omega, rfl, ?_⟩
      (refine ⟨rfl, rfl, ?_, ?_⟩ <;> repeat' (first | exact True.intro | rfl | decide | (refine And.intro ?_ ?_)))
      · exact di (by rw [wrap_i64 (by omega) (by omega)]; rfl)
      · show some (Ob.row .u64 _ _) = some (Ob.row .u64 _ _)
        rw [g15, g2, g16, g7, Nat.zero_add, Int.toNat_natCast]
        have erep : List.replicate (80 - k) (0 : Int) = 0 :: List.replicate (79 - k) 0 := by rw [show 80 - k = (79 - k) + 1 by omega, List.replicate_succ]
        rw [erep]
        have hset := fun y => app_set (schW b k) (List.replicate (79 - k) 0) 0 y
        rw [hsl] at hset
        rw [hset]
        simp only [schW, nextW]
        rw [if_neg (by omega), List.append_assoc, show 80 - (k + 1) = 79 - k by omega]
        rfl
    · have hk64 : k = 80 := by omega
      obtain ⟨ws, hws⟩ : ∃ ws, ws = schW b k ++ List.replicate (80 - k) 0 := ⟨_, rfl⟩
      have hwe : ws = schW b 80 := by rw [hws, hk64]; simp
      rw [← hws] at hrl ⊢
      have hz : (szT Tryd.prog 154).getD 0 = 80 := rfl
      have hw2 : (ws.drop 0).take ((szT Tryd.prog 154).getD 0) = ws := by rw [hz, List.drop_zero]; exact List.take_of_length_le (by omega)
      ((conv=>whnf);repeat'((first|(show(_=true→_)∧(_=false→_);first|refine gT ?_|refine gF ?_|refine gS ?_ ?_<;>(intro _h;try contradiction))|(show(_=false→_)∧(_=true→_);first|refine gU ?_|refine gV ?_|refine gZ ?_ ?_<;>(intro _h;try contradiction))|(intro _h;try contradiction)|(show _∧_;refine gA ?_)|fail);all_goals conv=>whnf))
      refine ⟨ones_ok _ _, ?_⟩
      conv => whnf
      refine ⟨ws, by rw [hw2], by rw [hrl]; rfl, by omega, by omega, ?_⟩
      ((conv=>whnf);repeat'((first|(show(_=true→_)∧(_=false→_);first|refine gT ?_|refine gF ?_|refine gS ?_ ?_<;>(intro _h;try contradiction))|(show(_=false→_)∧(_=true→_);first|refine gU ?_|refine gV ?_|refine gZ ?_ ?_<;>(intro _h;try contradiction))|(intro _h;try contradiction)|(show _∧_;refine gA ?_)|fail);all_goals conv=>whnf))
      have e : ws.take 0 ++ ws ++ ws.drop (0 + ws.length) = ws := by simp
      refine Ends.imm rfl ?_
      rw [e, hw2, hwe]

/-- Eight words, as a struct's parts. -/
def st8 (s : List Int) : List AVal := [u64 (s.getD 0 0), u64 (s.getD 1 0), u64 (s.getD 2 0), u64 (s.getD 3 0), u64 (s.getD 4 0), u64 (s.getD 5 0), u64 (s.getD 6 0), u64 (s.getD 7 0)]
/-- A sum under way. -/
def hashC (s : List Int) (rest : AVal) (cnt : Int) : List AVal := [u64 (s.getD 0 0), u64 (s.getD 1 0), u64 (s.getD 2 0), u64 (s.getD 3 0), u64 (s.getD 4 0), u64 (s.getD 5 0), u64 (s.getD 6 0), u64 (s.getD 7 0), rest, .d (.int .u64 cnt)]
def ROUNDS : D := .agg (KK.map (D.int .u64))

def toldTake : AW.Told := ⟨fun _ => false, fun _ _ => [], fun r =>
  if r == 5 then .take 0 (.take 1 (.take 2 (.take 3 (.take 4 (.take 5 .done)))))
  else if r == 6 then .take 0 (.take 1 (.take 2 (.take 4 (.take 7 (.take 11 (.take 12 (.take 13 (.take 14 (.take 15 (.take 16 (.take 17 (.take 18 (.take 19 (.take 20 (.take 22 (.take 24 (.take 25 (.take 26 (.one 3 (.one 5 (.take 6 (.one 8 (.take 9 (.take 10 (.take 21 (.take 23 (.take 27 (.take 28 .done))))))))))))))))))))))))))))
  else if r == 7 then .take 0 (.take 2 (.take 5 (.take 8 (.take 9 (.take 10 (.take 11 (.take 12 (.take 13 (.take 14 (.take 15 (.take 16 (.take 17 (.take 18 (.take 19 (.take 20 (.take 21 (.take 22 (.one 1 (.one 3 (.take 4 (.one 6 (.take 7 (.take 23 (.take 24 .done))))))))))))))))))))))))
  else if r == 13 then .take 0 (.take 1 (.take 2 (.take 3 (.take 4 (.take 5 (.take 6 (.take 7 (.take 8 (.take 9 (.take 10 (.one 11 .done)))))))))))
  else .done⟩

theorem s_take (hG : Globs.gl 5 = some ROUNDS) (s b rest : List Int) (cnt : Int) (hs : s.length = 8) (hb : wfd b) (hl : b.length = 128) :
    CSpec Tryd.prog 121 [.optr 0 0, .d (byt b)] [(0, .cell 145 (hashC s (.d (byt rest)) cnt))] 1
      (fun st nx r => st = [(0, .cell 145 (hashC (blkS s b) (.d (byt rest)) cnt))] ∧ nx = 1 ∧ r = .tup []) := by
  refine CSpec.ends (CSpec.of_awp toldTake [] Tryd.func121 rfl (by decide) (Nat.le_of_ble_eq_true rfl) fun _w0 _S0 _E0 _B0 => ?_)
  obtain ⟨s', hs'⟩ : ∃ s', s' = blkS s b := ⟨_, rfl⟩
  rw [← hs']
  obtain ⟨ws, hws⟩ : ∃ ws, ws = schW b 80 := ⟨_, rfl⟩
  have hwl : ws.length = 80 := by rw [hws]; exact schW_len b 80
  have hsc := s_sched b hb hl
  rw [← hws] at hsc
  ((conv=>whnf);repeat'((first|(show(_=true→_)∧(_=false→_);first|refine nTt ?_|refine nFf ?_|refine gS ?_ ?_<;>(intro _h;try contradiction))|(show(_=false→_)∧(_=true→_);first|refine nU ?_|refine nV ?_|refine gZ ?_ ?_<;>(intro _h;try contradiction))|(intro _h;try contradiction)|(show _∧_;refine gA ?_)|fail);all_goals conv=>whnf))
  refine acallI hsc rfl fun r hr => ?_
  subst hr
  clear hsc
  ((conv=>whnf);repeat'((first|(show(_=true→_)∧(_=false→_);first|refine nTt ?_|refine nFf ?_|refine gS ?_ ?_<;>(intro _h;try contradiction))|(show(_=false→_)∧(_=true→_);first|refine nU ?_|refine nV ?_|refine gZ ?_ ?_<;>(intro _h;try contradiction))|(intro _h;try contradiction)|(show _∧_;refine gA ?_)|fail);all_goals conv=>whnf))
  refine ⟨ones_ok _ _, ?_⟩
  conv => whnf
  refine ⟨ws, rfl, by rw [hwl]; rfl, by omega, by rw [List.length_replicate, hwl]; omega, ?_⟩
  have ews : (List.replicate 80 (0 : Int)).take 0 ++ ws ++ (List.replicate 80 (0 : Int)).drop (0 + ws.length) = ws := by rw [hwl]; simp
  rw [ews]
  ((conv=>whnf);repeat'((first|(show(_=true→_)∧(_=false→_);first|refine nTt ?_|refine nFf ?_|refine gS ?_ ?_<;>(intro _h;try contradiction))|(show(_=false→_)∧(_=true→_);first|refine nU ?_|refine nV ?_|refine gZ ?_ ?_<;>(intro _h;try contradiction))|(intro _h;try contradiction)|(show _∧_;refine gA ?_)|fail);all_goals conv=>whnf))
  rw [aev_global hG]
  ((conv=>whnf);repeat'((first|(show(_=true→_)∧(_=false→_);first|refine nTt ?_|refine nFf ?_|refine gS ?_ ?_<;>(intro _h;try contradiction))|(show(_=false→_)∧(_=true→_);first|refine nU ?_|refine nV ?_|refine gZ ?_ ?_<;>(intro _h;try contradiction))|(intro _h;try contradiction)|(show _∧_;refine gA ?_)|fail);all_goals conv=>whnf))
  refine aloop (T := toldTake) (ι := Nat) (fun k => [(0, .optr 0 0), (4, .optr 1 0), (5, .optr 2 0), (20, .d ROUNDS), (21, i64 k)])
    (fun k => [(0, .cell 145 (hashC s (.d (byt rest)) cnt)), (1, .row .u64 154 ws), (2, .cell 143 (st8 (rnds s ws k)))]) 117 3
    (fun k => 80 - k) (fun k => k ≤ 80)
    ⟨0, [0, 1, 2], rfl, by omega, by (refine ⟨rfl, rfl, ?_, ?_⟩ <;> repeat' (first | exact True.intro | rfl | decide | (refine And.intro ?_ ?_)))⟩ ?_
  intro k hk
  obtain ⟨v, hv⟩ : ∃ v, v = rnds s ws k := ⟨_, rfl⟩
  rw [← hv]
  rcases Nat.lt_or_ge k 80 with h64 | h64
  · have hkw : k < ws.length := by omega
    ((conv=>whnf);repeat'((first|(show(_=true→_)∧(_=false→_);first|refine gT ?_|refine gF ?_|refine gS ?_ ?_<;>(intro _h;try contradiction))|(show(_=false→_)∧(_=true→_);first|refine gU ?_|refine gV ?_|refine gZ ?_ ?_<;>(intro _h;try contradiction))|(intro _h;try contradiction)|(show _∧_;refine gA ?_)|fail);all_goals conv=>whnf))
    refine acallI (s_turn (v.getD 4 0) 14 (by omega)) rfl fun r hr => ?_
    subst hr
    ((conv=>whnf);repeat'((first|(show(_=true→_)∧(_=false→_);first|refine gT ?_|refine gF ?_|refine gS ?_ ?_<;>(intro _h;try contradiction))|(show(_=false→_)∧(_=true→_);first|refine gU ?_|refine gV ?_|refine gZ ?_ ?_<;>(intro _h;try contradiction))|(intro _h;try contradiction)|(show _∧_;refine gA ?_)|fail);all_goals conv=>whnf))
    refine acallI (s_turn (v.getD 4 0) 18 (by omega)) rfl fun r hr => ?_
    subst hr
    ((conv=>whnf);repeat'((first|(show(_=true→_)∧(_=false→_);first|refine gT ?_|refine gF ?_|refine gS ?_ ?_<;>(intro _h;try contradiction))|(show(_=false→_)∧(_=true→_);first|refine gU ?_|refine gV ?_|refine gZ ?_ ?_<;>(intro _h;try contradiction))|(intro _h;try contradiction)|(show _∧_;refine gA ?_)|fail);all_goals conv=>whnf))
    refine acallI (s_turn (v.getD 4 0) 41 (by omega)) rfl fun r hr => ?_
    subst hr
    ((conv=>whnf);repeat'((first|(show(_=true→_)∧(_=false→_);first|refine gT ?_|refine gF ?_|refine gS ?_ ?_<;>(intro _h;try contradiction))|(show(_=false→_)∧(_=true→_);first|refine gU ?_|refine gV ?_|refine gZ ?_ ?_<;>(intro _h;try contradiction))|(intro _h;try contradiction)|(show _∧_;refine gA ?_)|fail);all_goals conv=>whnf))
    refine acallI (s_turn (v.getD 0 0) 28 (by omega)) rfl fun r hr => ?_
    subst hr
    ((conv=>whnf);repeat'((first|(show(_=true→_)∧(_=false→_);first|refine gT ?_|refine gF ?_|refine gS ?_ ?_<;>(intro _h;try contradiction))|(show(_=false→_)∧(_=true→_);first|refine gU ?_|refine gV ?_|refine gZ ?_ ?_<;>(intro _h;try contradiction))|(intro _h;try contradiction)|(show _∧_;refine gA ?_)|fail);all_goals conv=>whnf))
    refine acallI (s_turn (v.getD 0 0) 34 (by omega)) rfl fun r hr => ?_
    subst hr
    ((conv=>whnf);repeat'((first|(show(_=true→_)∧(_=false→_);first|refine gT ?_|refine gF ?_|refine gS ?_ ?_<;>(intro _h;try contradiction))|(show(_=false→_)∧(_=true→_);first|refine gU ?_|refine gV ?_|refine gZ ?_ ?_<;>(intro _h;try contradiction))|(intro _h;try contradiction)|(show _∧_;refine gA ?_)|fail);all_goals conv=>whnf))
    refine acallI (s_turn (v.getD 0 0) 39 (by omega)) rfl fun r hr => ?_
    subst hr
    ((conv=>whnf);repeat'((first|(show(_=true→_)∧(_=false→_);first|refine gT ?_|refine gF ?_|refine gS ?_ ?_<;>(intro _h;try contradiction))|(show(_=false→_)∧(_=true→_);first|refine gU ?_|refine gV ?_|refine gZ ?_ ?_<;>(intro _h;try contradiction))|(intro _h;try contradiction)|(show _∧_;refine gA ?_)|fail);all_goals conv=>whnf))
    refine ⟨k + 1, [0, 1, 2], by omega, by omega, rfl, ?_⟩
    (refine ⟨rfl, rfl, ?_, ?_⟩ <;> repeat' (first | exact True.intro | rfl | decide | (refine And.intro ?_ ?_)))
    · exact di (by rw [wrap_i64 (by omega) (by omega)]; rfl)
    · have e : rnds s ws (k + 1) = rnd v (KK.getD k 0) (ws.getD (0 + (k : Int).toNat) 0) := by rw [hv, Nat.zero_add]; rfl
      show some (Ob.cell _ _) = some (Ob.cell _ (st8 (rnds s ws (k + 1))))
      rw [e]
      rfl
  · have hk64 : k = 80 := by omega
    ((conv=>whnf);repeat'((first|(show(_=true→_)∧(_=false→_);first|refine gT ?_|refine gF ?_|refine gS ?_ ?_<;>(intro _h;try contradiction))|(show(_=false→_)∧(_=true→_);first|refine gU ?_|refine gV ?_|refine gZ ?_ ?_<;>(intro _h;try contradiction))|(intro _h;try contradiction)|(show _∧_;refine gA ?_)|fail);all_goals conv=>whnf))
    refine AWp.rounds toldTake 9 ?_
    ((conv=>whnf);repeat'((first|(show(_=true→_)∧(_=false→_);first|refine gT ?_|refine gF ?_|refine gS ?_ ?_<;>(intro _h;try contradiction))|(show(_=false→_)∧(_=true→_);first|refine gU ?_|refine gV ?_|refine gZ ?_ ?_<;>(intro _h;try contradiction))|(intro _h;try contradiction)|(show _∧_;refine gA ?_)|fail);all_goals conv=>whnf))
    have e0 : blkS s b = (List.range 8).map fun i => add2 (s.getD i 0) (v.getD i 0) := by unfold blkS; rw [hv, hk64, hws]
    refine ⟨[0], [(0, .cell 145 (hashC s' (.d (byt rest)) cnt))], .tup [], ⟨rfl, ⟨⟨by decide, ?_⟩, trivial⟩, rfl⟩, rfl, rfl, rfl⟩
    show some (Ob.cell _ _) = some (Ob.cell _ (hashC s' (.d (byt rest)) cnt))
    rw [hs', e0]
    rfl
end Go.Proofs.YtniaeiikdgbnfaaDoor.R.L
namespace Go.Proofs.YtniaeiikdgbnfaaDoor.R.L
open Go Go.RowKit Go.Proofs Go.Proofs.YtniaeiikdgbnfaaDoor.AW
set_option linter.unusedSectionVars false
variable [Globs]
attribute [local go_sem] Oper.semAt_some
set_option maxRecDepth 100000
set_option linter.unusedSimpArgs false
set_option linter.unusedVariables false
set_option maxHeartbeats 4000000

theorem itC (l b o b3 o3 b2 o2 c : Nat) (xs : List Int) (n : Nat) (J : Nat → World → Prop) (Jx : World → Prop) (W : World) (hl : xs.length ≤ 1000000000) (hn : xs.length = 128 * n) (hc0 : xs.length ≤ c)
   (hG : ∀ k W, J k W → W.cell? ⟨b, o, none⟩ = some (.slice (some ⟨b2, o2, none⟩) xs.length c) ∧ W.cell? ⟨b3, o3, none⟩ = some (.int .i64 128))
   (hY : ∀ k W, k < n → J k W → YieldAt (fence none) 0 Tryd.prog l #[.slice (some ⟨b2, o2 + 128 * k, none⟩) 128 128] W fun e W' => (e = .returned (.bool true) ∧ J (k + 1) W') ∨ (e = .returned (.bool false) ∧ Jx W'))
   (hJg : ∀ k W W', J k W → W.grownBy W' none → J k W')
   (h0 : J 0 W) : CallsIn Fence.wide 0 Tryd.prog 130 #[.func (.yield l) #[] #[], .pointer (some ⟨b, o, none⟩), .pointer (some ⟨b3, o3, none⟩)] W fun e W' => (∃ v, e = .returned v) ∧ (J n W' ∨ Jx W') := by
  have hc := (hG 0 W h0).1
  have hd := (hG 0 W h0).2
  refine callsIn_of_wp Tryd.func130 rfl trivial ?_ rfl
  simp only [Tryd.ntmps130, List.size_toArray, List.length_cons, List.length_nil, Nat.reduceAdd, Nat.reduceSub, Array.replicate_succ, Array.replicate_zero, List.push_toArray, List.append_toArray, List.nil_append, List.cons_append]
  gi_wp2
  clear hc hd
  gi_loopw [4] (fun i wr => ∃ k : Nat, k ≤ n ∧ i = .int .i64 (128 * (k : Int)) ∧ J k wr) (fun i _ => (xs.length - intOf i).toNat)
  case atStart => exact ⟨0, Nat.zero_le _, by simp, h0⟩
  case round =>
    obtain ⟨k, hk, rfl, hJ⟩ := hrel
    by_cases hlt : k < n
    · have hc := (hG k _ hJ).1
      have hd := (hG k _ hJ).2
      have hJ2 : J k wr.drew := hJg k wr _ hJ ⟨rfl, rfl, rfl, Nat.le_refl _, fun _ _ _ => rfl⟩
      obtain ⟨fn, tmps, assign, body, hy, hR⟩ := hY k _ hlt hJ2
      have hG2 : id (∀ k W, J k W → W.cell? ⟨b, o, none⟩ = some (.slice (some ⟨b2, o2, none⟩) xs.length c) ∧ W.cell? ⟨b3, o3, none⟩ = some (.int .i64 128)) := hG
      clear hG hY hJg
      gi_wp2
      gi_region
      gi_wp2
      refine ⟨rfl, RoundIn.mono hR ?_⟩
      rintro e W' (⟨rfl, hJ'⟩ | ⟨rfl, hJ'⟩)
      · have hd' := (hG2 _ _ hJ').2
        clear hG2 hc hd hR hy
        gi_wp2
        go_roundw
        case rel => exact ⟨k + 1, by omega, by simp; omega, hJ'⟩
        case measure => simp [intOf]; omega
      · clear hG2
        gi_wp2
        exact bodyPost_ret (results_none rfl _ _ _) rfl ⟨⟨_, rfl⟩, .inr hJ'⟩
    · have : k = n := by omega
      subst this
      have hc := (hG k _ hJ).1
      clear hG hY
      gi_wp2
      go_end0
      exact ⟨⟨_, rfl⟩, .inl hJ⟩

/-- The stretches of 128 of a list, one by one. -/
theorem aiC (xs : List Int) (n : Nat) (hn : xs.length = 128 * n) (hl : xs.length ≤ 1000000000) (h0 : 0 < n) : AIter Tryd.prog 130 [.ptr (byt xs), .ptr (.int .i64 128)] n (fun k => [byt (cutB xs (128 * k) 128)]) := by
  refine ⟨⟨_, Tryd.func130, rfl, by decide⟩, fun w S lb h => ?_⟩
  simp only [RepAll, Rep] at h
  obtain ⟨c1, c2, e, ⟨b, o, rfl, hSb, vs, hcb, A, c, rfl, hle, hL, hwf, hne⟩, c3, c4, rfl, ⟨b3, o3, rfl, hSb3, vs3, hcb3, rfl, _⟩, rfl⟩ := h
  have hlb : lb = #[.pointer (some ⟨b, o, none⟩), .pointer (some ⟨b3, o3, none⟩)] := by apply Array.ext'; simpa using e
  subst hlb
  obtain ⟨b2, o2, rfl, hS2, hc2⟩ := hne (fun h => by subst h; simp at hn; omega)
  refine ⟨fun k => #[.slice (some ⟨b2, o2 + 128 * k, none⟩) 128 128], fun k hk => ?_, fun l J Jx W hJg hJxg hG hY h0 => ?_⟩
  · have hcl : (cutB xs (128 * k) 128).length = 128 := cutB_len (by omega)
    simp only [List.map_cons, List.map_nil, VAll, VRel, Rep]
    refine ⟨_, _, rfl, ⟨[.slice (some ⟨b2, o2 + 128 * k, none⟩) 128 128], ⟨some ⟨b2, o2 + 128 * k, none⟩, 128, by rw [hcl], by omega, by rw [hcl]; unfold LIM; omega, fun x hx => hwf x (List.mem_of_mem_take (List.mem_of_mem_drop hx)), fun _ => ⟨b2, o2 + 128 * k, rfl, hS2, ?_⟩⟩, rfl⟩, rfl⟩
    intro i v hv
    have hi : i < 128 := by
      have := (List.getElem?_eq_some_iff.1 hv).1
      simpa [hcl] using this
    have := hc2 (128 * k + i) v (by
      rw [← hv, List.getElem?_map, List.getElem?_map]
      unfold cutB
      rw [List.getElem?_drop, List.getElem?_take_of_lt (by omega)])
    rwa [← Nat.add_assoc] at this
  · have hcell : ∀ W : World, (∀ b, S b → W.heap[b]? = w.heap[b]?) → W.cell? ⟨b, o, none⟩ = some (.slice (some ⟨b2, o2, none⟩) xs.length c) ∧ W.cell? ⟨b3, o3, none⟩ = some (.int .i64 128) := fun W hW => by
      have h1 := (Cells.keep hcb (hW b hSb)) 0 _ rfl
      have h2 := (Cells.keep hcb3 (hW b3 hSb3)) 0 _ rfl
      exact ⟨by simpa using h1, by simpa using h2⟩
    refine callsIn_fence.1 (?_ : CallsIn Fence.wide 0 _ _ _ _ _)
    exact itC l b o b3 o3 b2 o2 c xs n J Jx W hl hn hle (fun k W hJ => hcell W (hG k W hJ)) hY hJg h0
end Go.Proofs.YtniaeiikdgbnfaaDoor.R.L
namespace Go.Proofs.YtniaeiikdgbnfaaDoor.R.L
open Go Go.RowKit Go.Proofs Go.Proofs.YtniaeiikdgbnfaaDoor.AW
set_option linter.unusedSectionVars false
variable [Globs]
set_option maxRecDepth 100000
set_option linter.unusedSimpArgs false
set_option linter.unusedVariables false
set_option maxHeartbeats 4000000

theorem foldS_app (s t b : List Int) : ∀ {k : Nat}, 128 * k ≤ t.length → foldS s (t ++ b) k = foldS s t k
  | 0, _ => rfl
  | k + 1, h => by simp only [foldS]; rw [foldS_app s t b (show 128 * k ≤ t.length by omega), cutB_app _ _ (by omega)]
theorem foldS_split (s p : List Int) (k : Nat) : ∀ j, foldS s p (k + j) = foldS (foldS s p k) (p.drop (128 * k)) j
  | 0 => rfl
  | j + 1 => by
    rw [← Nat.add_assoc]
    simp only [foldS]
    rw [foldS_split s p k j, cutB_drop, Nat.mul_add]

/-- The state, what is left, and how many there were, behind a text. -/
def stS (t : List Int) : List Int := foldS H0 t (t.length / 128)
def reS (t : List Int) : List Int := t.drop (128 * (t.length / 128))
theorem stS_len (t : List Int) : (stS t).length = 8 := foldS_len _ _ rfl _
theorem reS_len (t : List Int) : (reS t).length = t.length % 128 := by simp [reS]; omega
theorem reS_wfd {t : List Int} (h : wfd t) : wfd (reS t) := h.drop _
theorem stS_app (t b : List Int) : stS (t ++ b) = foldS (stS t) (reS t ++ b) ((reS t ++ b).length / 128) ∧ reS (t ++ b) = (reS t ++ b).drop (128 * ((reS t ++ b).length / 128)) := by
  have hl := reS_len t
  have e : (t ++ b).length / 128 = t.length / 128 + (reS t ++ b).length / 128 := by simp [hl]; omega
  have e2 : (t ++ b).drop (128 * (t.length / 128)) = reS t ++ b := by
    unfold reS
    rw [List.drop_append_of_le_length (by omega)]
  constructor
  · unfold stS
    rw [e, foldS_split, e2, foldS_app H0 t b (by omega)]
  · rw [show reS (t ++ b) = (t ++ b).drop (128 * ((t ++ b).length / 128)) from rfl, e, Nat.mul_add, ← List.drop_drop, e2]

def FIRST : D := .agg (H0.map (D.int .u64))

theorem s_new (hF : Globs.gl 2 = some FIRST) : CSpec Tryd.prog 103 [] [] 0
    (fun st nx r => st = [(1, .row .u8 5 []), (0, .cell 145 (hashC H0 (.own 1) 0))] ∧ nx = 2 ∧ r = .optr 0 0) := by
  have h : CSpec Tryd.prog 103 [] [] 0 (fun st nx r => st = [(0, .cell 145 (hashC H0 (.nls (byt [])) 0))] ∧ nx = 1 ∧ r = .optr 0 0) := by
    refine CSpec.ends (CSpec.of_awp told0 [] Tryd.func103 rfl (by decide) (Nat.le_of_ble_eq_true rfl) fun _w0 _S0 _E0 _B0 => ?_)
    ((conv=>whnf);repeat'((first|(show(_=true→_)∧(_=false→_);first|refine nTt ?_|refine nFf ?_|refine gS ?_ ?_<;>(intro _h;try contradiction))|(show(_=false→_)∧(_=true→_);first|refine nU ?_|refine nV ?_|refine gZ ?_ ?_<;>(intro _h;try contradiction))|(intro _h;try contradiction)|(show _∧_;refine gA ?_)|fail);all_goals conv=>whnf))
    rw [aev_global hF]
    ((conv=>whnf);repeat'((first|(show(_=true→_)∧(_=false→_);first|refine nTt ?_|refine nFf ?_|refine gS ?_ ?_<;>(intro _h;try contradiction))|(show(_=false→_)∧(_=true→_);first|refine nU ?_|refine nV ?_|refine gZ ?_ ?_<;>(intro _h;try contradiction))|(intro _h;try contradiction)|(show _∧_;refine gA ?_)|fail);all_goals conv=>whnf))
    exact ⟨[0], [(0, .cell 145 (hashC H0 (.nls (byt [])) 0))], .optr 0 0, ⟨rfl, ⟨⟨by decide, rfl⟩, trivial⟩, rfl⟩, rfl, rfl, rfl⟩
  refine h.adoptPart fun st nx r ⟨e1, e2, e3⟩ => .inr ⟨0, 145, hashC H0 (.nls (byt [])) 0, 8, .nls (byt []), .u8, 5, by rw [e1]; rfl, rfl, rfl, ?_, ?_, e3⟩
  · rw [e1, e2]; rfl
  · rw [e2]

def toldWr : AW.Told := ⟨fun f => f == 121, fun r i => if r == 1 && i == 7 then [20] else [], fun _ => .done⟩


theorem drop64 (all : List Int) (k : Nat) : (((all.drop (128 * k)).take (Int.toNat 128)).drop 0) = cutB all (128 * k) 128 := by
  unfold cutB
  rw [List.drop_zero, List.take_drop]; rfl
theorem drop64' (all : List Int) (k : Nat) : ((all.drop (128 * k)).take (all.drop (128 * k)).length).drop (Int.toNat 128) = all.drop (128 * (k + 1)) := by
  rw [List.take_length, List.drop_drop]; rfl

theorem s_write (hG : Globs.gl 5 = some ROUNDS) (s xs b : List Int) (cnt : Int) (hs : s.length = 8) (hx : wfd xs) (hb : wfd b) (hl : xs.length + b.length ≤ 100000000) :
    CSpec Tryd.prog 104 [.optr 0 0, .d (byt b)] [(0, .cell 145 (hashC s (.own 1) cnt)), (1, .row .u8 5 xs)] 2
      (fun st nx r => st = [(2, .row .u8 5 ((xs ++ b).drop (128 * ((xs ++ b).length / 128)))), (0, .cell 145 (hashC (foldS s (xs ++ b) ((xs ++ b).length / 128)) (.own 2) (IntKind.u64.wrap (cnt + b.length))))] ∧ nx = 3 ∧ r = .tup []) := by
  obtain ⟨all, hall⟩ : ∃ all, all = xs ++ b := ⟨_, rfl⟩
  have hal : all.length = xs.length + b.length := by rw [hall, List.length_append]
  have haw : wfd all := by rw [hall]; exact hx.append hb
  have hw0 : IntKind.u64.wrap (b.length : Int) = b.length := wrap_u64 (by omega) (by omega)
  rw [← hall]
  refine CSpec.ends (CSpec.of_awp toldWr [] Tryd.func104 rfl (by decide) (Nat.le_of_ble_eq_true rfl) fun _w0 _S0 _E0 _B0 => ?_)
  ((conv=>whnf);repeat'((first|(show(_=true→_)∧(_=false→_);first|refine gT ?_|refine gF ?_|refine gS ?_ ?_<;>(intro _h;try contradiction))|(show(_=false→_)∧(_=true→_);first|refine gU ?_|refine gV ?_|refine gZ ?_ ?_<;>(intro _h;try contradiction))|(intro _h;try contradiction)|(show _∧_;refine gA ?_)|fail);all_goals conv=>whnf))
  refine AWp.renew 1 rfl ?_
  refine AWp.scope (T := toldWr) (ι := Nat) (L := 0) rfl (fun k => [(0, .optr 0 0)]) (fun k => [(0, .cell 145 (hashC (foldS s all k) (.d (byt (all.drop (128 * k)))) (IntKind.u64.wrap (cnt + IntKind.u64.wrap b.length))))]) 52 2
    (fun k => all.length - 128 * k) (fun k => 128 * k ≤ all.length) ?_ ?_
  · subst hall
    ((conv=>whnf);repeat'((first|(show(_=true→_)∧(_=false→_);first|refine gT ?_|refine gF ?_|refine gS ?_ ?_<;>(intro _h;try contradiction))|(show(_=false→_)∧(_=true→_);first|refine gU ?_|refine gV ?_|refine gZ ?_ ?_<;>(intro _h;try contradiction))|(intro _h;try contradiction)|(show _∧_;refine gA ?_)|fail);all_goals conv=>whnf))
    refine ⟨by show (xs.length + b.length) * 1 ≤ 140737488355328; omega, ?_⟩
    ((conv=>whnf);repeat'((first|(show(_=true→_)∧(_=false→_);first|refine gT ?_|refine gF ?_|refine gS ?_ ?_<;>(intro _h;try contradiction))|(show(_=false→_)∧(_=true→_);first|refine gU ?_|refine gV ?_|refine gZ ?_ ?_<;>(intro _h;try contradiction))|(intro _h;try contradiction)|(show _∧_;refine gA ?_)|fail);all_goals conv=>whnf))
    · refine acall [0] (s_take hG s (cutB (xs ++ b) 0 128) (xs ++ b) _ hs ((hx.append hb).cut _ _) (cutB_len (by omega))) rfl ⟨⟨by decide, rfl⟩, trivial⟩ rfl (fun h => Bool.noConfusion h) ?_
      rintro st nx r ⟨rfl, rfl, rfl⟩
      ((conv=>whnf);repeat'((first|(show(_=true→_)∧(_=false→_);first|refine gT ?_|refine gF ?_|refine gS ?_ ?_<;>(intro _h;try contradiction))|(show(_=false→_)∧(_=true→_);first|refine gU ?_|refine gV ?_|refine gZ ?_ ?_<;>(intro _h;try contradiction))|(intro _h;try contradiction)|(show _∧_;refine gA ?_)|fail);all_goals conv=>whnf))
      refine ⟨1, [0, 1], by omega, rfl, ?_⟩
      have hd := drop64' (xs ++ b) 0
      rw [Nat.mul_zero, List.drop_zero] at hd
      rw [← hd]
      (refine ⟨rfl, rfl, ?_, ?_⟩ <;> repeat' (first | exact True.intro | rfl | decide | (refine And.intro ?_ ?_)))
    · have hkk : (xs ++ b).length / 128 = 0 := by omega
      refine acall [] (k_cloneA (xs ++ b) (by rw [List.length_append]; omega)) rfl (by simp [stIn]) rfl (fun _ => rfl) ?_
      rintro st nx r ⟨rfl, rfl, rfl⟩
      ((conv=>whnf);repeat'((first|(show(_=true→_)∧(_=false→_);first|refine gT ?_|refine gF ?_|refine gS ?_ ?_<;>(intro _h;try contradiction))|(show(_=false→_)∧(_=true→_);first|refine gU ?_|refine gV ?_|refine gZ ?_ ?_<;>(intro _h;try contradiction))|(intro _h;try contradiction)|(show _∧_;refine gA ?_)|fail);all_goals conv=>whnf))
      refine ⟨[0, 1, 3], [(2, .row .u8 5 ((xs ++ b).drop (128 * ((xs ++ b).length / 128)))), (0, .cell 145 (hashC (foldS s (xs ++ b) ((xs ++ b).length / 128)) (.own 2) (IntKind.u64.wrap (cnt + b.length))))], .tup [], ⟨rfl, ?_, rfl⟩, rfl, rfl, rfl⟩
      rw [hkk, Nat.mul_zero, List.drop_zero]
      refine ⟨⟨by decide, rfl⟩, ⟨by decide, ?_⟩, trivial⟩
      rw [hw0]
      rfl
  · intro k hk
    have hdl : (all.drop (128 * k)).length = all.length - 128 * k := by simp
    have hfl := foldS_len s all hs k
    rcases Nat.lt_or_ge (all.length - 128 * k) 128 with h64 | h64
    · have hkk : all.length / 128 = k := by omega
      ((conv=>whnf);repeat'((first|(show(_=true→_)∧(_=false→_);first|refine gT ?_|refine gF ?_|refine gS ?_ ?_<;>(intro _h;try contradiction))|(show(_=false→_)∧(_=true→_);first|refine gU ?_|refine gV ?_|refine gZ ?_ ?_<;>(intro _h;try contradiction))|(intro _h;try contradiction)|(show _∧_;refine gA ?_)|fail);all_goals conv=>whnf))
      refine acall [] (k_cloneA (all.drop (128 * k)) (by omega)) rfl (by simp [stIn]) rfl (fun _ => rfl) ?_
      rintro st nx r ⟨rfl, rfl, rfl⟩
      ((conv=>whnf);repeat'((first|(show(_=true→_)∧(_=false→_);first|refine gT ?_|refine gF ?_|refine gS ?_ ?_<;>(intro _h;try contradiction))|(show(_=false→_)∧(_=true→_);first|refine gU ?_|refine gV ?_|refine gZ ?_ ?_<;>(intro _h;try contradiction))|(intro _h;try contradiction)|(show _∧_;refine gA ?_)|fail);all_goals conv=>whnf))
      refine ⟨[0, 1, 2], [(2, .row .u8 5 (all.drop (128 * (all.length / 128)))), (0, .cell 145 (hashC (foldS s all (all.length / 128)) (.own 2) (IntKind.u64.wrap (cnt + b.length))))], .tup [], ⟨rfl, ?_, rfl⟩, rfl, rfl, rfl⟩
      rw [hkk]
      refine ⟨⟨by decide, rfl⟩, ⟨by decide, ?_⟩, trivial⟩
      rw [hw0]
      rfl
    · ((conv=>whnf);repeat'((first|(show(_=true→_)∧(_=false→_);first|refine gT ?_|refine gF ?_|refine gS ?_ ?_<;>(intro _h;try contradiction))|(show(_=false→_)∧(_=true→_);first|refine gU ?_|refine gV ?_|refine gZ ?_ ?_<;>(intro _h;try contradiction))|(intro _h;try contradiction)|(show _∧_;refine gA ?_)|fail);all_goals conv=>whnf))
      refine acall [0] (s_take hG (foldS s all k) (cutB all (128 * k) 128) (all.drop (128 * k)) _ hfl (haw.cut _ _) (cutB_len (by omega))) rfl ⟨⟨by decide, rfl⟩, trivial⟩ (by rw [← drop64]; rfl) (fun h => Bool.noConfusion h) ?_
      rintro st nx r ⟨rfl, rfl, rfl⟩
      ((conv=>whnf);repeat'((first|(show(_=true→_)∧(_=false→_);first|refine gT ?_|refine gF ?_|refine gS ?_ ?_<;>(intro _h;try contradiction))|(show(_=false→_)∧(_=true→_);first|refine gU ?_|refine gV ?_|refine gZ ?_ ?_<;>(intro _h;try contradiction))|(intro _h;try contradiction)|(show _∧_;refine gA ?_)|fail);all_goals conv=>whnf))
      refine ⟨k + 1, [0, 1], by omega, by omega, rfl, ?_⟩
      (refine ⟨rfl, rfl, ?_, ?_⟩ <;> repeat' (first | exact True.intro | rfl | decide | (refine And.intro ?_ ?_)))
      show some (Ob.cell _ _) = some (Ob.cell _ _)
      rw [← drop64']
      rfl

theorem s_const : Imm Tryd.prog 123 [] (fun r => r = .d (wd KK)) := by
  (refine Imm.of_awp told0 [0] Tryd.func123 rfl (by decide) (Nat.le_of_ble_eq_true rfl) ?_; intro _w0 _S0 _E0 _B0; ((conv=>whnf);repeat'((first|(show(_=true→_)∧(_=false→_);first|refine nTt ?_|refine nFf ?_|refine gS ?_ ?_<;>(intro _h;try contradiction))|(show(_=false→_)∧(_=true→_);first|refine nU ?_|refine nV ?_|refine gZ ?_ ?_<;>(intro _h;try contradiction))|(intro _h;try contradiction)|(show _∧_;refine gA ?_)|fail);all_goals conv=>whnf)))
  exact Ends.imm rfl rfl

def toldB : AW.Told := ⟨fun _ => false, fun _ _ => [], fun r =>
  if r == 7 || r == 10 then .take 0 (.take 1 (.take 2 (.take 4 (.take 5 (.take 6 (.take 9 (.take 10 (.take 11 (.one 3 (.one 7 (.take 8 (.one 12 (.take 13 (.take 14 .done))))))))))))))
  else if r == 8 then .take 0 (.take 1 (.take 2 (.take 3 (.take 4 (.take 5 (.take 6 (.take 7 (.take 8 (.take 9 (.take 10 (.take 11 (.take 12 (.take 13 (.take 14 (.take 15 (.take 16 .done))))))))))))))))
  else if r == 9 then .take 0 (.take 1 (.take 2 (.take 3 (.take 4 (.take 5 (.take 6 (.take 7 (.take 8 (.take 9 (.take 10 (.take 11 (.take 12 (.take 13 (.take 14 (.take 15 (.take 16 (.take 17 .done)))))))))))))))))
  else if r == 11 then .take 0 (.take 1 (.take 2 (.take 3 (.take 4 (.take 5 (.take 6 (.take 7 (.take 8 (.take 9 (.take 10 (.take 11 (.take 12 (.take 13 (.take 14 (.take 15 (.take 16 (.take 17 (.take 18 (.take 19 (.take 20 (.take 21 (.take 22 (.take 23 .done)))))))))))))))))))))))
  else if r == 12 then .take 0 (.take 1 (.take 2 (.take 3 (.take 4 (.take 5 (.take 6 (.take 7 (.take 8 (.take 9 (.take 10 (.take 11 (.take 12 (.take 13 (.take 14 (.take 15 (.take 16 (.take 17 (.take 18 (.take 19 (.take 20 (.take 21 (.take 22 (.take 23 (.take 24 (.take 25 (.take 26 (.take 27 (.one 28 (.take 29 .done)))))))))))))))))))))))))))))
  else if r == 17 then .take 0 (.take 1 (.take 2 (.take 3 (.take 4 (.take 5 (.take 6 (.take 7 (.take 8 (.take 9 (.one 10 (.one 11 (.take 12 .done))))))))))))
  else .done⟩


theorem s_refBlock (h b : List Int) (hh : h.length = 8) (hb : wfd b) (hl : b.length = 128) : Imm Tryd.prog 107 [.d (wd h), .d (byt b)] (fun r => r = .d (wd (blkS h b))) := by
  obtain ⟨ws, hws⟩ : ∃ ws, ws = schW b 80 := ⟨_, rfl⟩
  have hwl : ws.length = 80 := by rw [hws]; exact schW_len b 80
  have hsw := s_words b hb hl
  rw [← hws] at hsw
  obtain ⟨kk, hkk⟩ : ∃ kk, kk = KK := ⟨_, rfl⟩
  have hkl : kk.length = 80 := by rw [hkk]; rfl
  have hsc := s_const
  rw [← hkk] at hsc
  (refine Imm.of_awp toldB [4] Tryd.func107 rfl (by decide) (Nat.le_of_ble_eq_true rfl) ?_; intro _w0 _S0 _E0 _B0; ((conv=>whnf);repeat'((first|(show(_=true→_)∧(_=false→_);first|refine nTt ?_|refine nFf ?_|refine gS ?_ ?_<;>(intro _h;try contradiction))|(show(_=false→_)∧(_=true→_);first|refine nU ?_|refine nV ?_|refine gZ ?_ ?_<;>(intro _h;try contradiction))|(intro _h;try contradiction)|(show _∧_;refine gA ?_)|fail);all_goals conv=>whnf)))
  refine acallI hsw rfl fun r hr => ?_
  subst hr
  ((conv=>whnf);repeat'((first|(show(_=true→_)∧(_=false→_);first|refine gT ?_|refine gF ?_|refine gS ?_ ?_<;>(intro _h;try contradiction))|(show(_=false→_)∧(_=true→_);first|refine gU ?_|refine gV ?_|refine gZ ?_ ?_<;>(intro _h;try contradiction))|(intro _h;try contradiction)|(show _∧_;refine gA ?_)|fail);all_goals conv=>whnf))
  refine acallI hsc rfl fun r hr => ?_
  subst hr
  ((conv=>whnf);repeat'((first|(show(_=true→_)∧(_=false→_);first|refine gT ?_|refine gF ?_|refine gS ?_ ?_<;>(intro _h;try contradiction))|(show(_=false→_)∧(_=true→_);first|refine gU ?_|refine gV ?_|refine gZ ?_ ?_<;>(intro _h;try contradiction))|(intro _h;try contradiction)|(show _∧_;refine gA ?_)|fail);all_goals conv=>whnf))
  refine ⟨by show (0 + h.length) * 8 ≤ 140737488355328; omega, ?_⟩
  ((conv=>whnf);repeat'((first|(show(_=true→_)∧(_=false→_);first|refine gT ?_|refine gF ?_|refine gS ?_ ?_<;>(intro _h;try contradiction))|(show(_=false→_)∧(_=true→_);first|refine gU ?_|refine gV ?_|refine gZ ?_ ?_<;>(intro _h;try contradiction))|(intro _h;try contradiction)|(show _∧_;refine gA ?_)|fail);all_goals conv=>whnf))
  refine aloop (T := toldB) (ι := Nat) (fun k => [(0, .d (wd h)), (5, .d (wd ws)), (6, .d (wd kk)), (7, .own 0), (8, i64 k)]) (fun k => [(0, .row .u64 117 (rnds h ws k))]) 156 1
    (fun k => 80 - k) (fun k => k ≤ 80)
    ⟨0, [0], rfl, by omega, by (refine ⟨rfl, rfl, ?_, ?_⟩ <;> repeat' (first | exact True.intro | rfl | decide | (refine And.intro ?_ ?_)))⟩ ?_
  intro k hk
  have hvl := rnds_len h ws hh k
  obtain ⟨v, hv⟩ : ∃ v, v = rnds h ws k := ⟨_, rfl⟩
  rw [← hv] at hvl ⊢
  rcases Nat.lt_or_ge k 80 with h64 | h64
  · ((conv=>whnf);repeat'((first|(show(_=true→_)∧(_=false→_);first|refine gT ?_|refine gF ?_|refine gS ?_ ?_<;>(intro _h;try contradiction))|(show(_=false→_)∧(_=true→_);first|refine gU ?_|refine gV ?_|refine gZ ?_ ?_<;>(intro _h;try contradiction))|(intro _h;try contradiction)|(show _∧_;refine gA ?_)|fail);all_goals conv=>whnf))
    refine acallI (s_right (v.getD 4 0) 14 (by omega)) rfl fun r hr => ?_
    subst hr
    ((conv=>whnf);repeat'((first|(show(_=true→_)∧(_=false→_);first|refine gT ?_|refine gF ?_|refine gS ?_ ?_<;>(intro _h;try contradiction))|(show(_=false→_)∧(_=true→_);first|refine gU ?_|refine gV ?_|refine gZ ?_ ?_<;>(intro _h;try contradiction))|(intro _h;try contradiction)|(show _∧_;refine gA ?_)|fail);all_goals conv=>whnf))
    refine acallI (s_right (v.getD 4 0) 18 (by omega)) rfl fun r hr => ?_
    subst hr
    ((conv=>whnf);repeat'((first|(show(_=true→_)∧(_=false→_);first|refine gT ?_|refine gF ?_|refine gS ?_ ?_<;>(intro _h;try contradiction))|(show(_=false→_)∧(_=true→_);first|refine gU ?_|refine gV ?_|refine gZ ?_ ?_<;>(intro _h;try contradiction))|(intro _h;try contradiction)|(show _∧_;refine gA ?_)|fail);all_goals conv=>whnf))
    refine acallI (s_right (v.getD 4 0) 41 (by omega)) rfl fun r hr => ?_
    subst hr
    ((conv=>whnf);repeat'((first|(show(_=true→_)∧(_=false→_);first|refine gT ?_|refine gF ?_|refine gS ?_ ?_<;>(intro _h;try contradiction))|(show(_=false→_)∧(_=true→_);first|refine gU ?_|refine gV ?_|refine gZ ?_ ?_<;>(intro _h;try contradiction))|(intro _h;try contradiction)|(show _∧_;refine gA ?_)|fail);all_goals conv=>whnf))
    refine acallI (s_right (v.getD 0 0) 28 (by omega)) rfl fun r hr => ?_
    subst hr
    ((conv=>whnf);repeat'((first|(show(_=true→_)∧(_=false→_);first|refine gT ?_|refine gF ?_|refine gS ?_ ?_<;>(intro _h;try contradiction))|(show(_=false→_)∧(_=true→_);first|refine gU ?_|refine gV ?_|refine gZ ?_ ?_<;>(intro _h;try contradiction))|(intro _h;try contradiction)|(show _∧_;refine gA ?_)|fail);all_goals conv=>whnf))
    refine acallI (s_right (v.getD 0 0) 34 (by omega)) rfl fun r hr => ?_
    subst hr
    ((conv=>whnf);repeat'((first|(show(_=true→_)∧(_=false→_);first|refine gT ?_|refine gF ?_|refine gS ?_ ?_<;>(intro _h;try contradiction))|(show(_=false→_)∧(_=true→_);first|refine gU ?_|refine gV ?_|refine gZ ?_ ?_<;>(intro _h;try contradiction))|(intro _h;try contradiction)|(show _∧_;refine gA ?_)|fail);all_goals conv=>whnf))
    refine acallI (s_right (v.getD 0 0) 39 (by omega)) rfl fun r hr => ?_
    subst hr
    ((conv=>whnf);repeat'((first|(show(_=true→_)∧(_=false→_);first|refine gT ?_|refine gF ?_|refine gS ?_ ?_<;>(intro _h;try contradiction))|(show(_=false→_)∧(_=true→_);first|refine gU ?_|refine gV ?_|refine gZ ?_ ?_<;>(intro _h;try contradiction))|(intro _h;try contradiction)|(show _∧_;refine gA ?_)|fail);all_goals conv=>whnf))
    refine ⟨k + 1, [1], by omega, by omega, rfl, ?_⟩
    (refine ⟨rfl, rfl, ?_, ?_⟩ <;> repeat' (first | exact True.intro | rfl | decide | (refine And.intro ?_ ?_)))
    · exact di (by rw [wrap_i64 (by omega) (by omega)]; rfl)
    · have e : rnds h ws (k + 1) = rnd v (kk.getD k 0) (ws.getD k 0) := by rw [hv, hkk]; rfl
      show some (Ob.row .u64 _ _) = some (Ob.row .u64 _ (rnds h ws (k + 1)))
      rw [e]
      unfold rnd tmp2
      rw [← add2_assoc]
      rfl
  · have hk64 : k = 80 := by omega
    ((conv=>whnf);repeat'((first|(show(_=true→_)∧(_=false→_);first|refine gT ?_|refine gF ?_|refine gS ?_ ?_<;>(intro _h;try contradiction))|(show(_=false→_)∧(_=true→_);first|refine gU ?_|refine gV ?_|refine gZ ?_ ?_<;>(intro _h;try contradiction))|(intro _h;try contradiction)|(show _∧_;refine gA ?_)|fail);all_goals conv=>whnf))
    refine AWp.adopt 14 (.row .u64 117 []) rfl rfl ?_
    refine aloop (T := toldB) (ι := Nat) (fun i => [(0, .d (wd h)), (7, .own 0), (14, .own 1), (15, i64 i)]) (fun i => [(0, .row .u64 117 v), (1, .row .u64 117 ((List.range i).map fun i => add2 (h.getD i 0) (v.getD i 0)))]) 156 2
      (fun i => 8 - i) (fun i => i ≤ 8)
      ⟨0, [0, 1], rfl, by omega, by (refine ⟨rfl, rfl, ?_, ?_⟩ <;> repeat' (first | exact True.intro | rfl | decide | (refine And.intro ?_ ?_)))⟩ ?_
    intro i hi
    rcases Nat.lt_or_ge i 8 with h8 | h8
    · ((conv=>whnf);repeat'((first|(show(_=true→_)∧(_=false→_);first|refine gT ?_|refine gF ?_|refine gS ?_ ?_<;>(intro _h;try contradiction))|(show(_=false→_)∧(_=true→_);first|refine gU ?_|refine gV ?_|refine gZ ?_ ?_<;>(intro _h;try contradiction))|(intro _h;try contradiction)|(show _∧_;refine gA ?_)|fail);all_goals conv=>whnf))
      refine ⟨by rw [List.length_map, List.length_range]; show (i + 1) * 8 ≤ 140737488355328; omega, ?_⟩
      ((conv=>whnf);repeat'((first|(show(_=true→_)∧(_=false→_);first|refine gT ?_|refine gF ?_|refine gS ?_ ?_<;>(intro _h;try contradiction))|(show(_=false→_)∧(_=true→_);first|refine gU ?_|refine gV ?_|refine gZ ?_ ?_<;>(intro _h;try contradiction))|(intro _h;try contradiction)|(show _∧_;refine gA ?_)|fail);all_goals conv=>whnf))
      refine ⟨i + 1, [0, 1], by omega, by omega, rfl, ?_⟩
      (refine ⟨rfl, rfl, ?_, ?_⟩ <;> repeat' (first | exact True.intro | rfl | decide | (refine And.intro ?_ ?_)))
      · exact di (by rw [wrap_i64 (by omega) (by omega)]; rfl)
      · show some (Ob.row .u64 _ _) = some (Ob.row .u64 _ _)
        rw [map_range_succ]
        rfl
    · have hi8 : i = 8 := by omega
      subst hi8
      ((conv=>whnf);repeat'((first|(show(_=true→_)∧(_=false→_);first|refine gT ?_|refine gF ?_|refine gS ?_ ?_<;>(intro _h;try contradiction))|(show(_=false→_)∧(_=true→_);first|refine gU ?_|refine gV ?_|refine gZ ?_ ?_<;>(intro _h;try contradiction))|(intro _h;try contradiction)|(show _∧_;refine gA ?_)|fail);all_goals conv=>whnf))
      refine Ends.imm rfl ?_
      have e0 : blkS h b = (List.range 8).map fun i => add2 (h.getD i 0) (v.getD i 0) := by unfold blkS; rw [hv, hk64, hws]
      rw [e0]

theorem s_refPad (b : List Int) (hl : b.length ≤ 100000000) : Imm Tryd.prog 106 [.d (byt b)] (fun r => r = .d (byt (padS b))) := by
  obtain ⟨Z, hZ⟩ : ∃ Z, Z = (239 - b.length % 128) % 128 := ⟨_, rfl⟩
  have e8 : IntKind.u64.wrap (IntKind.u64.wrap (b.length : Int) * 8) = ((8 * b.length : Nat) : Int) := by
    rw [wrap_u64 (n := (b.length : Int)) (by omega) (by omega), wrap_u64 (by omega) (by omega)]; omega
  (refine Imm.of_awp told0 [2] Tryd.func106 rfl (by decide) (Nat.le_of_ble_eq_true rfl) ?_; intro _w0 _S0 _E0 _B0; ((conv=>whnf);repeat'((first|(show(_=true→_)∧(_=false→_);first|refine nTt ?_|refine nFf ?_|refine gS ?_ ?_<;>(intro _h;try contradiction))|(show(_=false→_)∧(_=true→_);first|refine nU ?_|refine nV ?_|refine gZ ?_ ?_<;>(intro _h;try contradiction))|(intro _h;try contradiction)|(show _∧_;refine gA ?_)|fail);all_goals conv=>whnf)))
  refine ⟨by show (0 + b.length) * 1 ≤ 140737488355328; omega, ?_⟩
  ((conv=>whnf);repeat'((first|(show(_=true→_)∧(_=false→_);first|refine gT ?_|refine gF ?_|refine gS ?_ ?_<;>(intro _h;try contradiction))|(show(_=false→_)∧(_=true→_);first|refine gU ?_|refine gV ?_|refine gZ ?_ ?_<;>(intro _h;try contradiction))|(intro _h;try contradiction)|(show _∧_;refine gA ?_)|fail);all_goals conv=>whnf))
  refine ⟨by show (b.length + 1) * 1 ≤ 140737488355328; omega, ?_⟩
  ((conv=>whnf);repeat'((first|(show(_=true→_)∧(_=false→_);first|refine gT ?_|refine gF ?_|refine gS ?_ ?_<;>(intro _h;try contradiction))|(show(_=false→_)∧(_=true→_);first|refine gU ?_|refine gV ?_|refine gZ ?_ ?_<;>(intro _h;try contradiction))|(intro _h;try contradiction)|(show _∧_;refine gA ?_)|fail);all_goals conv=>whnf))
  refine aloop (T := told0) (ι := Nat) (fun j => [(0, .d (byt b)), (3, .own 0)]) (fun j => [(0, .row .u8 5 (b ++ [128] ++ List.replicate j 0))]) 44 1
    (fun j => Z - j) (fun j => j ≤ Z)
    ⟨0, [0], rfl, by omega, by (refine ⟨rfl, rfl, ?_, ?_⟩ <;> repeat' (first | exact True.intro | rfl | decide | (refine And.intro ?_ ?_))); simp; rfl⟩ ?_
  intro j hj
  have hrl : (b ++ [128] ++ List.replicate j 0).length = b.length + 1 + j := by simp; omega
  have hmod : ((b ++ [128] ++ List.replicate j 0).length : Int).tmod 128 = (((b.length + 1 + j) % 128 : Nat) : Int) := by
    rw [hrl, Int.tmod_eq_emod_of_nonneg (by omega)]; omega
  rcases Nat.lt_or_ge j Z with hjz | hjz
  · have hne : ¬ ((b ++ [128] ++ List.replicate j 0).length : Int).tmod 128 = 112 := by rw [hmod]; omega
    ((conv=>whnf);repeat'((first|(show(_=true→_)∧(_=false→_);first|refine gT ?_|refine gF ?_|refine gS ?_ ?_<;>(intro _h;try contradiction))|(show(_=false→_)∧(_=true→_);first|refine gU ?_|refine gV ?_|refine gZ ?_ ?_<;>(intro _h;try contradiction))|(intro _h;try contradiction)|(show _∧_;refine gA ?_)|fail);all_goals conv=>whnf))
    refine ⟨by rw [hrl]; show (b.length + 1 + j + 1) * 1 ≤ 140737488355328; omega, ?_⟩
    ((conv=>whnf);repeat'((first|(show(_=true→_)∧(_=false→_);first|refine gT ?_|refine gF ?_|refine gS ?_ ?_<;>(intro _h;try contradiction))|(show(_=false→_)∧(_=true→_);first|refine gU ?_|refine gV ?_|refine gZ ?_ ?_<;>(intro _h;try contradiction))|(intro _h;try contradiction)|(show _∧_;refine gA ?_)|fail);all_goals conv=>whnf))
    refine ⟨j + 1, [0], by omega, by omega, rfl, ?_⟩
    (refine ⟨rfl, rfl, ?_, ?_⟩ <;> repeat' (first | exact True.intro | rfl | decide | (refine And.intro ?_ ?_)))
    show some (Ob.row .u8 _ _) = some (Ob.row .u8 _ _)
    rw [List.replicate_succ', ← List.append_assoc]
  · have hjz' : j = Z := by omega
    have heq : ((b ++ [128] ++ List.replicate j 0).length : Int).tmod 128 = 112 := by rw [hmod]; omega
    ((conv=>whnf);repeat'((first|(show(_=true→_)∧(_=false→_);first|refine gT ?_|refine gF ?_|refine gS ?_ ?_<;>(intro _h;try contradiction))|(show(_=false→_)∧(_=true→_);first|refine gU ?_|refine gV ?_|refine gZ ?_ ?_<;>(intro _h;try contradiction))|(intro _h;try contradiction)|(show _∧_;refine gA ?_)|fail);all_goals conv=>whnf))
    refine aloop (T := told0) (ι := Nat) (fun z => [(0, .d (byt b)), (3, .own 0), (4, i64 z)]) (fun z => [(0, .row .u8 5 (b ++ [128] ++ List.replicate j 0 ++ List.replicate z 0))]) 44 1
      (fun z => 8 - z) (fun z => z ≤ 8)
      ⟨0, [0], rfl, by omega, by (refine ⟨rfl, rfl, ?_, ?_⟩ <;> repeat' (first | exact True.intro | rfl | decide | (refine And.intro ?_ ?_))); simp; rfl⟩ ?_
    intro z hz
    have hzl : (b ++ [128] ++ List.replicate j 0 ++ List.replicate z 0).length = b.length + 1 + j + z := by rw [List.length_append, hrl, List.length_replicate]
    obtain ⟨pz, hpz⟩ : ∃ pz, pz = b ++ [128] ++ List.replicate j 0 := ⟨_, rfl⟩
    rcases Nat.lt_or_ge z 8 with hz8 | hz8
    · ((conv=>whnf);repeat'((first|(show(_=true→_)∧(_=false→_);first|refine gT ?_|refine gF ?_|refine gS ?_ ?_<;>(intro _h;try contradiction))|(show(_=false→_)∧(_=true→_);first|refine gU ?_|refine gV ?_|refine gZ ?_ ?_<;>(intro _h;try contradiction))|(intro _h;try contradiction)|(show _∧_;refine gA ?_)|fail);all_goals conv=>whnf))
      refine ⟨by rw [hzl]; show (b.length + 1 + j + z + 1) * 1 ≤ 140737488355328; omega, ?_⟩
      ((conv=>whnf);repeat'((first|(show(_=true→_)∧(_=false→_);first|refine gT ?_|refine gF ?_|refine gS ?_ ?_<;>(intro _h;try contradiction))|(show(_=false→_)∧(_=true→_);first|refine gU ?_|refine gV ?_|refine gZ ?_ ?_<;>(intro _h;try contradiction))|(intro _h;try contradiction)|(show _∧_;refine gA ?_)|fail);all_goals conv=>whnf))
      refine ⟨z + 1, [0], by omega, by omega, rfl, ?_⟩
      (refine ⟨rfl, rfl, ?_, ?_⟩ <;> repeat' (first | exact True.intro | rfl | decide | (refine And.intro ?_ ?_)))
      · exact di (by rw [wrap_i64 (by omega) (by omega)]; rfl)
      · show some (Ob.row .u8 _ _) = some (Ob.row .u8 _ _)
        rw [List.replicate_succ', ← List.append_assoc]
    have hz8' : z = 8 := by omega
    subst hz8'
    replace hrl := hzl
    ((conv=>whnf);repeat'((first|(show(_=true→_)∧(_=false→_);first|refine gT ?_|refine gF ?_|refine gS ?_ ?_<;>(intro _h;try contradiction))|(show(_=false→_)∧(_=true→_);first|refine gU ?_|refine gV ?_|refine gZ ?_ ?_<;>(intro _h;try contradiction))|(intro _h;try contradiction)|(show _∧_;refine gA ?_)|fail);all_goals conv=>whnf))
    refine aloop (T := told0) (ι := Nat) (fun i => [(3, .own 0), (5, .d (.int .u64 ((8 * b.length : Nat) : Int))), (6, i64 (7 - (i : Int)))]) (fun i => [(0, .row .u8 5 (b ++ [128] ++ List.replicate j 0 ++ List.replicate 8 0 ++ (be 8 (8 * b.length)).take i))]) 44 1
      (fun i => 8 - i) (fun i => i ≤ 8)
      ⟨0, [0], rfl, by omega, by
        (refine ⟨rfl, rfl, ?_, ?_⟩ <;> repeat' (first | exact True.intro | rfl | decide | (refine And.intro ?_ ?_)))
        · show AVal.d (.int .u64 _) = AVal.d (.int .u64 _)
          rw [e8]
        · simp; rfl⟩ ?_
    intro i hi
    rcases Nat.lt_or_ge i 8 with h8 | h8
    · have e1 : IntKind.i64.wrap (8 * (7 - (i : Int))) = ((8 * (7 - i) : Nat) : Int) := by rw [wrap_i64 (by omega) (by omega)]; omega
      have e0 : (0 : Int) ≤ IntKind.i64.wrap (8 * (7 - (i : Int))) := by omega
      have hlen : (b ++ [128] ++ List.replicate j 0 ++ List.replicate 8 0 ++ (be 8 (8 * b.length)).take i).length = b.length + 1 + j + 8 + i := by
        rw [List.length_append, hrl, List.length_take, be_length]; omega
      have e2 : IntKind.u8.wrap ((((8 * b.length : Nat) : Int)) / 2 ^ min (IntKind.i64.wrap (8 * (7 - (i : Int)))).toNat IntKind.u64.bits) = ((8 * b.length / 256 ^ (8 - 1 - i) % 256 : Nat) : Int) := by
        rw [e1, Int.toNat_natCast, Nat.min_eq_left (by simp [IntKind.bits]; omega)]
        have : (2 : Int) ^ (8 * (7 - i)) = ((256 ^ (8 - 1 - i) : Nat) : Int) := by
          rw [Int.pow_mul]; push_cast; rfl
        rw [this, ← Int.natCast_ediv, u8w]
      ((conv=>whnf);repeat'((first|(show(_=true→_)∧(_=false→_);first|refine gT ?_|refine gF ?_|refine gS ?_ ?_<;>(intro _h;try contradiction))|(show(_=false→_)∧(_=true→_);first|refine gU ?_|refine gV ?_|refine gZ ?_ ?_<;>(intro _h;try contradiction))|(intro _h;try contradiction)|(show _∧_;refine gA ?_)|fail);all_goals conv=>whnf))
      refine ⟨by rw [hlen]; show (b.length + 1 + j + 8 + i + 1) * 1 ≤ 140737488355328; omega, ?_⟩
      ((conv=>whnf);repeat'((first|(show(_=true→_)∧(_=false→_);first|refine gT ?_|refine gF ?_|refine gS ?_ ?_<;>(intro _h;try contradiction))|(show(_=false→_)∧(_=true→_);first|refine gU ?_|refine gV ?_|refine gZ ?_ ?_<;>(intro _h;try contradiction))|(intro _h;try contradiction)|(show _∧_;refine gA ?_)|fail);all_goals conv=>whnf))
      refine ⟨i + 1, [0], by omega, by omega, rfl, ?_⟩
      (refine ⟨rfl, rfl, ?_, ?_⟩ <;> repeat' (first | exact True.intro | rfl | decide | (refine And.intro ?_ ?_)))
      · exact di (by rw [wrap_i64 (by omega) (by omega)]; omega)
      · show some (Ob.row .u8 _ _) = some (Ob.row .u8 _ _)
        rw [e2, be_take (by omega), ← List.append_assoc]
    · have hi8 : i = 8 := by omega
      ((conv=>whnf);repeat'((first|(show(_=true→_)∧(_=false→_);first|refine gT ?_|refine gF ?_|refine gS ?_ ?_<;>(intro _h;try contradiction))|(show(_=false→_)∧(_=true→_);first|refine gU ?_|refine gV ?_|refine gZ ?_ ?_<;>(intro _h;try contradiction))|(intro _h;try contradiction)|(show _∧_;refine gA ?_)|fail);all_goals conv=>whnf))
      refine Ends.imm rfl ?_
      rw [List.take_of_length_le (by rw [be_length]; omega), hjz', hZ]
      unfold padS
      rw [Nat.mod_eq_of_lt (a := 8 * b.length) (b := 18446744073709551616) (by omega)]

theorem padS_wfd {b : List Int} (hb : wfd b) : wfd (padS b) := by
  unfold padS
  exact (((hb.append (fun x hx => by simp at hx; omega)).append (fun x hx => by rw [List.eq_of_mem_replicate hx]; omega)).append (fun x hx => by rw [List.eq_of_mem_replicate hx]; omega)).append (be_wfd _ _)
theorem padS_le (b : List Int) : (padS b).length ≤ b.length + 145 := by
  simp [padS, be_length]; omega

def wfl (xs : List Int) : Prop := ∀ x ∈ xs, 0 ≤ x ∧ x < 18446744073709551616
theorem wfl.get {xs : List Int} (h : wfl xs) (i : Nat) : 0 ≤ xs.getD i 0 ∧ xs.getD i 0 < 18446744073709551616 := by
  rcases Nat.lt_or_ge i xs.length with hi | hi
  · rw [List.getD_eq_getElem?_getD, List.getElem?_eq_getElem hi]; exact h _ (List.getElem_mem hi)
  · rw [List.getD_eq_getElem?_getD, List.getElem?_eq_none hi]; exact ⟨by decide, by decide⟩
theorem blkS_wfl (s b : List Int) : wfl (blkS s b) := fun x hx => by
  unfold blkS at hx
  obtain ⟨i, _, rfl⟩ := List.mem_map.1 hx
  exact wrap32_range _
theorem H0_wfl : wfl H0 := by unfold wfl H0; intro x hx; simp only [List.mem_cons, List.not_mem_nil, or_false] at hx; rcases hx with rfl | rfl | rfl | rfl | rfl | rfl | rfl | rfl <;> omega
theorem foldS_wfl (p : List Int) : ∀ k, wfl (foldS H0 p k)
  | 0 => H0_wfl
  | k + 1 => blkS_wfl _ _

theorem byte4 (x : Int) (j : Nat) (m : Int) (hx : 0 ≤ x) (hj : j < 8) (hm : m = 8 * (7 - j : Nat)) : IntKind.u8.wrap (x / 2 ^ min m.toNat (IntKind.bits .u64)) = ((x.toNat / 256 ^ (8 - 1 - j) % 256 : Nat) : Int) := by
  obtain ⟨n, rfl⟩ : ∃ n : Nat, x = n := ⟨x.toNat, by omega⟩
  have e : m.toNat = 8 * (7 - j) := by omega
  rw [e, Nat.min_eq_left (by simp [IntKind.bits]; omega)]
  have : (2 : Int) ^ (8 * (7 - j)) = ((256 ^ (8 - 1 - j) : Nat) : Int) := by
    rw [Int.pow_mul]; push_cast; rfl
  rw [this, ← Int.natCast_ediv, u8w, Int.toNat_natCast]

def toldRS : AW.Told := ⟨fun _ => false, fun r i => if r == 2 && i == 0 then [3] else [], fun _ => .done⟩

theorem flat_take4 (xs : List Int) (k : Nat) (h : k < xs.length) : (xs.take (k + 1)).flatMap (fun x => be 8 x.toNat) = (xs.take k).flatMap (fun x => be 8 x.toNat) ++ be 8 (xs.getD k 0).toNat := by
  rw [take_snoc h, List.flatMap_append]; simp
theorem s_refSum (b : List Int) (hb : wfd b) (hl : b.length ≤ 100000000) : Imm Tryd.prog 74 [.d (byt b)] (fun r => r = .d (byt (sumS b))) := by
  have hpw := padS_wfd hb
  have hple := padS_le b
  have hpm := padS_len b
  have hsp := s_refPad b hl
  have hsum : sumS b = (foldS H0 (padS b) ((padS b).length / 128)).flatMap fun x => be 8 x.toNat := rfl
  obtain ⟨p, hp⟩ : ∃ p, p = padS b := ⟨_, rfl⟩
  rw [← hp] at hpw hple hpm hsp hsum
  (refine Imm.of_awp toldRS [2] Tryd.func74 rfl (by decide) (Nat.le_of_ble_eq_true rfl) ?_; intro _w0 _S0 _E0 _B0; ((conv=>whnf);repeat'((first|(show(_=true→_)∧(_=false→_);first|refine nTt ?_|refine nFf ?_|refine gS ?_ ?_<;>(intro _h;try contradiction))|(show(_=false→_)∧(_=true→_);first|refine nU ?_|refine nV ?_|refine gZ ?_ ?_<;>(intro _h;try contradiction))|(intro _h;try contradiction)|(show _∧_;refine gA ?_)|fail);all_goals conv=>whnf)))
  refine acallI hsp rfl fun r hr => ?_
  subst hr
  ((conv=>whnf);repeat'((first|(show(_=true→_)∧(_=false→_);first|refine gT ?_|refine gF ?_|refine gS ?_ ?_<;>(intro _h;try contradiction))|(show(_=false→_)∧(_=true→_);first|refine gU ?_|refine gV ?_|refine gZ ?_ ?_<;>(intro _h;try contradiction))|(intro _h;try contradiction)|(show _∧_;refine gA ?_)|fail);all_goals conv=>whnf))
  refine aloop (T := toldRS) (ι := Nat) (fun k => [(3, .d (wd (foldS H0 p k))), (4, .d (byt p)), (5, i64 (128 * k : Nat))]) (fun _ => []) 45 0
    (fun k => p.length / 128 - k) (fun k => 128 * k ≤ p.length)
    ⟨0, [], rfl, by omega, by (refine ⟨rfl, rfl, ?_, ?_⟩ <;> repeat' (first | exact True.intro | rfl | decide | (refine And.intro ?_ ?_)))⟩ ?_
  intro k hk
  have hfl := foldS_len H0 p rfl k
  have hfw := foldS_wfl p k
  rcases Nat.lt_or_ge (128 * k) p.length with hlt | hge
  · have e1 : IntKind.i64.wrap (((128 * k : Nat) : Int) + 128) = ((128 * k + 128 : Nat) : Int) := by rw [wrap_i64 (by omega) (by omega)]; omega
    ((conv=>whnf);repeat'((first|(show(_=true→_)∧(_=false→_);first|refine gT ?_|refine gF ?_|refine gS ?_ ?_<;>(intro _h;try contradiction))|(show(_=false→_)∧(_=true→_);first|refine gU ?_|refine gV ?_|refine gZ ?_ ?_<;>(intro _h;try contradiction))|(intro _h;try contradiction)|(show _∧_;refine gA ?_)|fail);all_goals conv=>whnf))
    refine acallI (s_refBlock (foldS H0 p k) (cutB p (128 * k) 128) hfl (hpw.cut _ _) (cutB_len (by omega))) (by rw [e1]; rfl) fun r hr => ?_
    subst hr
    ((conv=>whnf);repeat'((first|(show(_=true→_)∧(_=false→_);first|refine gT ?_|refine gF ?_|refine gS ?_ ?_<;>(intro _h;try contradiction))|(show(_=false→_)∧(_=true→_);first|refine gU ?_|refine gV ?_|refine gZ ?_ ?_<;>(intro _h;try contradiction))|(intro _h;try contradiction)|(show _∧_;refine gA ?_)|fail);all_goals conv=>whnf))
    refine ⟨k + 1, [], by omega, by omega, rfl, ?_⟩
    (refine ⟨rfl, rfl, ?_, ?_⟩ <;> repeat' (first | exact True.intro | rfl | decide | (refine And.intro ?_ ?_)))
    exact di (by rw [e1]; omega)
  · have hkk : p.length / 128 = k := by omega
    rw [hkk] at hsum
    obtain ⟨v, hv⟩ : ∃ v, v = foldS H0 p k := ⟨_, rfl⟩
    rw [← hv] at hfl hfw hsum ⊢
    ((conv=>whnf);repeat'((first|(show(_=true→_)∧(_=false→_);first|refine gT ?_|refine gF ?_|refine gS ?_ ?_<;>(intro _h;try contradiction))|(show(_=false→_)∧(_=true→_);first|refine gU ?_|refine gV ?_|refine gZ ?_ ?_<;>(intro _h;try contradiction))|(intro _h;try contradiction)|(show _∧_;refine gA ?_)|fail);all_goals conv=>whnf))
    refine AWp.adopt 6 (.row .u8 5 []) rfl rfl ?_
    refine aloop (T := toldRS) (ι := Nat) (fun i => [(3, .d (wd v)), (6, .own 0), (7, i64 i)]) (fun i => [(0, .row .u8 5 ((v.take i).flatMap fun x => be 8 x.toNat))]) 45 1
      (fun i => 8 - i) (fun i => i ≤ 8)
      ⟨0, [0], rfl, by omega, by (refine ⟨rfl, rfl, ?_, ?_⟩ <;> repeat' (first | exact True.intro | rfl | decide | (refine And.intro ?_ ?_)))⟩ ?_
    intro i hi
    rcases Nat.lt_or_ge i 8 with h8 | h8
    · have hf4 := flat_take4 v i (by omega)
      have hfll := flat_len (v.take i)
      rw [List.length_take, Nat.min_eq_left (by omega)] at hfll
      ((conv=>whnf);repeat'((first|(show(_=true→_)∧(_=false→_);first|refine gT ?_|refine gF ?_|refine gS ?_ ?_<;>(intro _h;try contradiction))|(show(_=false→_)∧(_=true→_);first|refine gU ?_|refine gV ?_|refine gZ ?_ ?_<;>(intro _h;try contradiction))|(intro _h;try contradiction)|(show _∧_;refine gA ?_)|fail);all_goals conv=>whnf))
      refine aloop (T := toldRS) (ι := Nat) (fun j => [(3, .d (wd v)), (6, .own 0), (7, i64 i), (8, i64 (7 - (j : Int)))]) (fun j => [(0, .row .u8 5 ((v.take i).flatMap (fun x => be 8 x.toNat) ++ (be 8 (v.getD i 0).toNat).take j))]) 45 1
        (fun j => 8 - j) (fun j => j ≤ 8)
        ⟨0, [0], rfl, by omega, by (refine ⟨rfl, rfl, ?_, ?_⟩ <;> repeat' (first | exact True.intro | rfl | decide | (refine And.intro ?_ ?_))); simp; rfl⟩ ?_
      intro j hj
      have hx := hfw.get i
      have hlen : ((v.take i).flatMap (fun x => be 8 x.toNat) ++ (be 8 (v.getD i 0).toNat).take j).length = 8 * i + j := by
        rw [List.length_append, hfll, List.length_take, be_length]; omega
      rcases Nat.lt_or_ge j 8 with h4 | h4
      · have e1 : IntKind.i64.wrap (8 * (7 - (j : Int))) = 8 * ((7 - j : Nat) : Int) := by rw [wrap_i64 (by omega) (by omega)]; omega
        have e0 : (0 : Int) ≤ IntKind.i64.wrap (8 * (7 - (j : Int))) := by omega
        have e2 := byte4 (v.getD i 0) j _ hx.1 h4 e1
        ((conv=>whnf);repeat'((first|(show(_=true→_)∧(_=false→_);first|refine gT ?_|refine gF ?_|refine gS ?_ ?_<;>(intro _h;try contradiction))|(show(_=false→_)∧(_=true→_);first|refine gU ?_|refine gV ?_|refine gZ ?_ ?_<;>(intro _h;try contradiction))|(intro _h;try contradiction)|(show _∧_;refine gA ?_)|fail);all_goals conv=>whnf))
        refine ⟨by rw [hlen]; show (8 * i + j + 1) * 1 ≤ 140737488355328; omega, ?_⟩
        ((conv=>whnf);repeat'((first|(show(_=true→_)∧(_=false→_);first|refine gT ?_|refine gF ?_|refine gS ?_ ?_<;>(intro _h;try contradiction))|(show(_=false→_)∧(_=true→_);first|refine gU ?_|refine gV ?_|refine gZ ?_ ?_<;>(intro _h;try contradiction))|(intro _h;try contradiction)|(show _∧_;refine gA ?_)|fail);all_goals conv=>whnf))
        refine ⟨j + 1, [0], by omega, by omega, rfl, ?_⟩
        (refine ⟨rfl, rfl, ?_, ?_⟩ <;> repeat' (first | exact True.intro | rfl | decide | (refine And.intro ?_ ?_)))
        · exact di (by rw [wrap_i64 (by omega) (by omega)]; omega)
        · show some (Ob.row .u8 _ _) = some (Ob.row .u8 _ _)
          rw [Int.toNat_natCast, e2, be_take (by omega), ← List.append_assoc]
      · have hj4 : j = 8 := by omega
        ((conv=>whnf);repeat'((first|(show(_=true→_)∧(_=false→_);first|refine gT ?_|refine gF ?_|refine gS ?_ ?_<;>(intro _h;try contradiction))|(show(_=false→_)∧(_=true→_);first|refine gU ?_|refine gV ?_|refine gZ ?_ ?_<;>(intro _h;try contradiction))|(intro _h;try contradiction)|(show _∧_;refine gA ?_)|fail);all_goals conv=>whnf))
        refine ⟨i + 1, [0], by omega, by omega, rfl, ?_⟩
        (refine ⟨rfl, rfl, ?_, ?_⟩ <;> repeat' (first | exact True.intro | rfl | decide | (refine And.intro ?_ ?_)))
        · exact di (by rw [wrap_i64 (by omega) (by omega)]; rfl)
        · show some (Ob.row .u8 _ _) = some (Ob.row .u8 _ _)
          rw [hf4, List.take_of_length_le (l := be 8 _) (by rw [be_length]; omega)]
    · have hi8 : i = 8 := by omega
      ((conv=>whnf);repeat'((first|(show(_=true→_)∧(_=false→_);first|refine gT ?_|refine gF ?_|refine gS ?_ ?_<;>(intro _h;try contradiction))|(show(_=false→_)∧(_=true→_);first|refine gU ?_|refine gV ?_|refine gZ ?_ ?_<;>(intro _h;try contradiction))|(intro _h;try contradiction)|(show _∧_;refine gA ?_)|fail);all_goals conv=>whnf))
      refine Ends.imm rfl ?_
      rw [hsum, hi8, List.take_of_length_le (by omega)]
end Go.Proofs.YtniaeiikdgbnfaaDoor.R.L
