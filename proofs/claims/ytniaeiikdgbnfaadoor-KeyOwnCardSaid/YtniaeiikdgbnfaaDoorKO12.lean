/- Parts S6, S8, S7, S9, T1, AW39, K26. No condition of its own. -/
import Derived.Test.YtniaeiikdgbnfaaDoorKO11
import Derived.Test.YtniaeiikdgbnfaaDoorKO6
import Derived.Test.YtniaeiikdgbnfaaDoorKO10
import Derived.Lib.LaidTab

namespace Go.Proofs.YtniaeiikdgbnfaaDoor.R
open Go Go.RowKit Go.Proofs Go.Proofs.YtniaeiikdgbnfaaDoor.AW
set_option linter.unusedSectionVars false
variable [Globs]
set_option maxRecDepth 100000
set_option linter.unusedSimpArgs false
set_option linter.unusedVariables false
set_option maxHeartbeats 4000000

theorem cutB_app (t b : List Int) {off len : Nat} (h : off + len ≤ t.length) : cutB (t ++ b) off len = cutB t off len := by
  unfold cutB
  rw [List.take_append_of_le_length h]
theorem cutB_drop (t : List Int) (k off len : Nat) : cutB (t.drop k) off len = cutB t (k + off) len := by
  unfold cutB
  rw [List.take_drop, List.drop_drop, ← Nat.add_assoc]
theorem foldS_app (s t b : List Int) : ∀ {k : Nat}, 64 * k ≤ t.length → foldS s (t ++ b) k = foldS s t k
  | 0, _ => rfl
  | k + 1, h => by simp only [foldS]; rw [foldS_app s t b (show 64 * k ≤ t.length by omega), cutB_app _ _ (by omega)]
theorem foldS_split (s p : List Int) (k : Nat) : ∀ j, foldS s p (k + j) = foldS (foldS s p k) (p.drop (64 * k)) j
  | 0 => rfl
  | j + 1 => by
    rw [← Nat.add_assoc]
    simp only [foldS]
    rw [foldS_split s p k j, cutB_drop, Nat.mul_add]

/-- The state, what is left, and how many there were, behind a text. -/
def stS (t : List Int) : List Int := foldS H0 t (t.length / 64)
def reS (t : List Int) : List Int := t.drop (64 * (t.length / 64))
theorem stS_len (t : List Int) : (stS t).length = 8 := foldS_len _ _ rfl _
theorem reS_len (t : List Int) : (reS t).length = t.length % 64 := by simp [reS]; omega
theorem reS_wfd {t : List Int} (h : wfd t) : wfd (reS t) := h.drop _
theorem stS_app (t b : List Int) : stS (t ++ b) = foldS (stS t) (reS t ++ b) ((reS t ++ b).length / 64) ∧ reS (t ++ b) = (reS t ++ b).drop (64 * ((reS t ++ b).length / 64)) := by
  have hl := reS_len t
  have e : (t ++ b).length / 64 = t.length / 64 + (reS t ++ b).length / 64 := by simp [hl]; omega
  have e2 : (t ++ b).drop (64 * (t.length / 64)) = reS t ++ b := by
    unfold reS
    rw [List.drop_append_of_le_length (by omega)]
  constructor
  · unfold stS
    rw [e, foldS_split, e2, foldS_app H0 t b (by omega)]
  · rw [show reS (t ++ b) = (t ++ b).drop (64 * ((t ++ b).length / 64)) from rfl, e, Nat.mul_add, ← List.drop_drop, e2]

def FIRST : D := .agg (H0.map (D.int .u32))

theorem s_new (hF : Globs.gl 1 = some FIRST) : CSpec Tryd.prog 98 [] [] 0
    (fun st nx r => st = [(1, .row .u8 5 []), (0, .cell 136 (hashC H0 (.own 1) 0))] ∧ nx = 2 ∧ r = .optr 0 0) := by
  have h : CSpec Tryd.prog 98 [] [] 0 (fun st nx r => st = [(0, .cell 136 (hashC H0 (.nls (byt [])) 0))] ∧ nx = 1 ∧ r = .optr 0 0) := by
    refine CSpec.ends (CSpec.of_awp told0 [] Tryd.func98 rfl (by decide) (Nat.le_of_ble_eq_true rfl) fun _w0 _S0 _E0 _B0 => ?_)
    ((conv=>whnf);repeat'((first|(show(_=true→_)∧(_=false→_);first|refine nTt ?_|refine nFf ?_|refine gS ?_ ?_<;>(intro _h;try contradiction))|(show(_=false→_)∧(_=true→_);first|refine nU ?_|refine nV ?_|refine gZ ?_ ?_<;>(intro _h;try contradiction))|(intro _h;try contradiction)|(show _∧_;refine gA ?_)|fail);all_goals conv=>whnf))
    rw [aev_global hF]
    ((conv=>whnf);repeat'((first|(show(_=true→_)∧(_=false→_);first|refine nTt ?_|refine nFf ?_|refine gS ?_ ?_<;>(intro _h;try contradiction))|(show(_=false→_)∧(_=true→_);first|refine nU ?_|refine nV ?_|refine gZ ?_ ?_<;>(intro _h;try contradiction))|(intro _h;try contradiction)|(show _∧_;refine gA ?_)|fail);all_goals conv=>whnf))
    exact ⟨[0], [(0, .cell 136 (hashC H0 (.nls (byt [])) 0))], .optr 0 0, ⟨rfl, ⟨⟨by decide, rfl⟩, trivial⟩, rfl⟩, rfl, rfl, rfl⟩
  refine h.adoptPart fun st nx r ⟨e1, e2, e3⟩ => .inr ⟨0, 136, hashC H0 (.nls (byt [])) 0, 8, .nls (byt []), .u8, 5, by rw [e1]; rfl, rfl, rfl, ?_, ?_, e3⟩
  · rw [e1, e2]; rfl
  · rw [e2]

def toldWr : AW.Told := ⟨fun f => f == 116, fun r i => if r == 1 && i == 7 then [20] else [], fun _ => .done⟩

/-- A copy, of whatever length: the caller's own. -/
theorem k_cloneA (xs : List Int) (hl : xs.length ≤ 1000000000) : CSpec Tryd.prog 47 [.d (byt xs)] [] 0 (fun st nx r => st = [(0, .row .u8 5 xs)] ∧ nx = 1 ∧ r = .own 0) := by
  have h : CSpec Tryd.prog 47 [.d (byt xs)] [] 0 (fun st nx r => st = [(0, .row .u8 5 xs)] ∧ nx = 1 ∧ r = .own 0 ∨ xs = [] ∧ st = [] ∧ nx = 0 ∧ isEm r = true) := by
    refine CSpec.ends (CSpec.of_awp told0 [] Tryd.func47 rfl (by decide) (Nat.le_of_ble_eq_true rfl) fun _w0 _S0 _E0 _B0 => ?_)
    ((conv=>whnf);repeat'((first|(show(_=true→_)∧(_=false→_);first|refine nTt ?_|refine nFf ?_|refine gS ?_ ?_<;>(intro _h;try contradiction))|(show(_=false→_)∧(_=true→_);first|refine nU ?_|refine nV ?_|refine gZ ?_ ?_<;>(intro _h;try contradiction))|(intro _h;try contradiction)|(show _∧_;refine gA ?_)|fail);all_goals conv=>whnf))
    refine ⟨fun h0 => ?_, ?_⟩
    · ((conv=>whnf);repeat'((first|(show(_=true→_)∧(_=false→_);first|refine nTt ?_|refine nFf ?_|refine gS ?_ ?_<;>(intro _h;try contradiction))|(show(_=false→_)∧(_=true→_);first|refine nU ?_|refine nV ?_|refine gZ ?_ ?_<;>(intro _h;try contradiction))|(intro _h;try contradiction)|(show _∧_;refine gA ?_)|fail);all_goals conv=>whnf))
      exact ⟨[], [], .nls (byt []), ⟨rfl, trivial, rfl⟩, .inr ⟨h0, rfl, rfl, rfl⟩⟩
    · ((conv=>whnf);repeat'((first|(show(_=true→_)∧(_=false→_);first|refine nTt ?_|refine nFf ?_|refine gS ?_ ?_<;>(intro _h;try contradiction))|(show(_=false→_)∧(_=true→_);first|refine nU ?_|refine nV ?_|refine gZ ?_ ?_<;>(intro _h;try contradiction))|(intro _h;try contradiction)|(show _∧_;refine gA ?_)|fail);all_goals conv=>whnf))
      refine ⟨by show (0 + xs.length) * 1 ≤ 140737488355328; omega, ?_⟩
      ((conv=>whnf);repeat'((first|(show(_=true→_)∧(_=false→_);first|refine nTt ?_|refine nFf ?_|refine gS ?_ ?_<;>(intro _h;try contradiction))|(show(_=false→_)∧(_=true→_);first|refine nU ?_|refine nV ?_|refine gZ ?_ ?_<;>(intro _h;try contradiction))|(intro _h;try contradiction)|(show _∧_;refine gA ?_)|fail);all_goals conv=>whnf))
      exact ⟨[0], [(0, .row .u8 5 xs)], .own 0, ⟨rfl, ⟨⟨by decide, rfl⟩, trivial⟩, rfl⟩, .inl ⟨rfl, rfl, rfl⟩⟩
  refine h.adoptR fun st nx r h => ?_
  rcases h with h | ⟨rfl, rfl, rfl, h⟩
  · exact .inl h
  · exact .inr ⟨h, .u8, 5, rfl, rfl, rfl⟩

theorem drop64 (all : List Int) (k : Nat) : (((all.drop (64 * k)).take (Int.toNat 64)).drop 0) = cutB all (64 * k) 64 := by
  unfold cutB
  rw [List.drop_zero, List.take_drop]; rfl
theorem drop64' (all : List Int) (k : Nat) : ((all.drop (64 * k)).take (all.drop (64 * k)).length).drop (Int.toNat 64) = all.drop (64 * (k + 1)) := by
  rw [List.take_length, List.drop_drop]; rfl

theorem s_write (hG : Globs.gl 4 = some ROUNDS) (s xs b : List Int) (cnt : Int) (hs : s.length = 8) (hx : wfd xs) (hb : wfd b) (hl : xs.length + b.length ≤ 100000000) :
    CSpec Tryd.prog 99 [.optr 0 0, .d (byt b)] [(0, .cell 136 (hashC s (.own 1) cnt)), (1, .row .u8 5 xs)] 2
      (fun st nx r => st = [(2, .row .u8 5 ((xs ++ b).drop (64 * ((xs ++ b).length / 64)))), (0, .cell 136 (hashC (foldS s (xs ++ b) ((xs ++ b).length / 64)) (.own 2) (IntKind.u64.wrap (cnt + b.length))))] ∧ nx = 3 ∧ r = .tup []) := by
  obtain ⟨all, hall⟩ : ∃ all, all = xs ++ b := ⟨_, rfl⟩
  have hal : all.length = xs.length + b.length := by rw [hall, List.length_append]
  have haw : wfd all := by rw [hall]; exact hx.append hb
  have hw0 : IntKind.u64.wrap (b.length : Int) = b.length := wrap_u64 (by omega) (by omega)
  rw [← hall]
  refine CSpec.ends (CSpec.of_awp toldWr [] Tryd.func99 rfl (by decide) (Nat.le_of_ble_eq_true rfl) fun _w0 _S0 _E0 _B0 => ?_)
  ((conv=>whnf);repeat'((first|(show(_=true→_)∧(_=false→_);first|refine gT ?_|refine gF ?_|refine gS ?_ ?_<;>(intro _h;try contradiction))|(show(_=false→_)∧(_=true→_);first|refine gU ?_|refine gV ?_|refine gZ ?_ ?_<;>(intro _h;try contradiction))|(intro _h;try contradiction)|(show _∧_;refine gA ?_)|fail);all_goals conv=>whnf))
  refine AWp.renew 1 rfl ?_
  refine AWp.scope (T := toldWr) (ι := Nat) (L := 0) rfl (fun k => [(0, .optr 0 0)]) (fun k => [(0, .cell 136 (hashC (foldS s all k) (.d (byt (all.drop (64 * k)))) (IntKind.u64.wrap (cnt + IntKind.u64.wrap b.length))))]) 52 2
    (fun k => all.length - 64 * k) (fun k => 64 * k ≤ all.length) ?_ ?_
  · subst hall
    ((conv=>whnf);repeat'((first|(show(_=true→_)∧(_=false→_);first|refine gT ?_|refine gF ?_|refine gS ?_ ?_<;>(intro _h;try contradiction))|(show(_=false→_)∧(_=true→_);first|refine gU ?_|refine gV ?_|refine gZ ?_ ?_<;>(intro _h;try contradiction))|(intro _h;try contradiction)|(show _∧_;refine gA ?_)|fail);all_goals conv=>whnf))
    refine ⟨by show (xs.length + b.length) * 1 ≤ 140737488355328; omega, ?_⟩
    ((conv=>whnf);repeat'((first|(show(_=true→_)∧(_=false→_);first|refine gT ?_|refine gF ?_|refine gS ?_ ?_<;>(intro _h;try contradiction))|(show(_=false→_)∧(_=true→_);first|refine gU ?_|refine gV ?_|refine gZ ?_ ?_<;>(intro _h;try contradiction))|(intro _h;try contradiction)|(show _∧_;refine gA ?_)|fail);all_goals conv=>whnf))
    · refine acall [0] (s_take hG s (cutB (xs ++ b) 0 64) (xs ++ b) _ hs ((hx.append hb).cut _ _) (cutB_len (by omega))) rfl ⟨⟨by decide, rfl⟩, trivial⟩ rfl (fun h => Bool.noConfusion h) ?_
      rintro st nx r ⟨rfl, rfl, rfl⟩
      ((conv=>whnf);repeat'((first|(show(_=true→_)∧(_=false→_);first|refine gT ?_|refine gF ?_|refine gS ?_ ?_<;>(intro _h;try contradiction))|(show(_=false→_)∧(_=true→_);first|refine gU ?_|refine gV ?_|refine gZ ?_ ?_<;>(intro _h;try contradiction))|(intro _h;try contradiction)|(show _∧_;refine gA ?_)|fail);all_goals conv=>whnf))
      refine ⟨1, [0, 1], by omega, rfl, ?_⟩
      have hd := drop64' (xs ++ b) 0
      rw [Nat.mul_zero, List.drop_zero] at hd
      rw [← hd]
      (refine ⟨rfl, rfl, ?_, ?_⟩ <;> repeat' (first | exact True.intro | rfl | decide | (refine And.intro ?_ ?_)))
    · have hkk : (xs ++ b).length / 64 = 0 := by omega
      refine acall [] (k_cloneA (xs ++ b) (by rw [List.length_append]; omega)) rfl (by simp [stIn]) rfl (fun _ => rfl) ?_
      rintro st nx r ⟨rfl, rfl, rfl⟩
      ((conv=>whnf);repeat'((first|(show(_=true→_)∧(_=false→_);first|refine gT ?_|refine gF ?_|refine gS ?_ ?_<;>(intro _h;try contradiction))|(show(_=false→_)∧(_=true→_);first|refine gU ?_|refine gV ?_|refine gZ ?_ ?_<;>(intro _h;try contradiction))|(intro _h;try contradiction)|(show _∧_;refine gA ?_)|fail);all_goals conv=>whnf))
      refine ⟨[0, 1, 3], [(2, .row .u8 5 ((xs ++ b).drop (64 * ((xs ++ b).length / 64)))), (0, .cell 136 (hashC (foldS s (xs ++ b) ((xs ++ b).length / 64)) (.own 2) (IntKind.u64.wrap (cnt + b.length))))], .tup [], ⟨rfl, ?_, rfl⟩, rfl, rfl, rfl⟩
      rw [hkk, Nat.mul_zero, List.drop_zero]
      refine ⟨⟨by decide, rfl⟩, ⟨by decide, ?_⟩, trivial⟩
      rw [hw0]
      rfl
  · intro k hk
    have hdl : (all.drop (64 * k)).length = all.length - 64 * k := by simp
    have hfl := foldS_len s all hs k
    rcases Nat.lt_or_ge (all.length - 64 * k) 64 with h64 | h64
    · have hkk : all.length / 64 = k := by omega
      ((conv=>whnf);repeat'((first|(show(_=true→_)∧(_=false→_);first|refine gT ?_|refine gF ?_|refine gS ?_ ?_<;>(intro _h;try contradiction))|(show(_=false→_)∧(_=true→_);first|refine gU ?_|refine gV ?_|refine gZ ?_ ?_<;>(intro _h;try contradiction))|(intro _h;try contradiction)|(show _∧_;refine gA ?_)|fail);all_goals conv=>whnf))
      refine acall [] (k_cloneA (all.drop (64 * k)) (by omega)) rfl (by simp [stIn]) rfl (fun _ => rfl) ?_
      rintro st nx r ⟨rfl, rfl, rfl⟩
      ((conv=>whnf);repeat'((first|(show(_=true→_)∧(_=false→_);first|refine gT ?_|refine gF ?_|refine gS ?_ ?_<;>(intro _h;try contradiction))|(show(_=false→_)∧(_=true→_);first|refine gU ?_|refine gV ?_|refine gZ ?_ ?_<;>(intro _h;try contradiction))|(intro _h;try contradiction)|(show _∧_;refine gA ?_)|fail);all_goals conv=>whnf))
      refine ⟨[0, 1, 2], [(2, .row .u8 5 (all.drop (64 * (all.length / 64)))), (0, .cell 136 (hashC (foldS s all (all.length / 64)) (.own 2) (IntKind.u64.wrap (cnt + b.length))))], .tup [], ⟨rfl, ?_, rfl⟩, rfl, rfl, rfl⟩
      rw [hkk]
      refine ⟨⟨by decide, rfl⟩, ⟨by decide, ?_⟩, trivial⟩
      rw [hw0]
      rfl
    · ((conv=>whnf);repeat'((first|(show(_=true→_)∧(_=false→_);first|refine gT ?_|refine gF ?_|refine gS ?_ ?_<;>(intro _h;try contradiction))|(show(_=false→_)∧(_=true→_);first|refine gU ?_|refine gV ?_|refine gZ ?_ ?_<;>(intro _h;try contradiction))|(intro _h;try contradiction)|(show _∧_;refine gA ?_)|fail);all_goals conv=>whnf))
      refine acall [0] (s_take hG (foldS s all k) (cutB all (64 * k) 64) (all.drop (64 * k)) _ hfl (haw.cut _ _) (cutB_len (by omega))) rfl ⟨⟨by decide, rfl⟩, trivial⟩ (by rw [← drop64]; rfl) (fun h => Bool.noConfusion h) ?_
      rintro st nx r ⟨rfl, rfl, rfl⟩
      ((conv=>whnf);repeat'((first|(show(_=true→_)∧(_=false→_);first|refine gT ?_|refine gF ?_|refine gS ?_ ?_<;>(intro _h;try contradiction))|(show(_=false→_)∧(_=true→_);first|refine gU ?_|refine gV ?_|refine gZ ?_ ?_<;>(intro _h;try contradiction))|(intro _h;try contradiction)|(show _∧_;refine gA ?_)|fail);all_goals conv=>whnf))
      refine ⟨k + 1, [0, 1], by omega, by omega, rfl, ?_⟩
      (refine ⟨rfl, rfl, ?_, ?_⟩ <;> repeat' (first | exact True.intro | rfl | decide | (refine And.intro ?_ ?_)))
      show some (Ob.cell _ _) = some (Ob.cell _ _)
      rw [← drop64']
      rfl

def toldB : AW.Told := ⟨fun _ => false, fun _ _ => [], fun r =>
  if r == 7 || r == 10 then .take 0 (.take 1 (.take 2 (.take 4 (.take 5 (.take 6 (.take 9 (.take 10 (.take 11 (.one 3 (.one 7 (.take 8 (.one 12 (.take 13 (.take 14 .done))))))))))))))
  else if r == 8 then .take 0 (.take 1 (.take 2 (.take 3 (.take 4 (.take 5 (.take 6 (.take 7 (.take 8 (.take 9 (.take 10 (.take 11 (.take 12 (.take 13 (.take 14 (.take 15 (.take 16 .done))))))))))))))))
  else if r == 9 then .take 0 (.take 1 (.take 2 (.take 3 (.take 4 (.take 5 (.take 6 (.take 7 (.take 8 (.take 9 (.take 10 (.take 11 (.take 12 (.take 13 (.take 14 (.take 15 (.take 16 (.take 17 .done)))))))))))))))))
  else if r == 11 then .take 0 (.take 1 (.take 2 (.take 3 (.take 4 (.take 5 (.take 6 (.take 7 (.take 8 (.take 9 (.take 10 (.take 11 (.take 12 (.take 13 (.take 14 (.take 15 (.take 16 (.take 17 (.take 18 (.take 19 (.take 20 (.take 21 (.take 22 (.take 23 .done)))))))))))))))))))))))
  else if r == 12 then .take 0 (.take 1 (.take 2 (.take 3 (.take 4 (.take 5 (.take 6 (.take 7 (.take 8 (.take 9 (.take 10 (.take 11 (.take 12 (.take 13 (.take 14 (.take 15 (.take 16 (.take 17 (.take 18 (.take 19 (.take 20 (.take 21 (.take 22 (.take 23 (.take 24 (.take 25 (.take 26 (.take 27 (.one 28 (.take 29 .done)))))))))))))))))))))))))))))
  else if r == 17 then .take 0 (.take 1 (.take 2 (.take 3 (.take 4 (.take 5 (.take 6 (.take 7 (.take 8 (.take 9 (.one 10 (.one 11 (.take 12 .done))))))))))))
  else .done⟩

theorem blkS_wfl (s b : List Int) : wfl (blkS s b) := fun x hx => by
  unfold blkS at hx
  obtain ⟨i, _, rfl⟩ := List.mem_map.1 hx
  exact wrap32_range _
theorem byte4 (x : Int) (j : Nat) (m : Int) (hx : 0 ≤ x) (hj : j < 4) (hm : m = 8 * (3 - j : Nat)) : IntKind.u8.wrap (x / 2 ^ min m.toNat (IntKind.bits .u32)) = ((x.toNat / 256 ^ (4 - 1 - j) % 256 : Nat) : Int) := by
  obtain ⟨n, rfl⟩ : ∃ n : Nat, x = n := ⟨x.toNat, by omega⟩
  have e : m.toNat = 8 * (3 - j) := by omega
  rw [e, Nat.min_eq_left (by simp [IntKind.bits]; omega)]
  have : (2 : Int) ^ (8 * (3 - j)) = ((256 ^ (4 - 1 - j) : Nat) : Int) := by
    rw [Int.pow_mul]; push_cast; rfl
  rw [this, ← Int.natCast_ediv, u8w, Int.toNat_natCast]

def toldRS : AW.Told := ⟨fun _ => false, fun r i => if r == 2 && i == 0 then [3] else [], fun _ => .done⟩

theorem flat_take4 (xs : List Int) (k : Nat) (h : k < xs.length) : (xs.take (k + 1)).flatMap (fun x => be 4 x.toNat) = (xs.take k).flatMap (fun x => be 4 x.toNat) ++ be 4 (xs.getD k 0).toNat := by
  rw [take_snoc h, List.flatMap_append]; simp

def toldSum : AW.Told := ⟨fun f => f == 116 || f == 1004002, fun r i => if r == 9 && i == 2 then [54] else [], fun r =>
  if r == 1 then .take 0 (.take 1 (.take 2 (.take 4 (.take 5 (.take 6 (.take 7 (.four 3 (.three 8 (.two 9 (.two 10 (.two 11 (.one 12 (.one 13 .done)) 12 (.one 11 (.one 13 .done))) 12 (.one 10 (.one 11 (.one 13 .done)))) 12 (.one 9 (.one 10 (.one 11 (.one 13 .done))))) 9 (.two 8 (.two 10 (.two 11 (.one 12 (.one 13 .done)) 12 (.one 11 (.one 13 .done))) 12 (.one 10 (.one 11 (.one 13 .done)))) 12 (.one 8 (.one 10 (.one 11 (.one 13 .done))))) 12 (.two 8 (.one 9 (.one 10 (.one 11 (.one 13 .done)))) 9 (.one 8 (.one 10 (.one 11 (.one 13 .done)))))) 8 (.three 3 (.two 9 (.two 10 (.two 11 (.one 12 (.one 13 .done)) 12 (.one 11 (.one 13 .done))) 12 (.one 10 (.one 11 (.one 13 .done)))) 12 (.one 9 (.one 10 (.one 11 (.one 13 .done))))) 9 (.three 3 (.two 10 (.two 11 (.one 12 (.one 13 .done)) 12 (.one 11 (.one 13 .done))) 12 (.one 10 (.one 11 (.one 13 .done)))) 10 (.take 3 (.two 11 (.one 12 (.one 13 .done)) 12 (.one 11 (.one 13 .done)))) 12 (.two 3 (.one 10 (.one 11 (.one 13 .done))) 10 (.take 3 (.one 11 (.one 13 .done))))) 12 (.two 3 (.one 9 (.one 10 (.one 11 (.one 13 .done)))) 9 (.two 3 (.one 10 (.one 11 (.one 13 .done))) 10 (.take 3 (.one 11 (.one 13 .done)))))) 9 (.three 3 (.two 8 (.two 10 (.two 11 (.one 12 (.one 13 .done)) 12 (.one 11 (.one 13 .done))) 12 (.one 10 (.one 11 (.one 13 .done)))) 12 (.one 8 (.one 10 (.one 11 (.one 13 .done))))) 8 (.three 3 (.two 10 (.two 11 (.one 12 (.one 13 .done)) 12 (.one 11 (.one 13 .done))) 12 (.one 10 (.one 11 (.one 13 .done)))) 10 (.take 3 (.two 11 (.one 12 (.one 13 .done)) 12 (.one 11 (.one 13 .done)))) 12 (.two 3 (.one 10 (.one 11 (.one 13 .done))) 10 (.take 3 (.one 11 (.one 13 .done))))) 12 (.two 3 (.one 8 (.one 10 (.one 11 (.one 13 .done)))) 8 (.two 3 (.one 10 (.one 11 (.one 13 .done))) 10 (.take 3 (.one 11 (.one 13 .done)))))) 12 (.three 3 (.two 8 (.one 9 (.one 10 (.one 11 (.one 13 .done)))) 9 (.one 8 (.one 10 (.one 11 (.one 13 .done))))) 8 (.two 3 (.one 9 (.one 10 (.one 11 (.one 13 .done)))) 9 (.two 3 (.one 10 (.one 11 (.one 13 .done))) 10 (.take 3 (.one 11 (.one 13 .done))))) 9 (.two 3 (.one 8 (.one 10 (.one 11 (.one 13 .done)))) 8 (.two 3 (.one 10 (.one 11 (.one 13 .done))) 10 (.take 3 (.one 11 (.one 13 .done)))))))))))))
  else if r == 8 then .take 0 (.take 1 (.take 2 (.take 3 (.take 4 (.take 7 (.one 5 (.take 6 (.take 8 (.take 9 (.one 10 (.one 11 (.take 12 (.one 13 .done)))))))))))))
  else .done⟩

/-- What is left, a bit 1, noughts, and how many bits there were. -/
def endP (rest : List Int) (cnt : Nat) : List Int := rest ++ [128] ++ List.replicate ((119 - rest.length % 64) % 64) 0 ++ be 8 (8 * cnt % 18446744073709551616)

theorem k_chunk (xs : List Int) : Imm Tryd.prog 117 [.d (byt xs), i64 64] (fun r => r = .d (.fn 130 [.ptr (byt xs), .ptr (.int .i64 64)])) := by
  (refine Imm.of_awp (⟨fun _ => false, fun r i => if r == 3 && i == 0 then [2, 3] else [], fun _ => .done⟩ : AW.Told) [] Tryd.func117 rfl (by decide) (Nat.le_of_ble_eq_true rfl) ?_; intro _w0 _S0 _E0 _B0; ((conv=>whnf);repeat'((first|(show(_=true→_)∧(_=false→_);first|refine gT ?_|refine gF ?_|refine gS ?_ ?_<;>(intro _h;try contradiction))|(show(_=false→_)∧(_=true→_);first|refine gU ?_|refine gV ?_|refine gZ ?_ ?_<;>(intro _h;try contradiction))|(intro _h;try contradiction)|(show _∧_;refine gA ?_)|fail);all_goals conv=>whnf)))
  exact Ends.imm rfl rfl

theorem s_sum (hG : Globs.gl 4 = some ROUNDS) (s rest : List Int) (cnt : Nat) (hs : s.length = 8) (hr : wfd rest) (hl : rest.length < 64) (hc : cnt ≤ 1000000000) :
    CSpec Tryd.prog 100 [.optr 0 0] [(0, .cell 136 (hashC s (.own 1) cnt)), (1, .row .u8 5 rest)] 2
      (fun st nx r => st = [(0, .cell 136 (hashC s (.own 1) cnt)), (1, .row .u8 5 rest), (2, .row .u8 5 ((foldS s (endP rest cnt) ((endP rest cnt).length / 64)).flatMap fun x => be 4 x.toNat))] ∧ nx = 3 ∧ r = .own 2) := by
  refine CSpec.ends (CSpec.of_AWp [] Tryd.func100 rfl (by decide) (Nat.le_of_ble_eq_true rfl) fun _w0 _S0 _E0 _B0 => ?_)
  obtain ⟨Z, hZ⟩ : ∃ Z, Z = (119 - rest.length % 64) % 64 := ⟨_, rfl⟩
  refine AWp.seq toldSum ?_
  ((conv=>whnf);repeat'((first|(show(_=true→_)∧(_=false→_);first|refine gT ?_|refine gF ?_|refine gS ?_ ?_<;>(intro _h;try contradiction))|(show(_=false→_)∧(_=true→_);first|refine gU ?_|refine gV ?_|refine gZ ?_ ?_<;>(intro _h;try contradiction))|(intro _h;try contradiction)|(show _∧_;refine gA ?_)|fail);all_goals conv=>whnf))
  refine AWp.cut toldSum (ι := Unit) (fun _ => [(0, .optr 0 0), (3, .optr 2 0)])
    (fun _ => [(0, .cell 136 (hashC s (.own 1) cnt)), (1, .row .u8 5 rest), (2, .cell 136 (hashC s (.own 3) 0)), (3, .row .u8 5 (rest ++ [128]))]) 77 4 (fun _ => True) ?_ fun _ _ => ?_
  · ((conv=>whnf);repeat'((first|(show(_=true→_)∧(_=false→_);first|refine gT ?_|refine gF ?_|refine gS ?_ ?_<;>(intro _h;try contradiction))|(show(_=false→_)∧(_=true→_);first|refine gU ?_|refine gV ?_|refine gZ ?_ ?_<;>(intro _h;try contradiction))|(intro _h;try contradiction)|(show _∧_;refine gA ?_)|fail);all_goals conv=>whnf))
    repeat' (first
      | (refine acallP [] [] (k_cloneA rest (by omega)) rfl trivial trivial rfl (fun _ => rfl) ?_; rintro st nx r ⟨rfl, rfl, rfl⟩; refine ⟨rfl, rfl, ?_⟩; ((conv=>whnf);repeat'((first|(show(_=true→_)∧(_=false→_);first|refine gT ?_|refine gF ?_|refine gS ?_ ?_<;>(intro _h;try contradiction))|(show(_=false→_)∧(_=true→_);first|refine gU ?_|refine gV ?_|refine gZ ?_ ?_<;>(intro _h;try contradiction))|(intro _h;try contradiction)|(show _∧_;refine gA ?_)|fail);all_goals conv=>whnf)))
      | (refine And.intro (by show (rest.length + 1) * 1 ≤ 140737488355328; omega) ?_; ((conv=>whnf);repeat'((first|(show(_=true→_)∧(_=false→_);first|refine gT ?_|refine gF ?_|refine gS ?_ ?_<;>(intro _h;try contradiction))|(show(_=false→_)∧(_=true→_);first|refine gU ?_|refine gV ?_|refine gZ ?_ ?_<;>(intro _h;try contradiction))|(intro _h;try contradiction)|(show _∧_;refine gA ?_)|fail);all_goals conv=>whnf)))
      | (refine And.intro ?_ ?_ <;> ((conv=>whnf);repeat'((first|(show(_=true→_)∧(_=false→_);first|refine gT ?_|refine gF ?_|refine gS ?_ ?_<;>(intro _h;try contradiction))|(show(_=false→_)∧(_=true→_);first|refine gU ?_|refine gV ?_|refine gZ ?_ ?_<;>(intro _h;try contradiction))|(intro _h;try contradiction)|(show _∧_;refine gA ?_)|fail);all_goals conv=>whnf))))
    all_goals first
      | (refine ⟨(), [0, 1, 4, 2], trivial, rfl, ?_⟩; (refine ⟨rfl, rfl, ?_, ?_⟩ <;> repeat' (first | exact True.intro | rfl | decide | (refine And.intro ?_ ?_))); done)
      | (refine ⟨(), [0, 1, 4, 3], trivial, rfl, ?_⟩; (refine ⟨rfl, rfl, ?_, ?_⟩ <;> repeat' (first | exact True.intro | rfl | decide | (refine And.intro ?_ ?_))); done)
      | (refine ⟨(), [0, 1, 3, 2], trivial, rfl, ?_⟩; (refine ⟨rfl, rfl, ?_, ?_⟩ <;> repeat' (first | exact True.intro | rfl | decide | (refine And.intro ?_ ?_))); done)
      | (refine ⟨(), [0, 1, 3, 4], trivial, rfl, ?_⟩; (refine ⟨rfl, rfl, ?_, ?_⟩ <;> repeat' (first | exact True.intro | rfl | decide | (refine And.intro ?_ ?_))); done)
      | (refine ⟨(), [0, 1, 2, 3], trivial, rfl, ?_⟩; (refine ⟨rfl, rfl, ?_, ?_⟩ <;> repeat' (first | exact True.intro | rfl | decide | (refine And.intro ?_ ?_))); done)
      | (refine ⟨(), [0, 1, 2, 4], trivial, rfl, ?_⟩; (refine ⟨rfl, rfl, ?_, ?_⟩ <;> repeat' (first | exact True.intro | rfl | decide | (refine And.intro ?_ ?_))); done)
  · refine AWp.of_awp toldSum ?_
    ((conv=>whnf);repeat'((first|(show(_=true→_)∧(_=false→_);first|refine gT ?_|refine gF ?_|refine gS ?_ ?_<;>(intro _h;try contradiction))|(show(_=false→_)∧(_=true→_);first|refine gU ?_|refine gV ?_|refine gZ ?_ ?_<;>(intro _h;try contradiction))|(intro _h;try contradiction)|(show _∧_;refine gA ?_)|fail);all_goals conv=>whnf))
    refine aloop (T := toldSum) (ι := Nat) (fun j => [(0, .optr 0 0), (3, .optr 2 0)]) (fun j => [(0, .cell 136 (hashC s (.own 1) cnt)), (1, .row .u8 5 rest), (2, .cell 136 (hashC s (.own 3) 0)), (3, .row .u8 5 (rest ++ [128] ++ List.replicate j 0))]) 77 4
      (fun j => Z - j) (fun j => j ≤ Z)
      ⟨0, [0, 1, 2, 3], rfl, by omega, by (refine ⟨rfl, rfl, ?_, ?_⟩ <;> repeat' (first | exact True.intro | rfl | decide | (refine And.intro ?_ ?_))); simp; rfl⟩ ?_
    intro j hj
    have hrl : (rest ++ [128] ++ List.replicate j 0).length = rest.length + 1 + j := by simp; omega
    have hmod : ((rest ++ [128] ++ List.replicate j 0).length : Int).tmod 64 = (((rest.length + 1 + j) % 64 : Nat) : Int) := by
      rw [hrl, Int.tmod_eq_emod_of_nonneg (by omega)]; omega
    rcases Nat.lt_or_ge j Z with hjz | hjz
    · have hne : ¬ ((rest ++ [128] ++ List.replicate j 0).length : Int).tmod 64 = 56 := by rw [hmod]; omega
      ((conv=>whnf);repeat'((first|(show(_=true→_)∧(_=false→_);first|refine gT ?_|refine gF ?_|refine gS ?_ ?_<;>(intro _h;try contradiction))|(show(_=false→_)∧(_=true→_);first|refine gU ?_|refine gV ?_|refine gZ ?_ ?_<;>(intro _h;try contradiction))|(intro _h;try contradiction)|(show _∧_;refine gA ?_)|fail);all_goals conv=>whnf))
      refine ⟨by rw [hrl]; show (rest.length + 1 + j + 1) * 1 ≤ 140737488355328; omega, ?_⟩
      ((conv=>whnf);repeat'((first|(show(_=true→_)∧(_=false→_);first|refine gT ?_|refine gF ?_|refine gS ?_ ?_<;>(intro _h;try contradiction))|(show(_=false→_)∧(_=true→_);first|refine gU ?_|refine gV ?_|refine gZ ?_ ?_<;>(intro _h;try contradiction))|(intro _h;try contradiction)|(show _∧_;refine gA ?_)|fail);all_goals conv=>whnf))
      refine ⟨j + 1, [0, 1, 2, 3], by omega, by omega, rfl, ?_⟩
      (refine ⟨rfl, rfl, ?_, ?_⟩ <;> repeat' (first | exact True.intro | rfl | decide | (refine And.intro ?_ ?_)))
      show some (Ob.row .u8 _ _) = some (Ob.row .u8 _ _)
      rw [List.replicate_succ', ← List.append_assoc]
    · have hjz' : j = Z := by omega
      have heq : ((rest ++ [128] ++ List.replicate j 0).length : Int).tmod 64 = 56 := by rw [hmod]; omega
      ((conv=>whnf);repeat'((first|(show(_=true→_)∧(_=false→_);first|refine gT ?_|refine gF ?_|refine gS ?_ ?_<;>(intro _h;try contradiction))|(show(_=false→_)∧(_=true→_);first|refine gU ?_|refine gV ?_|refine gZ ?_ ?_<;>(intro _h;try contradiction))|(intro _h;try contradiction)|(show _∧_;refine gA ?_)|fail);all_goals conv=>whnf))
      refine ao_app0 (k := .u8) (j := 3) rfl rfl rfl rfl rfl rfl rfl rfl rfl ?_
      ((conv=>whnf);repeat'((first|(show(_=true→_)∧(_=false→_);first|refine gT ?_|refine gF ?_|refine gS ?_ ?_<;>(intro _h;try contradiction))|(show(_=false→_)∧(_=true→_);first|refine gU ?_|refine gV ?_|refine gZ ?_ ?_<;>(intro _h;try contradiction))|(intro _h;try contradiction)|(show _∧_;refine gA ?_)|fail);all_goals conv=>whnf))
      rw [hjz']
      obtain ⟨p0, hp0⟩ : ∃ p0, p0 = rest ++ [128] ++ List.replicate Z 0 := ⟨_, rfl⟩
      have hpl : p0.length = rest.length + 1 + Z := by rw [hp0, ← hjz', hrl]
      rw [← hp0]
      refine aloop (T := toldSum) (ι := Nat) (fun i => [(0, .optr 0 0), (3, .optr 2 0), (4, i64 (8 * (7 - (i : Int))))]) (fun i => [(0, .cell 136 (hashC s (.own 1) cnt)), (1, .row .u8 5 rest), (2, .cell 136 (hashC s (.own 3) 0)), (3, .row .u8 5 (p0 ++ (be 8 (8 * cnt)).take i))]) 77 4
        (fun i => 8 - i) (fun i => i ≤ 8)
        ⟨0, [0, 1, 2, 3], rfl, by omega, by (refine ⟨rfl, rfl, ?_, ?_⟩ <;> repeat' (first | exact True.intro | rfl | decide | (refine And.intro ?_ ?_))); simp; rfl⟩ ?_
      intro i hi
      have hlen : (p0 ++ (be 8 (8 * cnt)).take i).length = p0.length + i := by
        rw [List.length_append, List.length_take, be_length]; omega
      rcases Nat.lt_or_ge i 8 with h8 | h8
      · have e8 : IntKind.u64.wrap (8 * (cnt : Int)) = ((8 * cnt : Nat) : Int) := by rw [wrap_u64 (by omega) (by omega)]; omega
        have e0 : (0 : Int) ≤ 8 * (7 - (i : Int)) := by omega
        have e2 : IntKind.u8.wrap (IntKind.u64.wrap (8 * (cnt : Int)) / 2 ^ min (8 * (7 - (i : Int))).toNat IntKind.u64.bits) = ((8 * cnt / 256 ^ (8 - 1 - i) % 256 : Nat) : Int) := by
          have e1 : (8 * (7 - (i : Int))).toNat = 8 * (7 - i) := by omega
          rw [e1, e8, Nat.min_eq_left (by simp [IntKind.bits]; omega)]
          have : (2 : Int) ^ (8 * (7 - i)) = ((256 ^ (8 - 1 - i) : Nat) : Int) := by
            rw [Int.pow_mul]; push_cast; rfl
          rw [this, ← Int.natCast_ediv, u8w]
        ((conv=>whnf);repeat'((first|(show(_=true→_)∧(_=false→_);first|refine gT ?_|refine gF ?_|refine gS ?_ ?_<;>(intro _h;try contradiction))|(show(_=false→_)∧(_=true→_);first|refine gU ?_|refine gV ?_|refine gZ ?_ ?_<;>(intro _h;try contradiction))|(intro _h;try contradiction)|(show _∧_;refine gA ?_)|fail);all_goals conv=>whnf))
        refine ⟨by rw [hlen]; show (p0.length + i + 1) * 1 ≤ 140737488355328; omega, ?_⟩
        ((conv=>whnf);repeat'((first|(show(_=true→_)∧(_=false→_);first|refine gT ?_|refine gF ?_|refine gS ?_ ?_<;>(intro _h;try contradiction))|(show(_=false→_)∧(_=true→_);first|refine gU ?_|refine gV ?_|refine gZ ?_ ?_<;>(intro _h;try contradiction))|(intro _h;try contradiction)|(show _∧_;refine gA ?_)|fail);all_goals conv=>whnf))
        refine ⟨i + 1, [0, 1, 2, 3], by omega, by omega, rfl, ?_⟩
        (refine ⟨rfl, rfl, ?_, ?_⟩ <;> repeat' (first | exact True.intro | rfl | decide | (refine And.intro ?_ ?_)))
        · exact di (by rw [wrap_i64 (by omega) (by omega)]; omega)
        · show some (Ob.row .u8 _ _) = some (Ob.row .u8 _ _)
          rw [e2, be_take (by omega), ← List.append_assoc]
      · have hi8 : i = 8 := by omega
        have hend : endP rest cnt = p0 ++ be 8 (8 * cnt) := by
          unfold endP
          rw [hp0, hZ, Nat.mod_eq_of_lt (a := 8 * cnt) (b := 18446744073709551616) (by omega)]
        have htk : (be 8 (8 * cnt)).take i = be 8 (8 * cnt) := List.take_of_length_le (by rw [be_length]; omega)
        rw [htk, hend]
        obtain ⟨p, hp⟩ : ∃ p, p = p0 ++ be 8 (8 * cnt) := ⟨_, rfl⟩
        obtain ⟨n, hn⟩ : ∃ n, p.length = 64 * n := ⟨(rest.length + 9 + Z) / 64, by rw [hp, List.length_append, be_length, hpl]; omega⟩
        have hpn : p.length / 64 = n := by omega
        have hn0 : 0 < n := by have := congrArg List.length hp; rw [List.length_append, be_length, hpl] at this; omega
        have hple : p.length ≤ 1000000000 := by have := congrArg List.length hp; rw [List.length_append, be_length, hpl] at this; omega
        have hpw : wfd p := by
          rw [hp, hp0]
          exact ((hr.append (fun x hx => by simp at hx; omega)).append (fun x hx => by rw [List.eq_of_mem_replicate hx]; omega)).append (be_wfd _ _)
        rw [← hp, hpn]
        ((conv=>whnf);repeat'((first|(show(_=true→_)∧(_=false→_);first|refine gT ?_|refine gF ?_|refine gS ?_ ?_<;>(intro _h;try contradiction))|(show(_=false→_)∧(_=true→_);first|refine gU ?_|refine gV ?_|refine gZ ?_ ?_<;>(intro _h;try contradiction))|(intro _h;try contradiction)|(show _∧_;refine gA ?_)|fail);all_goals conv=>whnf))
        refine acallI (k_chunk p) rfl fun r hr => ?_
        subst hr
        ((conv=>whnf);repeat'((first|(show(_=true→_)∧(_=false→_);first|refine gT ?_|refine gF ?_|refine gS ?_ ?_<;>(intro _h;try contradiction))|(show(_=false→_)∧(_=true→_);first|refine gU ?_|refine gV ?_|refine gZ ?_ ?_<;>(intro _h;try contradiction))|(intro _h;try contradiction)|(show _∧_;refine gA ?_)|fail);all_goals conv=>whnf))
        refine AWp.rangeFunc toldSum (aiC p n hn hple hn0) (ι := Nat) [(0, .optr 0 0), (3, .optr 2 0)]
          (fun k => [(0, .cell 136 (hashC s (.own 1) cnt)), (1, .row .u8 5 rest), (2, .cell 136 (hashC (foldS s p k) (.d (byt p)) 0))]) 77 3 3
          (fun k i => i = k) (fun e v => False) rfl rfl rfl (fun k hk => rfl) rfl rfl (show 2 ≤ 3 by decide) (Nat.le_refl _) rfl ?_ ?_ ?_ ?_ ?_
        · exact ⟨0, [0, 1, 2], rfl, rfl, by (refine ⟨rfl, rfl, ?_, ?_⟩ <;> repeat' (first | exact True.intro | rfl | decide | (refine And.intro ?_ ?_)))⟩
        · intro k i hk hi' _ _ _ _ _
          subst hi'
          have hfl := foldS_len s p hs i
          ((conv=>whnf);repeat'((first|(show(_=true→_)∧(_=false→_);first|refine gT ?_|refine gF ?_|refine gS ?_ ?_<;>(intro _h;try contradiction))|(show(_=false→_)∧(_=true→_);first|refine gU ?_|refine gV ?_|refine gZ ?_ ?_<;>(intro _h;try contradiction))|(intro _h;try contradiction)|(show _∧_;refine gA ?_)|fail);all_goals conv=>whnf))
          refine acall [2] (s_take hG (foldS s p i) (cutB p (64 * i) 64) p 0 hfl (hpw.cut _ _) (cutB_len (by omega))) rfl ⟨⟨by decide, rfl⟩, trivial⟩ rfl (fun h => Bool.noConfusion h) ?_
          rintro st nx r ⟨rfl, rfl, rfl⟩
          ((conv=>whnf);repeat'((first|(show(_=true→_)∧(_=false→_);first|refine gT ?_|refine gF ?_|refine gS ?_ ?_<;>(intro _h;try contradiction))|(show(_=false→_)∧(_=true→_);first|refine gU ?_|refine gV ?_|refine gZ ?_ ?_<;>(intro _h;try contradiction))|(intro _h;try contradiction)|(show _∧_;refine gA ?_)|fail);all_goals conv=>whnf))
          refine ⟨i + 1, [0, 1, 2], rfl, rfl, rfl, ?_⟩
          (repeat' (first | exact True.intro | rfl | decide | (refine And.intro ?_ ?_)))
        · intro k hk
          subst hk
          have hfl := foldS_len s p hs k
          obtain ⟨v, hv⟩ : ∃ v, v = foldS s p k := ⟨_, rfl⟩
          have hvw : wfl v := by
            obtain ⟨k', rfl⟩ : ∃ k', k = k' + 1 := ⟨k - 1, by omega⟩
            rw [hv]
            exact blkS_wfl _ _
          rw [← hv] at hfl ⊢
          ((conv=>whnf);repeat'((first|(show(_=true→_)∧(_=false→_);first|refine gT ?_|refine gF ?_|refine gS ?_ ?_<;>(intro _h;try contradiction))|(show(_=false→_)∧(_=true→_);first|refine gU ?_|refine gV ?_|refine gZ ?_ ?_<;>(intro _h;try contradiction))|(intro _h;try contradiction)|(show _∧_;refine gA ?_)|fail);all_goals conv=>whnf))
          refine AWp.adopt 6 (.row .u8 5 []) rfl rfl ?_
          refine aloop (T := toldSum) (ι := Nat) (fun i => [(60, .ag 134 (st8 v)), (6, .own 3), (61, i64 i)]) (fun i => [(0, .cell 136 (hashC s (.own 1) cnt)), (1, .row .u8 5 rest), (3, .row .u8 5 ((v.take i).flatMap fun x => be 4 x.toNat))]) 77 4
            (fun i => 8 - i) (fun i => i ≤ 8)
            ⟨0, [0, 1, 2, 3], rfl, by omega, by (refine ⟨rfl, rfl, ?_, ?_⟩ <;> repeat' (first | exact True.intro | rfl | decide | (refine And.intro ?_ ?_)))⟩ ?_
          intro i hi
          rcases Nat.lt_or_ge i 8 with h8 | h8
          · have hf4 := flat_take4 v i (by omega)
            have hfll := flat_len (v.take i)
            rw [List.length_take, Nat.min_eq_left (by omega)] at hfll
            ((conv=>whnf);repeat'((first|(show(_=true→_)∧(_=false→_);first|refine gT ?_|refine gF ?_|refine gS ?_ ?_<;>(intro _h;try contradiction))|(show(_=false→_)∧(_=true→_);first|refine gU ?_|refine gV ?_|refine gZ ?_ ?_<;>(intro _h;try contradiction))|(intro _h;try contradiction)|(show _∧_;refine gA ?_)|fail);all_goals conv=>whnf))
            have hx0 := hvw.get i
            have hgx : [v.getD 0 0, v.getD 1 0, v.getD 2 0, v.getD 3 0, v.getD 4 0, v.getD 5 0, v.getD 6 0, v.getD 7 0].getD (i : Int).toNat 0 = v.getD i 0 := by
              rw [Int.toNat_natCast]
              rcases Nat.lt_or_ge i 8 with _ | h
              · match i, h8 with
                | 0, _ => rfl
                | 1, _ => rfl
                | 2, _ => rfl
                | 3, _ => rfl
                | 4, _ => rfl
                | 5, _ => rfl
                | 6, _ => rfl
                | 7, _ => rfl
              · omega
            obtain ⟨x, hx⟩ : ∃ x, x = v.getD i 0 := ⟨_, rfl⟩
            rw [← hx] at hgx hx0 hf4
            refine aloop (T := toldSum) (ι := Nat) (fun j => [(60, .ag 134 (st8 v)), (6, .own 3), (61, i64 i), (8, u32 x), (9, i64 (8 * (3 - (j : Int))))]) (fun j => [(0, .cell 136 (hashC s (.own 1) cnt)), (1, .row .u8 5 rest), (3, .row .u8 5 ((v.take i).flatMap (fun x => be 4 x.toNat) ++ (be 4 x.toNat).take j))]) 77 4
              (fun j => 4 - j) (fun j => j ≤ 4)
              ⟨0, [0, 1, 2, 3], rfl, by omega, by
                (refine ⟨rfl, rfl, ?_, ?_⟩ <;> repeat' (first | exact True.intro | rfl | decide | (refine And.intro ?_ ?_)))
                · rw [← hgx]; rfl
                · simp; rfl⟩ ?_
            intro j hj
            have hlen : ((v.take i).flatMap (fun x => be 4 x.toNat) ++ (be 4 x.toNat).take j).length = 4 * i + j := by
              rw [List.length_append, hfll, List.length_take, be_length]; omega
            rcases Nat.lt_or_ge j 4 with h4 | h4
            · have e2 := byte4 x j (8 * (3 - (j : Int))) hx0.1 h4 (by omega)
              ((conv=>whnf);repeat'((first|(show(_=true→_)∧(_=false→_);first|refine gT ?_|refine gF ?_|refine gS ?_ ?_<;>(intro _h;try contradiction))|(show(_=false→_)∧(_=true→_);first|refine gU ?_|refine gV ?_|refine gZ ?_ ?_<;>(intro _h;try contradiction))|(intro _h;try contradiction)|(show _∧_;refine gA ?_)|fail);all_goals conv=>whnf))
              refine ⟨by rw [hlen]; show (4 * i + j + 1) * 1 ≤ 140737488355328; omega, ?_⟩
              ((conv=>whnf);repeat'((first|(show(_=true→_)∧(_=false→_);first|refine gT ?_|refine gF ?_|refine gS ?_ ?_<;>(intro _h;try contradiction))|(show(_=false→_)∧(_=true→_);first|refine gU ?_|refine gV ?_|refine gZ ?_ ?_<;>(intro _h;try contradiction))|(intro _h;try contradiction)|(show _∧_;refine gA ?_)|fail);all_goals conv=>whnf))
              refine ⟨j + 1, [0, 1, 2, 3], by omega, by omega, rfl, ?_⟩
              (refine ⟨rfl, rfl, ?_, ?_⟩ <;> repeat' (first | exact True.intro | rfl | decide | (refine And.intro ?_ ?_)))
              · exact di (by rw [wrap_i64 (by omega) (by omega)]; omega)
              · show some (Ob.row .u8 _ _) = some (Ob.row .u8 _ _)
                rw [e2, be_take (by omega), ← List.append_assoc]
            · have hj4 : j = 4 := by omega
              ((conv=>whnf);repeat'((first|(show(_=true→_)∧(_=false→_);first|refine gT ?_|refine gF ?_|refine gS ?_ ?_<;>(intro _h;try contradiction))|(show(_=false→_)∧(_=true→_);first|refine gU ?_|refine gV ?_|refine gZ ?_ ?_<;>(intro _h;try contradiction))|(intro _h;try contradiction)|(show _∧_;refine gA ?_)|fail);all_goals conv=>whnf))
              refine ⟨i + 1, [0, 1, 2, 3], by omega, by omega, rfl, ?_⟩
              (refine ⟨rfl, rfl, ?_, ?_⟩ <;> repeat' (first | exact True.intro | rfl | decide | (refine And.intro ?_ ?_)))
              · exact di (by rw [wrap_i64 (by omega) (by omega)]; rfl)
              · show some (Ob.row .u8 _ _) = some (Ob.row .u8 _ _)
                rw [hf4, List.take_of_length_le (l := be 4 _) (by rw [be_length]; omega)]
          · have hi8 : i = 8 := by omega
            ((conv=>whnf);repeat'((first|(show(_=true→_)∧(_=false→_);first|refine gT ?_|refine gF ?_|refine gS ?_ ?_<;>(intro _h;try contradiction))|(show(_=false→_)∧(_=true→_);first|refine gU ?_|refine gV ?_|refine gZ ?_ ?_<;>(intro _h;try contradiction))|(intro _h;try contradiction)|(show _∧_;refine gA ?_)|fail);all_goals conv=>whnf))
            refine ⟨[0, 1, 3], [(0, .cell 136 (hashC s (.own 1) cnt)), (1, .row .u8 5 rest), (2, .row .u8 5 (v.flatMap fun x => be 4 x.toNat))], .own 2, ⟨rfl, ⟨⟨by decide, rfl⟩, ⟨by decide, rfl⟩, ⟨by decide, ?_⟩, trivial⟩, rfl⟩, rfl, rfl, rfl⟩
            have e : v.take i = v := by rw [hi8, List.take_of_length_le (by omega)]
            rw [e]
            rfl
        · intro n h
          exact h.elim
        · intro id n h
          exact h.elim

theorem sum_end (t : List Int) : (foldS (stS t) (endP (reS t) t.length) ((endP (reS t) t.length).length / 64)).flatMap (fun x => be 4 x.toNat) = sumS t := by
  have hl := reS_len t
  have e0 : t = t.take (64 * (t.length / 64)) ++ reS t := (List.take_append_drop _ _).symm
  have ep : padS t = t.take (64 * (t.length / 64)) ++ endP (reS t) t.length := by
    unfold padS endP
    rw [hl, Nat.mod_mod]
    conv => lhs; lhs; lhs; lhs; rw [e0]
    simp only [List.append_assoc]
  have el : (t.take (64 * (t.length / 64))).length = 64 * (t.length / 64) := by rw [List.length_take]; omega
  have e1 : (padS t).length / 64 = t.length / 64 + (endP (reS t) t.length).length / 64 := by
    rw [ep, List.length_append, el]; omega
  have e2 : (padS t).drop (64 * (t.length / 64)) = endP (reS t) t.length := by
    rw [ep, List.drop_append_of_le_length (by omega), List.drop_of_length_le (by omega)]; rfl
  have e3 : foldS H0 (padS t) (t.length / 64) = stS t := by
    unfold padS stS
    rw [List.append_assoc, List.append_assoc, foldS_app _ _ _ (by omega)]
  unfold sumS
  rw [e1, foldS_split, e2, e3]

def toldOf : AW.Told := ⟨fun f => f == 99 || f == 100, fun _ _ => [], fun _ => .done⟩

theorem s_of (hG : Globs.gl 4 = some ROUNDS) (hF : Globs.gl 1 = some FIRST) (xss : List (List Int)) (hw : ∀ x ∈ xss, wfd x) (hl : xss.flatten.length ≤ 10000000) (hx : xss.length ≤ 1000000) :
    Imm Tryd.prog 71 [.d (.sl 1 (xss.map byt))] (fun r => r = .d (byt (sumS xss.flatten))) := by
  have hwf : ∀ k, wfd (xss.take k).flatten := fun k x hx => by
    obtain ⟨l, h1, h2⟩ := List.mem_flatten.1 hx
    exact hw l (List.mem_of_mem_take h1) x h2
  (refine Imm.of_awp toldOf [2] Tryd.func71 rfl (by decide) (Nat.le_of_ble_eq_true rfl) ?_; intro _w0 _S0 _E0 _B0; ((conv=>whnf);repeat'((first|(show(_=true→_)∧(_=false→_);first|refine nTt ?_|refine nFf ?_|refine gS ?_ ?_<;>(intro _h;try contradiction))|(show(_=false→_)∧(_=true→_);first|refine nU ?_|refine nV ?_|refine gZ ?_ ?_<;>(intro _h;try contradiction))|(intro _h;try contradiction)|(show _∧_;refine gA ?_)|fail);all_goals conv=>whnf)))
  refine acall [] (s_new hF) rfl (by simp [stIn]) rfl (fun _ => rfl) ?_
  rintro st nx r ⟨rfl, rfl, rfl⟩
  ((conv=>whnf);repeat'((first|(show(_=true→_)∧(_=false→_);first|refine gT ?_|refine gF ?_|refine gS ?_ ?_<;>(intro _h;try contradiction))|(show(_=false→_)∧(_=true→_);first|refine gU ?_|refine gV ?_|refine gZ ?_ ?_<;>(intro _h;try contradiction))|(intro _h;try contradiction)|(show _∧_;refine gA ?_)|fail);all_goals conv=>whnf))
  refine aloop (T := toldOf) (fun k : Nat => [(3, .optr 0 0), (7, .d (.sl 1 (xss.map byt))), (8, i64 xss.length), (9, i64 k)])
    (fun k => [(0, .cell 136 (hashC (stS (xss.take k).flatten) (.own 1) ((xss.take k).flatten.length : Nat))), (1, .row .u8 5 (reS (xss.take k).flatten))]) 19 2 (fun k => xss.length - k) (fun k => k ≤ xss.length)
    ⟨0, [0, 1], rfl, Nat.zero_le _, by
      (refine ⟨rfl, rfl, ?_, ?_⟩ <;> repeat' (first | exact True.intro | rfl | decide | (refine And.intro ?_ ?_)))
      · simp [AW.upd, renV]
      · rw [List.take_zero, List.flatten_nil, show stS [] = H0 from rfl]; rfl
      · rw [List.take_zero, List.flatten_nil, show reS [] = [] from rfl]; rfl⟩ ?_
  intro k hk
  have hf1 := flat_le xss k
  have hf2 := flat_le xss (k + 1)
  obtain ⟨t, ht⟩ : ∃ t, t = (xss.take k).flatten := ⟨_, rfl⟩
  have htw : wfd t := by rw [ht]; exact hwf k
  have hrl := reS_len t
  rw [← ht] at hf1 ⊢
  rcases Nat.lt_or_ge k xss.length with hkl | hkl
  · have hfk := flat_take xss k hkl
    rw [← ht] at hfk
    have hlen : (xss.take (k + 1)).flatten.length = t.length + (xss.getD k []).length := by rw [hfk, List.length_append]
    obtain ⟨b, hb⟩ : ∃ b, b = xss.getD k [] := ⟨_, rfl⟩
    have hbw : wfd b := by
      rw [hb, List.getD_eq_getElem?_getD, List.getElem?_eq_getElem hkl]
      exact hw _ (List.getElem_mem hkl)
    rw [← hb] at hfk hlen
    have hap := stS_app t b
    have ew : IntKind.u64.wrap ((t.length : Int) + b.length) = ((t ++ b).length : Nat) := by rw [wrap_u64 (by omega) (by omega), List.length_append]; rfl
    ((conv=>whnf);repeat'((first|(show(_=true→_)∧(_=false→_);first|refine gT ?_|refine gF ?_|refine gS ?_ ?_<;>(intro _h;try contradiction))|(show(_=false→_)∧(_=true→_);first|refine gU ?_|refine gV ?_|refine gZ ?_ ?_<;>(intro _h;try contradiction))|(intro _h;try contradiction)|(show _∧_;refine gA ?_)|fail);all_goals conv=>whnf))
    rw [Int.toNat_natCast, getD_map byt xss k [] default (by omega), ← hb]
    ((conv=>whnf);repeat'((first|(show(_=true→_)∧(_=false→_);first|refine gT ?_|refine gF ?_|refine gS ?_ ?_<;>(intro _h;try contradiction))|(show(_=false→_)∧(_=true→_);first|refine gU ?_|refine gV ?_|refine gZ ?_ ?_<;>(intro _h;try contradiction))|(intro _h;try contradiction)|(show _∧_;refine gA ?_)|fail);all_goals conv=>whnf))
    refine acall [0, 1] (s_write hG (stS t) (reS t) b t.length (stS_len t) (reS_wfd htw) hbw (by omega)) rfl ⟨⟨by decide, rfl⟩, ⟨by decide, rfl⟩, trivial⟩ rfl (fun h => Bool.noConfusion h) ?_
    rintro st nx r ⟨rfl, rfl, rfl⟩
    ((conv=>whnf);repeat'((first|(show(_=true→_)∧(_=false→_);first|refine gT ?_|refine gF ?_|refine gS ?_ ?_<;>(intro _h;try contradiction))|(show(_=false→_)∧(_=true→_);first|refine gU ?_|refine gV ?_|refine gZ ?_ ?_<;>(intro _h;try contradiction))|(intro _h;try contradiction)|(show _∧_;refine gA ?_)|fail);all_goals conv=>whnf))
    refine ⟨k + 1, [0, 2], by omega, by omega, rfl, ?_⟩
    (refine ⟨rfl, rfl, ?_, ?_⟩ <;> repeat' (first | exact True.intro | rfl | decide | (refine And.intro ?_ ?_)))
    · exact di (by rw [wrap_i64 (by omega) (by omega)]; rfl)
    · rw [hfk, hap.1, ew]; rfl
    · rw [hfk, hap.2]; rfl
  · have hk' : k = xss.length := by omega
    subst hk'
    rw [List.take_length] at ht
    ((conv=>whnf);repeat'((first|(show(_=true→_)∧(_=false→_);first|refine gT ?_|refine gF ?_|refine gS ?_ ?_<;>(intro _h;try contradiction))|(show(_=false→_)∧(_=true→_);first|refine gU ?_|refine gV ?_|refine gZ ?_ ?_<;>(intro _h;try contradiction))|(intro _h;try contradiction)|(show _∧_;refine gA ?_)|fail);all_goals conv=>whnf))
    refine acall [0, 1] (s_sum hG (stS t) (reS t) t.length (stS_len t) (reS_wfd htw) (by omega) (by omega)) rfl ⟨⟨by decide, rfl⟩, ⟨by decide, rfl⟩, trivial⟩ rfl (fun h => Bool.noConfusion h) ?_
    rintro st nx r ⟨rfl, rfl, rfl⟩
    ((conv=>whnf);repeat'((first|(show(_=true→_)∧(_=false→_);first|refine gT ?_|refine gF ?_|refine gS ?_ ?_<;>(intro _h;try contradiction))|(show(_=false→_)∧(_=true→_);first|refine gU ?_|refine gV ?_|refine gZ ?_ ?_<;>(intro _h;try contradiction))|(intro _h;try contradiction)|(show _∧_;refine gA ?_)|fail);all_goals conv=>whnf))
    refine Ends.imm rfl ?_
    rw [← ht, ← sum_end t]

theorem s_ofO (hG : Globs.gl 4 = some ROUNDS) (hF : Globs.gl 1 = some FIRST) (xss : List (List Int)) (hw : ∀ x ∈ xss, wfd x) (hl : xss.flatten.length ≤ 10000000) (hx : xss.length ≤ 1000000) :
    CSpec Tryd.prog 71 [.d (.sl 1 (xss.map byt))] [] 0 (fun st nx r => st = [(0, .row .u8 5 (sumS xss.flatten))] ∧ nx = 1 ∧ r = .own 0) := by
  have hwf : ∀ k, wfd (xss.take k).flatten := fun k x hx => by
    obtain ⟨l, h1, h2⟩ := List.mem_flatten.1 hx
    exact hw l (List.mem_of_mem_take h1) x h2
  refine CSpec.ends (CSpec.of_awp toldOf [] Tryd.func71 rfl (by decide) (Nat.le_of_ble_eq_true rfl) fun _w0 _S0 _E0 _B0 => ?_)
  ((conv=>whnf);repeat'((first|(show(_=true→_)∧(_=false→_);first|refine nTt ?_|refine nFf ?_|refine gS ?_ ?_<;>(intro _h;try contradiction))|(show(_=false→_)∧(_=true→_);first|refine nU ?_|refine nV ?_|refine gZ ?_ ?_<;>(intro _h;try contradiction))|(intro _h;try contradiction)|(show _∧_;refine gA ?_)|fail);all_goals conv=>whnf))
  refine acall [] (s_new hF) rfl (by simp [stIn]) rfl (fun _ => rfl) ?_
  rintro st nx r ⟨rfl, rfl, rfl⟩
  ((conv=>whnf);repeat'((first|(show(_=true→_)∧(_=false→_);first|refine gT ?_|refine gF ?_|refine gS ?_ ?_<;>(intro _h;try contradiction))|(show(_=false→_)∧(_=true→_);first|refine gU ?_|refine gV ?_|refine gZ ?_ ?_<;>(intro _h;try contradiction))|(intro _h;try contradiction)|(show _∧_;refine gA ?_)|fail);all_goals conv=>whnf))
  refine aloop (T := toldOf) (fun k : Nat => [(3, .optr 0 0), (7, .d (.sl 1 (xss.map byt))), (8, i64 xss.length), (9, i64 k)])
    (fun k => [(0, .cell 136 (hashC (stS (xss.take k).flatten) (.own 1) ((xss.take k).flatten.length : Nat))), (1, .row .u8 5 (reS (xss.take k).flatten))]) 19 2 (fun k => xss.length - k) (fun k => k ≤ xss.length)
    ⟨0, [0, 1], rfl, Nat.zero_le _, by
      (refine ⟨rfl, rfl, ?_, ?_⟩ <;> repeat' (first | exact True.intro | rfl | decide | (refine And.intro ?_ ?_)))
      · simp [AW.upd, renV]
      · rw [List.take_zero, List.flatten_nil, show stS [] = H0 from rfl]; rfl
      · rw [List.take_zero, List.flatten_nil, show reS [] = [] from rfl]; rfl⟩ ?_
  intro k hk
  have hf1 := flat_le xss k
  have hf2 := flat_le xss (k + 1)
  obtain ⟨t, ht⟩ : ∃ t, t = (xss.take k).flatten := ⟨_, rfl⟩
  have htw : wfd t := by rw [ht]; exact hwf k
  have hrl := reS_len t
  rw [← ht] at hf1 ⊢
  rcases Nat.lt_or_ge k xss.length with hkl | hkl
  · have hfk := flat_take xss k hkl
    rw [← ht] at hfk
    have hlen : (xss.take (k + 1)).flatten.length = t.length + (xss.getD k []).length := by rw [hfk, List.length_append]
    obtain ⟨b, hb⟩ : ∃ b, b = xss.getD k [] := ⟨_, rfl⟩
    have hbw : wfd b := by
      rw [hb, List.getD_eq_getElem?_getD, List.getElem?_eq_getElem hkl]
      exact hw _ (List.getElem_mem hkl)
    rw [← hb] at hfk hlen
    have hap := stS_app t b
    have ew : IntKind.u64.wrap ((t.length : Int) + b.length) = ((t ++ b).length : Nat) := by rw [wrap_u64 (by omega) (by omega), List.length_append]; rfl
    ((conv=>whnf);repeat'((first|(show(_=true→_)∧(_=false→_);first|refine gT ?_|refine gF ?_|refine gS ?_ ?_<;>(intro _h;try contradiction))|(show(_=false→_)∧(_=true→_);first|refine gU ?_|refine gV ?_|refine gZ ?_ ?_<;>(intro _h;try contradiction))|(intro _h;try contradiction)|(show _∧_;refine gA ?_)|fail);all_goals conv=>whnf))
    rw [Int.toNat_natCast, getD_map byt xss k [] default (by omega), ← hb]
    ((conv=>whnf);repeat'((first|(show(_=true→_)∧(_=false→_);first|refine gT ?_|refine gF ?_|refine gS ?_ ?_<;>(intro _h;try contradiction))|(show(_=false→_)∧(_=true→_);first|refine gU ?_|refine gV ?_|refine gZ ?_ ?_<;>(intro _h;try contradiction))|(intro _h;try contradiction)|(show _∧_;refine gA ?_)|fail);all_goals conv=>whnf))
    refine acall [0, 1] (s_write hG (stS t) (reS t) b t.length (stS_len t) (reS_wfd htw) hbw (by omega)) rfl ⟨⟨by decide, rfl⟩, ⟨by decide, rfl⟩, trivial⟩ rfl (fun h => Bool.noConfusion h) ?_
    rintro st nx r ⟨rfl, rfl, rfl⟩
    ((conv=>whnf);repeat'((first|(show(_=true→_)∧(_=false→_);first|refine gT ?_|refine gF ?_|refine gS ?_ ?_<;>(intro _h;try contradiction))|(show(_=false→_)∧(_=true→_);first|refine gU ?_|refine gV ?_|refine gZ ?_ ?_<;>(intro _h;try contradiction))|(intro _h;try contradiction)|(show _∧_;refine gA ?_)|fail);all_goals conv=>whnf))
    refine ⟨k + 1, [0, 2], by omega, by omega, rfl, ?_⟩
    (refine ⟨rfl, rfl, ?_, ?_⟩ <;> repeat' (first | exact True.intro | rfl | decide | (refine And.intro ?_ ?_)))
    · exact di (by rw [wrap_i64 (by omega) (by omega)]; rfl)
    · rw [hfk, hap.1, ew]; rfl
    · rw [hfk, hap.2]; rfl
  · have hk' : k = xss.length := by omega
    subst hk'
    rw [List.take_length] at ht
    ((conv=>whnf);repeat'((first|(show(_=true→_)∧(_=false→_);first|refine gT ?_|refine gF ?_|refine gS ?_ ?_<;>(intro _h;try contradiction))|(show(_=false→_)∧(_=true→_);first|refine gU ?_|refine gV ?_|refine gZ ?_ ?_<;>(intro _h;try contradiction))|(intro _h;try contradiction)|(show _∧_;refine gA ?_)|fail);all_goals conv=>whnf))
    refine acall [0, 1] (s_sum hG (stS t) (reS t) t.length (stS_len t) (reS_wfd htw) (by omega) (by omega)) rfl ⟨⟨by decide, rfl⟩, ⟨by decide, rfl⟩, trivial⟩ rfl (fun h => Bool.noConfusion h) ?_
    rintro st nx r ⟨rfl, rfl, rfl⟩
    ((conv=>whnf);repeat'((first|(show(_=true→_)∧(_=false→_);first|refine gT ?_|refine gF ?_|refine gS ?_ ?_<;>(intro _h;try contradiction))|(show(_=false→_)∧(_=true→_);first|refine gU ?_|refine gV ?_|refine gZ ?_ ?_<;>(intro _h;try contradiction))|(intro _h;try contradiction)|(show _∧_;refine gA ?_)|fail);all_goals conv=>whnf))
    rw [← ht, ← sum_end t]
    exact ⟨[2], [(0, .row .u8 5 ((foldS (stS t) (endP (reS t) t.length) ((endP (reS t) t.length).length / 64)).flatMap fun x => be 4 x.toNat))], .own 0, ⟨rfl, ⟨⟨by decide, rfl⟩, trivial⟩, rfl⟩, rfl, rfl, rfl⟩
end Go.Proofs.YtniaeiikdgbnfaaDoor.R
namespace Go.Proofs.YtniaeiikdgbnfaaDoor.AW
open Go Go.RowKit
set_option linter.unusedSectionVars false
set_option linter.unusedVariables false

/-- A table: its name, number, type, the type of its elements, their kind, its numbers. -/
structure Tab where
  name : String
  g : Nat
  t : TypeId
  e : TypeId
  k : IntKind
  zs : List Int

def Tab.ok (P : Program) (x : Tab) : Prop :=
  P.globalNamed x.name = some x.g ∧ (P.globals[x.g]?).map (·.type) = some x.t ∧ P.underlying x.t = some (.array x.zs.length x.e) ∧ P.underlying x.e = some (.int x.k) ∧ P.cellsOf x.e = 1 ∧ P.cellsOf x.t = x.zs.length ∧
    x.zs.all (fun z => x.k.wrap z == z) = true ∧ 0 < x.zs.length

def tabGl (tabs : List Tab) (g : Nat) : Option D := (tabs.find? (fun x => x.g == g)).map fun x => .agg (x.zs.map (D.int x.k))

def tabLaid (tabs : List Tab) : List (String × DataW Unit) := tabs.map fun x => (x.name, Lib.tabData x.k x.zs)

theorem tabs_of_vars {P : Program} {W : World} : ∀ {tabs : List Tab} {ps : List MemPlace}, (∀ x ∈ tabs, x.ok P) → DataW.LaidVars P W (tabLaid tabs) ps → ∀ x ∈ tabs, Lib.TabIs P W x.name x.k x.zs
  | [], _, _, _, x, hx => by simp at hx
  | y :: tabs, ps, hok, h, x, hx => by
    obtain ⟨g', t', cs, fuel, p, q, hg', ht', hvar, hd, hr, _⟩ := h
    rcases List.mem_cons.1 hx with rfl | hx
    · obtain ⟨h1, h2, h3, h4, h5, h6, _⟩ := hok x (List.mem_cons_self ..)
      obtain rfl := Option.some.inj (h1.symm.trans hg')
      obtain rfl := Option.some.inj (h2.symm.trans ht')
      unfold Lib.TabIs
      rw [hvar, ← Lib.cells_of_tab h3 h4 h5 h6 hd]
    · exact tabs_of_vars (fun z hz => hok z (List.mem_cons_of_mem _ hz)) hr x hx

theorem repAll_ints {W : World} {S : Nat → Prop} {k : IntKind} : ∀ {zs : List Int}, zs.all (fun z => k.wrap z == z) = true → RepAll W S (zs.map (D.int k)) (zs.map (Value.int k))
  | [], _ => rfl
  | z :: zs, h => by
    simp only [List.all_cons, Bool.and_eq_true, beq_iff_eq] at h
    simp only [List.map_cons, RepAll, Rep]
    exact ⟨[.int k z], _, rfl, ⟨rfl, h.1⟩, repAll_ints h.2⟩

theorem globOk_tabs [Globs] {P : Program} {W : World} (tabs : List Tab) (hgl : ∀ g, Globs.gl g = tabGl tabs g) (hok : ∀ x ∈ tabs, x.ok P) (h : laidMet P (tabLaid tabs) W) : GlobOk W (fun b => b < W.heap.size) := fun g d hg => by
  rw [hgl] at hg
  unfold tabGl at hg
  obtain ⟨ps, hv, _⟩ := h
  cases hf : tabs.find? (fun x => x.g == g) with
  | none => rw [hf] at hg; simp at hg
  | some x =>
    rw [hf] at hg
    simp only [Option.map_some, Option.some.injEq] at hg
    subst hg
    have hx := List.mem_of_find?_eq_some hf
    have hxg : x.g = g := by have := List.find?_some hf; simpa using this
    obtain ⟨h1, h2, h3, h4, h5, h6, h7, h8⟩ := hok x hx
    have ht := tabs_of_vars hok hv x hx
    have c : ∀ i, i < x.zs.length → W.cell? ⟨x.g, i, none⟩ = some (.int x.k (x.zs.getD i 0)) := fun i hi => ht.cell h1 i hi
    subst hxg
    refine ⟨?_, x.zs.map (Value.int x.k), ?_, ?_⟩
    · have := c 0 h8
      unfold World.cell? at this
      cases hb : W.heap[x.g]? with
      | none => simp [hb] at this
      | some o => exact (Array.getElem?_eq_some_iff.1 hb).1
    · intro i v hv
      rw [List.getElem?_map] at hv
      have hi : i < x.zs.length := by
        rcases Nat.lt_or_ge i x.zs.length with h | h
        · exact h
        · rw [List.getElem?_eq_none h] at hv; simp at hv
      have h9 := c i hi
      rw [List.getElem?_eq_getElem hi] at hv
      simp only [Option.map_some, Option.some.injEq] at hv
      rw [Nat.zero_add, h9, ← hv, List.getD_eq_getElem?_getD, List.getElem?_eq_getElem hi]
      rfl
    · simp only [Rep]
      exact repAll_ints h7
end Go.Proofs.YtniaeiikdgbnfaaDoor.AW
namespace Go.Proofs.YtniaeiikdgbnfaaDoor.AW
open Go Go.RowKit
set_option linter.unusedSectionVars false
variable [Globs]
variable {P : Program} {C : Ctx} {s : AState}

theorem getO_own {β : Nat → Option Value} {S : Nat → Prop} {a : Act} {w : World} (h : ARelB C s β S a w) : ∀ {js : List Nat} {vs : List Value}, (∀ j ∈ js, ∃ k t xs, getO s.st j = some (.row k t xs)) → VAll w β S (js.map AVal.own) vs → ∀ v ∈ vs, v.cells = #[v]
  | [], vs, _, hv, v, hm => by simp only [List.map_nil, VAll] at hv; subst hv; simp at hm
  | j :: js, vs, hr, hv, v, hm => by
    simp only [List.map_cons, VAll] at hv
    obtain ⟨u, r, rfl, h1, h2⟩ := hv
    rcases List.mem_cons.1 hm with rfl | hm
    · obtain ⟨k, t, xs, ho⟩ := hr j (by simp)
      obtain ⟨bv, hβ, hob⟩ := h.st.obj j _ (getO_mem ho)
      simp only [VRel] at h1
      rw [hβ] at h1
      injection h1 with h1
      subst h1
      simp only [ORel] at hob
      obtain ⟨A, c, rfl⟩ := ownsV_slice hob.1
      rfl
    · exact getO_own h (fun i hi => hr i (by simp [hi])) h2 v hm

/-- A slice of owned rows. -/
theorem ao_parts {x : Bool} {o : Oper} {t e : TypeId} {n : Nat} {parts : Array (Nat × Operand)} {i : TypeInfo} {js : List Nat} {K : AState → AVal → Prop}
    (ho : o.op = .buildSlice t n parts) (hp : partsOk P (elemT P t) parts.toList) (hv : partsV P s (elemT P t) parts.toList = js.map AVal.own) (hr : ∀ j ∈ js, ∃ k t xs, getO s.st j = some (.row k t xs))
    (ht : P.underlying t = some (.slice e)) (hi : P.info? e = some i) (hz : i.zero.isSome = true) (hs : i.size = 1) (hix : parts.toList.map (·.1) = List.range js.length) (hn : n = js.length) (hsm : n ≤ 16777216) (h0 : 0 < n)
    (hK : K (s.newO (.cell e (js.map AVal.own))) (.view s.nx 0 n)) : AOther P C x s o K := by
  refine ⟨fun β S a w h => ?_⟩
  have hvs := partsV_rel h hp
  rw [hv] at hvs
  obtain ⟨vs, hvd⟩ : ∃ vs, vs = parts.toList.map fun p => a.eval p.2 := ⟨_, rfl⟩
  rw [← hvd] at hvs
  have hc1 := getO_own h hr hvs
  have hvl : vs.length = js.length := by have := VAll.length _ _ hvs; simpa using this
  have hfm : ∀ l : List Value, (∀ v ∈ l, v.cells = #[v]) → (l.flatMap fun v => v.cells.toList) = l := fun l => by
    induction l with
    | nil => intro _; rfl
    | cons y l ih => intro hl; rw [List.flatMap_cons, hl y (by simp), ih fun v hv => hl v (by simp [hv])]; rfl
  have hrun := buildSlice_run (P := P) (w := w) (vs := vs) (ix := parts.toList.map (·.1)) (len := n) ht hi hz (by omega) (by omega) (by rw [hs]; omega) (by rw [hvl]; exact hix) (fun v hv => by rw [hc1 v hv, hs]; rfl)
  rw [hfm vs hc1] at hrun
  have hnew := new_cell h (e := e) (us := js.map AVal.own) (cs := vs.toArray) (by simpa using hvs)
  refine ⟨.slice (some ⟨w.heap.size, 0, none⟩) n n, _, _, .view s.nx 0 n, _, S, .inl ?_, fun _ b hb => Below.heap_alloc _ _ _ hb, hnew, ?_, hK⟩
  · simp only [execOp, ho, parts_zip, ← hvd]
    exact run_value2 hrun
  · simp only [VRel, updO, if_true]
    exact ⟨_, n, rfl, Nat.le_refl _, fun _ => ⟨w.heap.size, rfl, rfl⟩⟩
/-! ### A look at an owned row -/
theorem vall_plain {w w' : World} {β β' : Nat → Option Value} {S S' : Nat → Prop} : ∀ {xs : List AVal} {vs : List Value}, (∀ x ∈ xs, ∃ k z, x = .d (.int k z)) → VAll w β S xs vs → VAll w' β' S' xs vs
  | [], vs, _, h => by simpa only [VAll] using h
  | x :: xs, vs, hx, h => by
    simp only [VAll] at h ⊢
    obtain ⟨v, r, rfl, h1, h2⟩ := h
    obtain ⟨k, z, rfl⟩ := hx x (by simp)
    exact ⟨v, r, rfl, by simpa only [VRel, Rep] using h1, vall_plain (fun y hy => hx y (by simp [hy])) h2⟩

/-- The first of the objects that a call makes, behind one that was handed in. -/
def bump : AVal → AVal
  | .own 0 => .own 1
  | .tup [.own 0, x] => .tup [.own 1, x]
  | x => x

theorem CSpec.peek {f : FuncId} {rest : List AVal} {k : IntKind} {e : TypeId} {b : List Int} {K : List (Nat × Ob) → Nat → AVal → Prop} (h : CSpec P f (.d (.ints k b) :: rest) [] 0 K) (hrest : ∀ x ∈ rest, ∃ k z, x = .d (.int k z))
    (hK : ∀ st nx r, K st nx r → ∃ k2 e2 xs, st = [(0, .row k2 e2 xs)] ∧ nx = 1 ∧ (r = .own 0 ∨ ∃ k3 z, r = .tup [.own 0, .d (.int k3 z)])) :
    CSpec P f (.own 0 :: rest) [(0, .row k e b)] 1 (fun st nx r => ∃ k2 e2 xs r0, K [(0, .row k2 e2 xs)] 1 r0 ∧ st = [(1, .row k2 e2 xs), (0, .row k e b)] ∧ nx = 2 ∧ r = bump r0) := by
  refine ⟨h.1, fun w β S vs hs hβ hv => ?_⟩
  simp only [VAll] at hv
  obtain ⟨v0, vs', rfl, hv0, hv'⟩ := hv
  obtain ⟨u, hu, hob⟩ := hs.obj 0 (.row k e b) (by simp)
  simp only [VRel] at hv0
  rw [hu] at hv0
  injection hv0 with hv0
  subst hv0
  have hob0 := hob
  simp only [ORel] at hob
  obtain ⟨hown, hwf, hlim⟩ := hob
  have hgl0 : ∀ g, blk u = some g → Owned β [(0, Ob.row k e b)] g := fun g hg => ⟨0, .row k e b, by simp, by rw [hu]; exact hg⟩
  obtain ⟨A, c, e1, hle, hA⟩ := ownsV_cells hown
  have hS : ∀ x, S x → (S x ∨ blk u = some x) ∧ w.heap[x]? = w.heap[x]? := fun x hx => ⟨.inl hx, rfl⟩
  have hs1 : SRel w (fun _ => none) (fun x => S x ∨ blk u = some x) [] := ⟨fun j o hj => by simp at hj, by simp, fun i o j o' hi => by simp at hi, fun x ⟨_, _, hx, _⟩ => by simp at hx, fun x hx => by
    rcases hx with hx | hx
    · exact hs.inS x hx
    · exact (hs.own x (hgl0 x hx)).2, hs.gl.keep hS⟩
  have hd : VRel w (fun _ => none) (fun x => S x ∨ blk u = some x) (.d (.ints k b)) u := by
    simp only [VRel, Rep]
    refine ⟨[u], ⟨A, c, by rw [e1], hle, hlim, hwf, fun hne => ?_⟩, rfl⟩
    obtain ⟨g, h1, h2, h3⟩ := hA (by have := List.length_pos_iff.2 hne; omega)
    exact ⟨g, 0, h1, .inr h2, h3⟩
  refine Calls.mono (h.2 w (fun _ => none) (fun x => S x ∨ blk u = some x) (u :: vs') hs1 (fun _ _ => rfl) (by simp only [VAll]; exact ⟨u, vs', rfl, hd, vall_plain hrest hv'⟩)) fun ev w' hh => ?_
  obtain ⟨v, st', nx', r, β', S', rfl, hf, hsr, hnone, _, _, hr, hKK⟩ := hh
  obtain ⟨k2, e2, xs, rfl, rfl, hr0⟩ := hK _ _ _ hKK
  obtain ⟨v1, hv1, hob1⟩ := hsr.obj 0 (.row k2 e2 xs) (by simp)
  have hnoE : ∀ x, ¬ Owned (fun _ => none) ([] : List (Nat × Ob)) x := fun x ⟨_, _, hx, _⟩ => by simp at hx
  have hnew : ∀ g, blk v1 = some g → w.heap.size ≤ g ∧ g < w'.heap.size := fun g hg => by
    have ho : Owned β' [(0, Ob.row k2 e2 xs)] g := ⟨0, .row k2 e2 xs, by simp, by rw [hv1]; exact hg⟩
    rcases hf.own g ho with h1 | h1
    · exact (hnoE g h1).elim
    · exact ⟨h1, (hsr.own g ho).2⟩
  have hold : ∀ x, x < w.heap.size → w'.heap[x]? = w.heap[x]? := fun x hx => hf.old x hx (hnoE x)
  obtain ⟨β2, hβ2⟩ : ∃ β2 : Nat → Option Value, β2 = fun j => if j = 1 then some v1 else if j = 0 then some u else none := ⟨_, rfl⟩
  have b0 : β2 0 = some u := by rw [hβ2]; rfl
  have b1 : β2 1 = some v1 := by rw [hβ2]; rfl
  have hownc : ∀ g, Owned β2 [(1, Ob.row k2 e2 xs), (0, Ob.row k e b)] g → blk v1 = some g ∨ blk u = some g := by
    rintro g ⟨j, o, hj, hg⟩
    simp only [List.mem_cons, Prod.mk.injEq, List.not_mem_nil, or_false] at hj
    rcases hj with ⟨rfl, _⟩ | ⟨rfl, _⟩
    · rw [b1] at hg; exact .inl hg
    · rw [b0] at hg; exact .inr hg
  refine ⟨v, _, _, bump r, β2, S, rfl, ⟨hf.size, hf.os, hf.tape, hf.output, fun x hx hE => hold x hx, fun x hx => .inl hx, fun g hg => ?_⟩, ⟨fun j o hj => ?_, by simp, fun i o j o' hi hj hne g hg hg' => ?_, fun g hg => ?_, fun x hx => ?_, ?_⟩, fun j hj => ?_, by omega, fun j hj => ?_, ?_, ⟨k2, e2, xs, r, hKK, rfl, rfl, rfl⟩⟩
  · rcases hownc g hg with h1 | h1
    · exact .inr (hnew g h1).1
    · exact .inl (hgl0 g h1)
  · simp only [List.mem_cons, Prod.mk.injEq, List.not_mem_nil, or_false] at hj
    rcases hj with ⟨rfl, rfl⟩ | ⟨rfl, rfl⟩
    · exact ⟨v1, b1, by simpa only [ORel] using hob1⟩
    · refine ⟨u, b0, ?_⟩
      simp only [ORel]
      exact ⟨hown.keep fun g hg => hold g (hs.own g (hgl0 g hg)).2, hwf, hlim⟩
  · have two : ∀ {i : Nat} {o : Ob}, (i, o) ∈ [(1, Ob.row k2 e2 xs), (0, Ob.row k e b)] → i = 1 ∨ i = 0 := fun h => by
      simp only [List.mem_cons, Prod.mk.injEq, List.not_mem_nil, or_false] at h
      rcases h with ⟨h, _⟩ | ⟨h, _⟩ <;> simp [h]
    rcases two hi with rfl | rfl <;> rcases two hj with rfl | rfl
    · exact hne rfl
    · rw [b1] at hg; rw [b0] at hg'
      have h1 := (hnew g hg).1
      have h2 := (hs.own g (hgl0 g hg')).2
      omega
    · rw [b0] at hg; rw [b1] at hg'
      have h1 := (hnew g hg').1
      have h2 := (hs.own g (hgl0 g hg)).2
      omega
    · exact hne rfl
  · rcases hownc g hg with h1 | h1
    · refine ⟨fun hx => ?_, (hnew g h1).2⟩
      have := hs.inS g hx
      have := (hnew g h1).1
      omega
    · have := hs.own g (hgl0 g h1)
      exact ⟨this.1, Nat.lt_of_lt_of_le this.2 hf.size⟩
  · exact Nat.lt_of_lt_of_le (hs.inS x hx) hf.size
  · exact hs.gl.keep fun x hx => ⟨hx, hold x (hs.inS x hx)⟩
  · rw [hβ2]
    simp only
    rw [if_neg (by omega), if_neg (by omega)]
  · have : j = 0 := by omega
    subst this
    rw [b0, hu]
  · rcases hr0 with rfl | ⟨k3, z, rfl⟩
    · simp only [VRel] at hr
      simp only [bump, VRel]
      rw [b1, ← hv1]
      exact hr
    · simp only [VRel, VAll] at hr
      simp only [bump, VRel, VAll]
      obtain ⟨vs2, rfl, a1, r1, e1, h1, h2⟩ := hr
      refine ⟨vs2, rfl, a1, r1, e1, ?_, ?_⟩
      · rw [b1, ← hv1]; exact h1
      · obtain ⟨a2, r2, e2, h3, h4⟩ := h2
        exact ⟨a2, r2, e2, by simpa only [Rep] using h3, h4⟩
end Go.Proofs.YtniaeiikdgbnfaaDoor.AW
namespace Go.Proofs.YtniaeiikdgbnfaaDoor.R
open Go Go.RowKit Go.Proofs Go.Proofs.YtniaeiikdgbnfaaDoor.AW
set_option linter.unusedSectionVars false
variable [Globs]
set_option maxRecDepth 100000
set_option linter.unusedSimpArgs false
set_option linter.unusedVariables false
set_option maxHeartbeats 4000000

def toldNm : AW.Told := ⟨fun _ => false, fun r i => if r == 1 && i == 3 then [5] else [], fun _ => .done⟩

theorem k_name (hG : Globs.gl 4 = some ROUNDS) (hF : Globs.gl 1 = some FIRST) (m n : List Int) (n0 : Int) (rr : List Int) (h : Key m n n0 rr) :
    Imm Tryd.prog 35 [.d (keyD m n n0 rr)] (fun r => r = .d (byt (sumS (keyC m)))) := by
  obtain ⟨h1, h2, h3, hs⟩ := h.pos
  have hl := h.len
  (refine Imm.of_awp toldNm [] Tryd.func35 rfl (by decide) (Nat.le_of_ble_eq_true rfl) ?_; intro _w0 _S0 _E0 _B0; ((conv=>whnf);repeat'((first|(show(_=true→_)∧(_=false→_);first|refine nTt ?_|refine nFf ?_|refine gS ?_ ?_<;>(intro _h;try contradiction))|(show(_=false→_)∧(_=true→_);first|refine nU ?_|refine nV ?_|refine gZ ?_ ?_<;>(intro _h;try contradiction))|(intro _h;try contradiction)|(show _∧_;refine gA ?_)|fail);all_goals conv=>whnf)))
  refine acallI (k_keyBytes m n n0 rr h) rfl fun r hr => ?_
  rw [key_eq h] at hr
  subst hr
  ((conv=>whnf);repeat'((first|(show(_=true→_)∧(_=false→_);first|refine gT ?_|refine gF ?_|refine gS ?_ ?_<;>(intro _h;try contradiction))|(show(_=false→_)∧(_=true→_);first|refine gU ?_|refine gV ?_|refine gZ ?_ ?_<;>(intro _h;try contradiction))|(intro _h;try contradiction)|(show _∧_;refine gA ?_)|fail);all_goals conv=>whnf))
  refine acallI (s_of hG hF [keyC m] (fun x hx => by simp at hx; subst hx; exact keyC_wfd h.wf) (by simp [keyC_len]; omega) (by simp)) rfl fun r hr => ?_
  subst hr
  ((conv=>whnf);repeat'((first|(show(_=true→_)∧(_=false→_);first|refine gT ?_|refine gF ?_|refine gS ?_ ?_<;>(intro _h;try contradiction))|(show(_=false→_)∧(_=true→_);first|refine gU ?_|refine gV ?_|refine gZ ?_ ?_<;>(intro _h;try contradiction))|(intro _h;try contradiction)|(show _∧_;refine gA ?_)|fail);all_goals conv=>whnf))
  refine Ends.imm rfl ?_
  rw [List.flatten_cons, List.flatten_nil, List.append_nil]

theorem k_nameO (hG : Globs.gl 4 = some ROUNDS) (hF : Globs.gl 1 = some FIRST) (m n : List Int) (n0 : Int) (rr : List Int) (h : Key m n n0 rr) :
    CSpec Tryd.prog 35 [.d (keyD m n n0 rr)] [] 0 (fun st nx r => st = [(0, .row .u8 5 (sumS (keyC m)))] ∧ nx = 1 ∧ r = .own 0) := by
  obtain ⟨h1, h2, h3, hs⟩ := h.pos
  have hl := h.len
  refine CSpec.ends (CSpec.of_awp toldNm [] Tryd.func35 rfl (by decide) (Nat.le_of_ble_eq_true rfl) fun _w0 _S0 _E0 _B0 => ?_)
  ((conv=>whnf);repeat'((first|(show(_=true→_)∧(_=false→_);first|refine nTt ?_|refine nFf ?_|refine gS ?_ ?_<;>(intro _h;try contradiction))|(show(_=false→_)∧(_=true→_);first|refine nU ?_|refine nV ?_|refine gZ ?_ ?_<;>(intro _h;try contradiction))|(intro _h;try contradiction)|(show _∧_;refine gA ?_)|fail);all_goals conv=>whnf))
  refine acallI (k_keyBytes m n n0 rr h) rfl fun r hr => ?_
  rw [key_eq h] at hr
  subst hr
  ((conv=>whnf);repeat'((first|(show(_=true→_)∧(_=false→_);first|refine gT ?_|refine gF ?_|refine gS ?_ ?_<;>(intro _h;try contradiction))|(show(_=false→_)∧(_=true→_);first|refine gU ?_|refine gV ?_|refine gZ ?_ ?_<;>(intro _h;try contradiction))|(intro _h;try contradiction)|(show _∧_;refine gA ?_)|fail);all_goals conv=>whnf))
  refine acall [] (s_ofO hG hF [keyC m] (fun x hx => by simp at hx; subst hx; exact keyC_wfd h.wf) (by simp [keyC_len]; omega) (by simp)) rfl (by simp [stIn]) rfl (fun _ => rfl) ?_
  rintro st nx r ⟨rfl, rfl, rfl⟩
  ((conv=>whnf);repeat'((first|(show(_=true→_)∧(_=false→_);first|refine gT ?_|refine gF ?_|refine gS ?_ ?_<;>(intro _h;try contradiction))|(show(_=false→_)∧(_=true→_);first|refine gU ?_|refine gV ?_|refine gZ ?_ ?_<;>(intro _h;try contradiction))|(intro _h;try contradiction)|(show _∧_;refine gA ?_)|fail);all_goals conv=>whnf))
  refine ⟨[1], [(0, .row .u8 5 (sumS (keyC m)))], .own 0, ⟨rfl, ⟨⟨by decide, ?_⟩, trivial⟩, rfl⟩, rfl, rfl, rfl⟩
  rw [List.flatten_cons, List.flatten_nil, List.append_nil]
  rfl

def toldLKM : AW.Told := ⟨fun _ => false, fun _ _ => [], fun r => if r == 11 then .take 0 (.take 3 (.one 1 (.take 2 (.one 4 (.take 5 (.take 6 (.take 7 (.take 8 (.take 10 (.take 11 (.one 9 (.take 12 (.take 13 (.take 14 (.take 15 (.take 18 (.take 19 (.one 16 (.take 17 (.take 20 (.take 21 (.take 22 (.take 23 (.take 26 (.one 24 (.take 25 (.one 27 (.take 28 (.take 29 (.take 30 (.take 31 .done))))))))))))))))))))))))))))))) else .done⟩

end Go.Proofs.YtniaeiikdgbnfaaDoor.R
