/- Parts L7, L9, B0, B1, B2, B3, B4. No condition of its own. -/
import Derived.Test.YtniaeiikdgbnfaaDoorSD16
import Derived.Test.YtniaeiikdgbnfaaDoorSD6
import Derived.Test.YtniaeiikdgbnfaaDoorSD11
import Derived.Test.YtniaeiikdgbnfaaDoorSD15
import Derived.Test.YtniaeiikdgbnfaaDoorSD10

namespace Go.Proofs.YtniaeiikdgbnfaaDoor.R.L
open Go Go.RowKit Go.Proofs Go.Proofs.YtniaeiikdgbnfaaDoor.AW
set_option linter.unusedSectionVars false
variable [Globs]
set_option maxRecDepth 100000
set_option linter.unusedSimpArgs false
set_option linter.unusedVariables false
set_option maxHeartbeats 4000000

def toldSum : AW.Told := ⟨fun f => f == 121 || f == 1004002, fun r i => if r == 9 && i == 2 then [54] else [], fun r =>
  if r == 1 then .take 0 (.take 1 (.take 2 (.take 4 (.take 5 (.take 6 (.take 7 (.four 3 (.three 8 (.two 9 (.two 10 (.two 11 (.one 12 (.one 13 .done)) 12 (.one 11 (.one 13 .done))) 12 (.one 10 (.one 11 (.one 13 .done)))) 12 (.one 9 (.one 10 (.one 11 (.one 13 .done))))) 9 (.two 8 (.two 10 (.two 11 (.one 12 (.one 13 .done)) 12 (.one 11 (.one 13 .done))) 12 (.one 10 (.one 11 (.one 13 .done)))) 12 (.one 8 (.one 10 (.one 11 (.one 13 .done))))) 12 (.two 8 (.one 9 (.one 10 (.one 11 (.one 13 .done)))) 9 (.one 8 (.one 10 (.one 11 (.one 13 .done)))))) 8 (.three 3 (.two 9 (.two 10 (.two 11 (.one 12 (.one 13 .done)) 12 (.one 11 (.one 13 .done))) 12 (.one 10 (.one 11 (.one 13 .done)))) 12 (.one 9 (.one 10 (.one 11 (.one 13 .done))))) 9 (.three 3 (.two 10 (.two 11 (.one 12 (.one 13 .done)) 12 (.one 11 (.one 13 .done))) 12 (.one 10 (.one 11 (.one 13 .done)))) 10 (.take 3 (.two 11 (.one 12 (.one 13 .done)) 12 (.one 11 (.one 13 .done)))) 12 (.two 3 (.one 10 (.one 11 (.one 13 .done))) 10 (.take 3 (.one 11 (.one 13 .done))))) 12 (.two 3 (.one 9 (.one 10 (.one 11 (.one 13 .done)))) 9 (.two 3 (.one 10 (.one 11 (.one 13 .done))) 10 (.take 3 (.one 11 (.one 13 .done)))))) 9 (.three 3 (.two 8 (.two 10 (.two 11 (.one 12 (.one 13 .done)) 12 (.one 11 (.one 13 .done))) 12 (.one 10 (.one 11 (.one 13 .done)))) 12 (.one 8 (.one 10 (.one 11 (.one 13 .done))))) 8 (.three 3 (.two 10 (.two 11 (.one 12 (.one 13 .done)) 12 (.one 11 (.one 13 .done))) 12 (.one 10 (.one 11 (.one 13 .done)))) 10 (.take 3 (.two 11 (.one 12 (.one 13 .done)) 12 (.one 11 (.one 13 .done)))) 12 (.two 3 (.one 10 (.one 11 (.one 13 .done))) 10 (.take 3 (.one 11 (.one 13 .done))))) 12 (.two 3 (.one 8 (.one 10 (.one 11 (.one 13 .done)))) 8 (.two 3 (.one 10 (.one 11 (.one 13 .done))) 10 (.take 3 (.one 11 (.one 13 .done)))))) 12 (.three 3 (.two 8 (.one 9 (.one 10 (.one 11 (.one 13 .done)))) 9 (.one 8 (.one 10 (.one 11 (.one 13 .done))))) 8 (.two 3 (.one 9 (.one 10 (.one 11 (.one 13 .done)))) 9 (.two 3 (.one 10 (.one 11 (.one 13 .done))) 10 (.take 3 (.one 11 (.one 13 .done))))) 9 (.two 3 (.one 8 (.one 10 (.one 11 (.one 13 .done)))) 8 (.two 3 (.one 10 (.one 11 (.one 13 .done))) 10 (.take 3 (.one 11 (.one 13 .done)))))))))))))
  else if r == 8 then .take 0 (.take 1 (.take 2 (.take 3 (.take 4 (.take 7 (.one 5 (.take 6 (.take 8 (.take 9 (.one 10 (.one 11 (.take 12 (.one 13 .done)))))))))))))
  else .done⟩

/-- What is left, a bit 1, noughts, and how many bits there were. -/
def endP (rest : List Int) (cnt : Nat) : List Int := rest ++ [128] ++ List.replicate ((239 - rest.length % 128) % 128) 0 ++ List.replicate 8 0 ++ be 8 (8 * cnt % 18446744073709551616)

theorem k_chunk (xs : List Int) : Imm Tryd.prog 117 [.d (byt xs), i64 128] (fun r => r = .d (.fn 130 [.ptr (byt xs), .ptr (.int .i64 128)])) := by
  (refine Imm.of_awp (⟨fun _ => false, fun r i => if r == 3 && i == 0 then [2, 3] else [], fun _ => .done⟩ : AW.Told) [] Tryd.func117 rfl (by decide) (Nat.le_of_ble_eq_true rfl) ?_; intro _w0 _S0 _E0 _B0; ((conv=>whnf);repeat'((first|(show(_=true→_)∧(_=false→_);first|refine gT ?_|refine gF ?_|refine gS ?_ ?_<;>(intro _h;try contradiction))|(show(_=false→_)∧(_=true→_);first|refine gU ?_|refine gV ?_|refine gZ ?_ ?_<;>(intro _h;try contradiction))|(intro _h;try contradiction)|(show _∧_;refine gA ?_)|fail);all_goals conv=>whnf)))
  exact Ends.imm rfl rfl

theorem s_sum (hG : Globs.gl 5 = some ROUNDS) (s rest : List Int) (cnt : Nat) (hs : s.length = 8) (hr : wfd rest) (hl : rest.length < 128) (hc : cnt ≤ 1000000000) :
    CSpec Tryd.prog 105 [.optr 0 0] [(0, .cell 145 (hashC s (.own 1) cnt)), (1, .row .u8 5 rest)] 2
      (fun st nx r => st = [(0, .cell 145 (hashC s (.own 1) cnt)), (1, .row .u8 5 rest), (2, .row .u8 5 ((foldS s (endP rest cnt) ((endP rest cnt).length / 128)).flatMap fun x => be 8 x.toNat))] ∧ nx = 3 ∧ r = .own 2) := by
  refine CSpec.ends (CSpec.of_AWp [] Tryd.func105 rfl (by decide) (Nat.le_of_ble_eq_true rfl) fun _w0 _S0 _E0 _B0 => ?_)
  obtain ⟨Z, hZ⟩ : ∃ Z, Z = (239 - rest.length % 128) % 128 := ⟨_, rfl⟩
  refine AWp.seq toldSum ?_
  ((conv=>whnf);repeat'((first|(show(_=true→_)∧(_=false→_);first|refine gT ?_|refine gF ?_|refine gS ?_ ?_<;>(intro _h;try contradiction))|(show(_=false→_)∧(_=true→_);first|refine gU ?_|refine gV ?_|refine gZ ?_ ?_<;>(intro _h;try contradiction))|(intro _h;try contradiction)|(show _∧_;refine gA ?_)|fail);all_goals conv=>whnf))
  refine AWp.cut toldSum (ι := Unit) (fun _ => [(0, .optr 0 0), (3, .optr 2 0)])
    (fun _ => [(0, .cell 145 (hashC s (.own 1) cnt)), (1, .row .u8 5 rest), (2, .cell 145 (hashC s (.own 3) 0)), (3, .row .u8 5 (rest ++ [128]))]) 77 4 (fun _ => True) ?_ fun _ _ => ?_
  · ((conv=>whnf);repeat'((first|(show(_=true→_)∧(_=false→_);first|refine gT ?_|refine gF ?_|refine gS ?_ ?_<;>(intro _h;try contradiction))|(show(_=false→_)∧(_=true→_);first|refine gU ?_|refine gV ?_|refine gZ ?_ ?_<;>(intro _h;try contradiction))|(intro _h;try contradiction)|(show _∧_;refine gA ?_)|fail);all_goals conv=>whnf))
    repeat' (first
      | (refine acallP [] [] (k_cloneA rest (by omega)) rfl trivial trivial rfl (fun _ => rfl) ?_; rintro st nx r ⟨rfl, rfl, rfl⟩; refine ⟨rfl, rfl, ?_⟩; ((conv=>whnf);repeat'((first|(show(_=true→_)∧(_=false→_);first|refine gT ?_|refine gF ?_|refine gS ?_ ?_<;>(intro _h;try contradiction))|(show(_=false→_)∧(_=true→_);first|refine gU ?_|refine gV ?_|refine gZ ?_ ?_<;>(intro _h;try contradiction))|(intro _h;try contradiction)|(show _∧_;refine gA ?_)|fail);all_goals conv=>whnf)))
      | (refine And.intro (by show (rest.length + 1) * 1 ≤ 140737488355328; omega) ?_; ((conv=>whnf);repeat'((first|(show(_=true→_)∧(_=false→_);first|refine gT ?_|refine gF ?_|refine gS ?_ ?_<;>(intro _h;try contradiction))|(show(_=false→_)∧(_=true→_);first|refine gU ?_|refine gV ?_|refine gZ ?_ ?_<;>(intro _h;try contradiction))|(intro _h;try contradiction)|(show _∧_;refine gA ?_)|fail);all_goals conv=>whnf)))
      | (refine And.intro ?_ ?_ <;> ((conv=>whnf);repeat'((first|(show(_=true→_)∧(_=false→_);first|refine gT ?_|refine gF ?_|refine gS ?_ ?_<;>(intro _h;try contradiction))|(show(_=false→_)∧(_=true→_);first|refine gU ?_|refine gV ?_|refine gZ ?_ ?_<;>(intro _h;try contradiction))|(intro _h;try contradiction)|(show _∧_;refine gA ?_)|fail);all_goals conv=>whnf))))
    all_goals first
      | (refine ⟨(), [0, 1, 4, 2], trivial, rfl, ?_⟩; (refine ⟨rfl, rfl, ?_, ?_⟩ <;> repeat' (first | exact True.intro | rfl | decide | (refine And.intro ?_ ?_))); done)
      | (refine ⟨(), [0, 1, 4, 3], trivial, rfl, ?_⟩; (refine ⟨rfl, rfl, ?_, ?_⟩ <;> repeat' (first | exact True.intro | rfl | decide | (refine And.intro ?_ ?_))); done)
      | (refine ⟨(), [0, 1, 3, 2], trivial, rfl, ?_⟩; (refine ⟨rfl, rfl, ?_, ?_⟩ <;> repeat' (first | exact True.intro | rfl | decide | (refine And.intro ?_ ?_))); done)
      | (refine ⟨(), [0, 1, 3, 4], trivial, rfl, ?_⟩; (refine ⟨rfl, rfl, ?_, ?_⟩ <;> repeat' (first | exact True.intro | rfl | decide | (refine And.intro ?_ ?_))); done)
      | (refine ⟨(), [0, 1, 2, 3], trivial, rfl, ?_⟩; (refine ⟨rfl, rfl, ?_, ?_⟩ <;> repeat' (first | exact True.intro | rfl | decide | (refine And.intro ?_ ?_))); done)
      | (refine ⟨(), [0, 1, 2, 4], trivial, rfl, ?_⟩; (refine ⟨rfl, rfl, ?_, ?_⟩ <;> repeat' (first | exact True.intro | rfl | decide | (refine And.intro ?_ ?_))); done)
  · refine AWp.of_awp toldSum ?_
    ((conv=>whnf);repeat'((first|(show(_=true→_)∧(_=false→_);first|refine gT ?_|refine gF ?_|refine gS ?_ ?_<;>(intro _h;try contradiction))|(show(_=false→_)∧(_=true→_);first|refine gU ?_|refine gV ?_|refine gZ ?_ ?_<;>(intro _h;try contradiction))|(intro _h;try contradiction)|(show _∧_;refine gA ?_)|fail);all_goals conv=>whnf))
    refine aloop (T := toldSum) (ι := Nat) (fun j => [(0, .optr 0 0), (3, .optr 2 0)]) (fun j => [(0, .cell 145 (hashC s (.own 1) cnt)), (1, .row .u8 5 rest), (2, .cell 145 (hashC s (.own 3) 0)), (3, .row .u8 5 (rest ++ [128] ++ List.replicate j 0))]) 77 4
      (fun j => Z - j) (fun j => j ≤ Z)
      ⟨0, [0, 1, 2, 3], rfl, by omega, by (refine ⟨rfl, rfl, ?_, ?_⟩ <;> repeat' (first | exact True.intro | rfl | decide | (refine And.intro ?_ ?_))); simp; rfl⟩ ?_
    intro j hj
    have hrl : (rest ++ [128] ++ List.replicate j 0).length = rest.length + 1 + j := by simp; omega
    have hmod : ((rest ++ [128] ++ List.replicate j 0).length : Int).tmod 128 = (((rest.length + 1 + j) % 128 : Nat) : Int) := by
      rw [hrl, Int.tmod_eq_emod_of_nonneg (by omega)]; omega
    rcases Nat.lt_or_ge j Z with hjz | hjz
    · have hne : ¬ ((rest ++ [128] ++ List.replicate j 0).length : Int).tmod 128 = 112 := by rw [hmod]; omega
      ((conv=>whnf);repeat'((first|(show(_=true→_)∧(_=false→_);first|refine gT ?_|refine gF ?_|refine gS ?_ ?_<;>(intro _h;try contradiction))|(show(_=false→_)∧(_=true→_);first|refine gU ?_|refine gV ?_|refine gZ ?_ ?_<;>(intro _h;try contradiction))|(intro _h;try contradiction)|(show _∧_;refine gA ?_)|fail);all_goals conv=>whnf))
      refine ⟨by rw [hrl]; show (rest.length + 1 + j + 1) * 1 ≤ 140737488355328; omega, ?_⟩
      ((conv=>whnf);repeat'((first|(show(_=true→_)∧(_=false→_);first|refine gT ?_|refine gF ?_|refine gS ?_ ?_<;>(intro _h;try contradiction))|(show(_=false→_)∧(_=true→_);first|refine gU ?_|refine gV ?_|refine gZ ?_ ?_<;>(intro _h;try contradiction))|(intro _h;try contradiction)|(show _∧_;refine gA ?_)|fail);all_goals conv=>whnf))
      refine ⟨j + 1, [0, 1, 2, 3], by omega, by omega, rfl, ?_⟩
      (refine ⟨rfl, rfl, ?_, ?_⟩ <;> repeat' (first | exact True.intro | rfl | decide | (refine And.intro ?_ ?_)))
      show some (Ob.row .u8 _ _) = some (Ob.row .u8 _ _)
      rw [List.replicate_succ', ← List.append_assoc]
    · have hjz' : j = Z := by omega
      have heq : ((rest ++ [128] ++ List.replicate j 0).length : Int).tmod 128 = 112 := by rw [hmod]; omega
      ((conv=>whnf);repeat'((first|(show(_=true→_)∧(_=false→_);first|refine gT ?_|refine gF ?_|refine gS ?_ ?_<;>(intro _h;try contradiction))|(show(_=false→_)∧(_=true→_);first|refine gU ?_|refine gV ?_|refine gZ ?_ ?_<;>(intro _h;try contradiction))|(intro _h;try contradiction)|(show _∧_;refine gA ?_)|fail);all_goals conv=>whnf))
      refine ao_appN (k := .u8) (j := 3) (m := 8) rfl rfl rfl rfl rfl rfl rfl rfl rfl rfl (by decide) (by decide) rfl (show 2 ≤ 3 by decide) (fun h => Bool.noConfusion h) (by rw [hrl]; show (rest.length + 1 + j + 8) * 1 ≤ 140737488355328; omega) ?_
      ((conv=>whnf);repeat'((first|(show(_=true→_)∧(_=false→_);first|refine gT ?_|refine gF ?_|refine gS ?_ ?_<;>(intro _h;try contradiction))|(show(_=false→_)∧(_=true→_);first|refine gU ?_|refine gV ?_|refine gZ ?_ ?_<;>(intro _h;try contradiction))|(intro _h;try contradiction)|(show _∧_;refine gA ?_)|fail);all_goals conv=>whnf))
      rw [hjz']
      obtain ⟨p0, hp0⟩ : ∃ p0, p0 = rest ++ [128] ++ List.replicate Z 0 ++ List.replicate 8 0 := ⟨_, rfl⟩
      have hpl : p0.length = rest.length + 9 + Z := by rw [hp0, ← hjz', List.length_append, hrl, List.length_replicate]; omega
      rw [← hp0]
      refine aloop (T := toldSum) (ι := Nat) (fun i => [(0, .optr 0 0), (3, .optr 2 0), (4, i64 (8 * (7 - (i : Int))))]) (fun i => [(0, .cell 145 (hashC s (.own 1) cnt)), (1, .row .u8 5 rest), (2, .cell 145 (hashC s (.own 3) 0)), (3, .row .u8 5 (p0 ++ (be 8 (8 * cnt)).take i))]) 77 4
        (fun i => 8 - i) (fun i => i ≤ 8)
        ⟨0, [0, 1, 2, 3], rfl, by omega, by (refine ⟨rfl, rfl, ?_, ?_⟩ <;> repeat' (first | exact True.intro | rfl | decide | (refine And.intro ?_ ?_))); simp; rfl⟩ ?_
      intro i hi
      have hlen : (p0 ++ (be 8 (8 * cnt)).take i).length = p0.length + i := by
        rw [List.length_append, List.length_take, be_length]; omega
      rcases Nat.lt_or_ge i 8 with h8 | h8
      · have e8 : IntKind.u64.wrap (8 * (cnt : Int)) = ((8 * cnt : Nat) : Int) := by rw [wrap_u64 (by omega) (by omega)]; omega
        have e0 : (0 : Int) ≤ 8 * (7 - (i : Int)) := by omega
        have e2 : IntKind.u8.wrap (IntKind.u64.wrap (8 * (cnt : Int)) / 2 ^ min (8 * (7 - (i : Int))).toNat IntKind.u64.bits) = ((8 * cnt / 256 ^ (8 - 1 - i) % 256 : Nat) : Int) := by
          have e1 : (8 * (7 - (i : Int))).toNat = 8 * (7 - i) := by omega
          rw [e1, e8, Nat.min_eq_left (by simp [IntKind.bits]; omega)]
          have : (2 : Int) ^ (8 * (7 - i)) = ((256 ^ (8 - 1 - i) : Nat) : Int) := by
            rw [Int.pow_mul]; push_cast; rfl
          rw [this, ← Int.natCast_ediv, u8w]
        ((conv=>whnf);repeat'((first|(show(_=true→_)∧(_=false→_);first|refine gT ?_|refine gF ?_|refine gS ?_ ?_<;>(intro _h;try contradiction))|(show(_=false→_)∧(_=true→_);first|refine gU ?_|refine gV ?_|refine gZ ?_ ?_<;>(intro _h;try contradiction))|(intro _h;try contradiction)|(show _∧_;refine gA ?_)|fail);all_goals conv=>whnf))
        refine ⟨by rw [hlen]; show (p0.length + i + 1) * 1 ≤ 140737488355328; omega, ?_⟩
        ((conv=>whnf);repeat'((first|(show(_=true→_)∧(_=false→_);first|refine gT ?_|refine gF ?_|refine gS ?_ ?_<;>(intro _h;try contradiction))|(show(_=false→_)∧(_=true→_);first|refine gU ?_|refine gV ?_|refine gZ ?_ ?_<;>(intro _h;try contradiction))|(intro _h;try contradiction)|(show _∧_;refine gA ?_)|fail);all_goals conv=>whnf))
        refine ⟨i + 1, [0, 1, 2, 3], by omega, by omega, rfl, ?_⟩
        (refine ⟨rfl, rfl, ?_, ?_⟩ <;> repeat' (first | exact True.intro | rfl | decide | (refine And.intro ?_ ?_)))
        · exact di (by rw [wrap_i64 (by omega) (by omega)]; omega)
        · show some (Ob.row .u8 _ _) = some (Ob.row .u8 _ _)
          rw [e2, be_take (by omega), ← List.append_assoc]
      · have hi8 : i = 8 := by omega
        have hend : endP rest cnt = p0 ++ be 8 (8 * cnt) := by
          unfold endP
          rw [hp0, hZ, Nat.mod_eq_of_lt (a := 8 * cnt) (b := 18446744073709551616) (by omega)]
        have htk : (be 8 (8 * cnt)).take i = be 8 (8 * cnt) := List.take_of_length_le (by rw [be_length]; omega)
        rw [htk, hend]
        obtain ⟨p, hp⟩ : ∃ p, p = p0 ++ be 8 (8 * cnt) := ⟨_, rfl⟩
        obtain ⟨n, hn⟩ : ∃ n, p.length = 128 * n := ⟨(rest.length + 17 + Z) / 128, by rw [hp, List.length_append, be_length, hpl]; omega⟩
        have hpn : p.length / 128 = n := by omega
        have hn0 : 0 < n := by have := congrArg List.length hp; rw [List.length_append, be_length, hpl] at this; omega
        have hple : p.length ≤ 1000000000 := by have := congrArg List.length hp; rw [List.length_append, be_length, hpl] at this; omega
        have hpw : wfd p := by
          rw [hp, hp0]
          exact (((hr.append (fun x hx => by simp at hx; omega)).append (fun x hx => by rw [List.eq_of_mem_replicate hx]; omega)).append (fun x hx => by rw [List.eq_of_mem_replicate hx]; omega)).append (be_wfd _ _)
        rw [← hp, hpn]
        ((conv=>whnf);repeat'((first|(show(_=true→_)∧(_=false→_);first|refine gT ?_|refine gF ?_|refine gS ?_ ?_<;>(intro _h;try contradiction))|(show(_=false→_)∧(_=true→_);first|refine gU ?_|refine gV ?_|refine gZ ?_ ?_<;>(intro _h;try contradiction))|(intro _h;try contradiction)|(show _∧_;refine gA ?_)|fail);all_goals conv=>whnf))
        refine acallI (k_chunk p) rfl fun r hr => ?_
        subst hr
        ((conv=>whnf);repeat'((first|(show(_=true→_)∧(_=false→_);first|refine gT ?_|refine gF ?_|refine gS ?_ ?_<;>(intro _h;try contradiction))|(show(_=false→_)∧(_=true→_);first|refine gU ?_|refine gV ?_|refine gZ ?_ ?_<;>(intro _h;try contradiction))|(intro _h;try contradiction)|(show _∧_;refine gA ?_)|fail);all_goals conv=>whnf))
        refine AWp.rangeFunc toldSum (aiC p n hn hple hn0) (ι := Nat) [(0, .optr 0 0), (3, .optr 2 0)]
          (fun k => [(0, .cell 145 (hashC s (.own 1) cnt)), (1, .row .u8 5 rest), (2, .cell 145 (hashC (foldS s p k) (.d (byt p)) 0))]) 77 3 3
          (fun k i => i = k) (fun e v => False) rfl rfl rfl (fun k hk => rfl) rfl rfl (show 2 ≤ 3 by decide) (Nat.le_refl _) rfl ?_ ?_ ?_ ?_ ?_
        · exact ⟨0, [0, 1, 2], rfl, rfl, by (refine ⟨rfl, rfl, ?_, ?_⟩ <;> repeat' (first | exact True.intro | rfl | decide | (refine And.intro ?_ ?_)))⟩
        · intro k i hk hi' _ _ _ _ _
          subst hi'
          have hfl := foldS_len s p hs i
          ((conv=>whnf);repeat'((first|(show(_=true→_)∧(_=false→_);first|refine gT ?_|refine gF ?_|refine gS ?_ ?_<;>(intro _h;try contradiction))|(show(_=false→_)∧(_=true→_);first|refine gU ?_|refine gV ?_|refine gZ ?_ ?_<;>(intro _h;try contradiction))|(intro _h;try contradiction)|(show _∧_;refine gA ?_)|fail);all_goals conv=>whnf))
          refine acall [2] (s_take hG (foldS s p i) (cutB p (128 * i) 128) p 0 hfl (hpw.cut _ _) (cutB_len (by omega))) rfl ⟨⟨by decide, rfl⟩, trivial⟩ rfl (fun h => Bool.noConfusion h) ?_
          rintro st nx r ⟨rfl, rfl, rfl⟩
          ((conv=>whnf);repeat'((first|(show(_=true→_)∧(_=false→_);first|refine gT ?_|refine gF ?_|refine gS ?_ ?_<;>(intro _h;try contradiction))|(show(_=false→_)∧(_=true→_);first|refine gU ?_|refine gV ?_|refine gZ ?_ ?_<;>(intro _h;try contradiction))|(intro _h;try contradiction)|(show _∧_;refine gA ?_)|fail);all_goals conv=>whnf))
          refine ⟨i + 1, [0, 1, 2], rfl, rfl, rfl, ?_⟩
          (repeat' (first | exact True.intro | rfl | decide | (refine And.intro ?_ ?_)))
        · intro k hk
          subst hk
          have hfl := foldS_len s p hs k
          obtain ⟨v, hv⟩ : ∃ v, v = foldS s p k := ⟨_, rfl⟩
          have hvw : wfl v := by
            obtain ⟨k', rfl⟩ : ∃ k', k = k' + 1 := ⟨k - 1, by omega⟩
            rw [hv]
            exact blkS_wfl _ _
          rw [← hv] at hfl ⊢
          ((conv=>whnf);repeat'((first|(show(_=true→_)∧(_=false→_);first|refine gT ?_|refine gF ?_|refine gS ?_ ?_<;>(intro _h;try contradiction))|(show(_=false→_)∧(_=true→_);first|refine gU ?_|refine gV ?_|refine gZ ?_ ?_<;>(intro _h;try contradiction))|(intro _h;try contradiction)|(show _∧_;refine gA ?_)|fail);all_goals conv=>whnf))
          refine AWp.adopt 6 (.row .u8 5 []) rfl rfl ?_
          refine aloop (T := toldSum) (ι := Nat) (fun i => [(60, .ag 143 (st8 v)), (6, .own 3), (61, i64 i)]) (fun i => [(0, .cell 145 (hashC s (.own 1) cnt)), (1, .row .u8 5 rest), (3, .row .u8 5 ((v.take i).flatMap fun x => be 8 x.toNat))]) 77 4
            (fun i => 8 - i) (fun i => i ≤ 8)
            ⟨0, [0, 1, 2, 3], rfl, by omega, by (refine ⟨rfl, rfl, ?_, ?_⟩ <;> repeat' (first | exact True.intro | rfl | decide | (refine And.intro ?_ ?_)))⟩ ?_
          intro i hi
          rcases Nat.lt_or_ge i 8 with h8 | h8
          · have hf4 := flat_take4 v i (by omega)
            have hfll := flat_len (v.take i)
            rw [List.length_take, Nat.min_eq_left (by omega)] at hfll
            ((conv=>whnf);repeat'((first|(show(_=true→_)∧(_=false→_);first|refine gT ?_|refine gF ?_|refine gS ?_ ?_<;>(intro _h;try contradiction))|(show(_=false→_)∧(_=true→_);first|refine gU ?_|refine gV ?_|refine gZ ?_ ?_<;>(intro _h;try contradiction))|(intro _h;try contradiction)|(show _∧_;refine gA ?_)|fail);all_goals conv=>whnf))
            have hx0 := hvw.get i
            have hgx : [v.getD 0 0, v.getD 1 0, v.getD 2 0, v.getD 3 0, v.getD 4 0, v.getD 5 0, v.getD 6 0, v.getD 7 0].getD (i : Int).toNat 0 = v.getD i 0 := by
              rw [Int.toNat_natCast]
              rcases Nat.lt_or_ge i 8 with _ | h
              · match i, h8 with
                | 0, _ => rfl
                | 1, _ => rfl
                | 2, _ => rfl
                | 3, _ => rfl
                | 4, _ => rfl
                | 5, _ => rfl
                | 6, _ => rfl
                | 7, _ => rfl
              · omega
            obtain ⟨x, hx⟩ : ∃ x, x = v.getD i 0 := ⟨_, rfl⟩
            rw [← hx] at hgx hx0 hf4
            refine aloop (T := toldSum) (ι := Nat) (fun j => [(60, .ag 143 (st8 v)), (6, .own 3), (61, i64 i), (8, u64 x), (9, i64 (8 * (7 - (j : Int))))]) (fun j => [(0, .cell 145 (hashC s (.own 1) cnt)), (1, .row .u8 5 rest), (3, .row .u8 5 ((v.take i).flatMap (fun x => be 8 x.toNat) ++ (be 8 x.toNat).take j))]) 77 4
              (fun j => 8 - j) (fun j => j ≤ 8)
              ⟨0, [0, 1, 2, 3], rfl, by omega, by
                (refine ⟨rfl, rfl, ?_, ?_⟩ <;> repeat' (first | exact True.intro | rfl | decide | (refine And.intro ?_ ?_)))
                · rw [← hgx]; rfl
                · simp; rfl⟩ ?_
            intro j hj
            have hlen : ((v.take i).flatMap (fun x => be 8 x.toNat) ++ (be 8 x.toNat).take j).length = 8 * i + j := by
              rw [List.length_append, hfll, List.length_take, be_length]; omega
            rcases Nat.lt_or_ge j 8 with h4 | h4
            · have e2 := byte4 x j (8 * (7 - (j : Int))) hx0.1 h4 (by omega)
              ((conv=>whnf);repeat'((first|(show(_=true→_)∧(_=false→_);first|refine gT ?_|refine gF ?_|refine gS ?_ ?_<;>(intro _h;try contradiction))|(show(_=false→_)∧(_=true→_);first|refine gU ?_|refine gV ?_|refine gZ ?_ ?_<;>(intro _h;try contradiction))|(intro _h;try contradiction)|(show _∧_;refine gA ?_)|fail);all_goals conv=>whnf))
              refine ⟨by rw [hlen]; show (8 * i + j + 1) * 1 ≤ 140737488355328; omega, ?_⟩
              ((conv=>whnf);repeat'((first|(show(_=true→_)∧(_=false→_);first|refine gT ?_|refine gF ?_|refine gS ?_ ?_<;>(intro _h;try contradiction))|(show(_=false→_)∧(_=true→_);first|refine gU ?_|refine gV ?_|refine gZ ?_ ?_<;>(intro _h;try contradiction))|(intro _h;try contradiction)|(show _∧_;refine gA ?_)|fail);all_goals conv=>whnf))
              refine ⟨j + 1, [0, 1, 2, 3], by omega, by omega, rfl, ?_⟩
              (refine ⟨rfl, rfl, ?_, ?_⟩ <;> repeat' (first | exact True.intro | rfl | decide | (refine And.intro ?_ ?_)))
              · exact di (by rw [wrap_i64 (by omega) (by omega)]; omega)
              · show some (Ob.row .u8 _ _) = some (Ob.row .u8 _ _)
                rw [e2, be_take (by omega), ← List.append_assoc]
            · have hj4 : j = 8 := by omega
              ((conv=>whnf);repeat'((first|(show(_=true→_)∧(_=false→_);first|refine gT ?_|refine gF ?_|refine gS ?_ ?_<;>(intro _h;try contradiction))|(show(_=false→_)∧(_=true→_);first|refine gU ?_|refine gV ?_|refine gZ ?_ ?_<;>(intro _h;try contradiction))|(intro _h;try contradiction)|(show _∧_;refine gA ?_)|fail);all_goals conv=>whnf))
              refine ⟨i + 1, [0, 1, 2, 3], by omega, by omega, rfl, ?_⟩
              (refine ⟨rfl, rfl, ?_, ?_⟩ <;> repeat' (first | exact True.intro | rfl | decide | (refine And.intro ?_ ?_)))
              · exact di (by rw [wrap_i64 (by omega) (by omega)]; rfl)
              · show some (Ob.row .u8 _ _) = some (Ob.row .u8 _ _)
                rw [hf4, List.take_of_length_le (l := be 8 _) (by rw [be_length]; omega)]
          · have hi8 : i = 8 := by omega
            ((conv=>whnf);repeat'((first|(show(_=true→_)∧(_=false→_);first|refine gT ?_|refine gF ?_|refine gS ?_ ?_<;>(intro _h;try contradiction))|(show(_=false→_)∧(_=true→_);first|refine gU ?_|refine gV ?_|refine gZ ?_ ?_<;>(intro _h;try contradiction))|(intro _h;try contradiction)|(show _∧_;refine gA ?_)|fail);all_goals conv=>whnf))
            refine ⟨[0, 1, 3], [(0, .cell 145 (hashC s (.own 1) cnt)), (1, .row .u8 5 rest), (2, .row .u8 5 (v.flatMap fun x => be 8 x.toNat))], .own 2, ⟨rfl, ⟨⟨by decide, rfl⟩, ⟨by decide, rfl⟩, ⟨by decide, ?_⟩, trivial⟩, rfl⟩, rfl, rfl, rfl⟩
            have e : v.take i = v := by rw [hi8, List.take_of_length_le (by omega)]
            rw [e]
            rfl
        · intro n h
          exact h.elim
        · intro id n h
          exact h.elim

theorem sum_end (t : List Int) : (foldS (stS t) (endP (reS t) t.length) ((endP (reS t) t.length).length / 128)).flatMap (fun x => be 8 x.toNat) = sumS t := by
  have hl := reS_len t
  have e0 : t = t.take (128 * (t.length / 128)) ++ reS t := (List.take_append_drop _ _).symm
  have ep : padS t = t.take (128 * (t.length / 128)) ++ endP (reS t) t.length := by
    unfold padS endP
    rw [hl, Nat.mod_mod]
    conv => lhs; lhs; lhs; lhs; lhs; rw [e0]
    simp only [List.append_assoc]
  have el : (t.take (128 * (t.length / 128))).length = 128 * (t.length / 128) := by rw [List.length_take]; omega
  have e1 : (padS t).length / 128 = t.length / 128 + (endP (reS t) t.length).length / 128 := by
    rw [ep, List.length_append, el]; omega
  have e2 : (padS t).drop (128 * (t.length / 128)) = endP (reS t) t.length := by
    rw [ep, List.drop_append_of_le_length (by omega), List.drop_of_length_le (by omega)]; rfl
  have e3 : foldS H0 (padS t) (t.length / 128) = stS t := by
    unfold padS stS
    rw [List.append_assoc, List.append_assoc, List.append_assoc, foldS_app _ _ _ (by omega)]
  unfold sumS
  rw [e1, foldS_split, e2, e3]

def toldOf : AW.Told := ⟨fun f => f == 104 || f == 105, fun _ _ => [], fun _ => .done⟩

theorem s_of (hG : Globs.gl 5 = some ROUNDS) (hF : Globs.gl 2 = some FIRST) (xss : List (List Int)) (hw : ∀ x ∈ xss, wfd x) (hl : xss.flatten.length ≤ 10000000) (hx : xss.length ≤ 1000000) :
    Imm Tryd.prog 73 [.d (.sl 1 (xss.map byt))] (fun r => r = .d (byt (sumS xss.flatten))) := by
  have hwf : ∀ k, wfd (xss.take k).flatten := fun k x hx => by
    obtain ⟨l, h1, h2⟩ := List.mem_flatten.1 hx
    exact hw l (List.mem_of_mem_take h1) x h2
  (refine Imm.of_awp toldOf [2] Tryd.func73 rfl (by decide) (Nat.le_of_ble_eq_true rfl) ?_; intro _w0 _S0 _E0 _B0; ((conv=>whnf);repeat'((first|(show(_=true→_)∧(_=false→_);first|refine nTt ?_|refine nFf ?_|refine gS ?_ ?_<;>(intro _h;try contradiction))|(show(_=false→_)∧(_=true→_);first|refine nU ?_|refine nV ?_|refine gZ ?_ ?_<;>(intro _h;try contradiction))|(intro _h;try contradiction)|(show _∧_;refine gA ?_)|fail);all_goals conv=>whnf)))
  refine acall [] (s_new hF) rfl (by simp [stIn]) rfl (fun _ => rfl) ?_
  rintro st nx r ⟨rfl, rfl, rfl⟩
  ((conv=>whnf);repeat'((first|(show(_=true→_)∧(_=false→_);first|refine gT ?_|refine gF ?_|refine gS ?_ ?_<;>(intro _h;try contradiction))|(show(_=false→_)∧(_=true→_);first|refine gU ?_|refine gV ?_|refine gZ ?_ ?_<;>(intro _h;try contradiction))|(intro _h;try contradiction)|(show _∧_;refine gA ?_)|fail);all_goals conv=>whnf))
  refine aloop (T := toldOf) (fun k : Nat => [(3, .optr 0 0), (7, .d (.sl 1 (xss.map byt))), (8, i64 xss.length), (9, i64 k)])
    (fun k => [(0, .cell 145 (hashC (stS (xss.take k).flatten) (.own 1) ((xss.take k).flatten.length : Nat))), (1, .row .u8 5 (reS (xss.take k).flatten))]) 19 2 (fun k => xss.length - k) (fun k => k ≤ xss.length)
    ⟨0, [0, 1], rfl, Nat.zero_le _, by
      (refine ⟨rfl, rfl, ?_, ?_⟩ <;> repeat' (first | exact True.intro | rfl | decide | (refine And.intro ?_ ?_)))
      · simp [AW.upd, renV]
      · rw [List.take_zero, List.flatten_nil, show stS [] = H0 from rfl]; rfl
      · rw [List.take_zero, List.flatten_nil, show reS [] = [] from rfl]; rfl⟩ ?_
  intro k hk
  have hf1 := flat_le xss k
  have hf2 := flat_le xss (k + 1)
  obtain ⟨t, ht⟩ : ∃ t, t = (xss.take k).flatten := ⟨_, rfl⟩
  have htw : wfd t := by rw [ht]; exact hwf k
  have hrl := reS_len t
  rw [← ht] at hf1 ⊢
  rcases Nat.lt_or_ge k xss.length with hkl | hkl
  · have hfk := flat_take xss k hkl
    rw [← ht] at hfk
    have hlen : (xss.take (k + 1)).flatten.length = t.length + (xss.getD k []).length := by rw [hfk, List.length_append]
    obtain ⟨b, hb⟩ : ∃ b, b = xss.getD k [] := ⟨_, rfl⟩
    have hbw : wfd b := by
      rw [hb, List.getD_eq_getElem?_getD, List.getElem?_eq_getElem hkl]
      exact hw _ (List.getElem_mem hkl)
    rw [← hb] at hfk hlen
    have hap := stS_app t b
    have ew : IntKind.u64.wrap ((t.length : Int) + b.length) = ((t ++ b).length : Nat) := by rw [wrap_u64 (by omega) (by omega), List.length_append]; rfl
    ((conv=>whnf);repeat'((first|(show(_=true→_)∧(_=false→_);first|refine gT ?_|refine gF ?_|refine gS ?_ ?_<;>(intro _h;try contradiction))|(show(_=false→_)∧(_=true→_);first|refine gU ?_|refine gV ?_|refine gZ ?_ ?_<;>(intro _h;try contradiction))|(intro _h;try contradiction)|(show _∧_;refine gA ?_)|fail);all_goals conv=>whnf))
    rw [Int.toNat_natCast, getD_map byt xss k [] default (by omega), ← hb]
    ((conv=>whnf);repeat'((first|(show(_=true→_)∧(_=false→_);first|refine gT ?_|refine gF ?_|refine gS ?_ ?_<;>(intro _h;try contradiction))|(show(_=false→_)∧(_=true→_);first|refine gU ?_|refine gV ?_|refine gZ ?_ ?_<;>(intro _h;try contradiction))|(intro _h;try contradiction)|(show _∧_;refine gA ?_)|fail);all_goals conv=>whnf))
    refine acall [0, 1] (s_write hG (stS t) (reS t) b t.length (stS_len t) (reS_wfd htw) hbw (by omega)) rfl ⟨⟨by decide, rfl⟩, ⟨by decide, rfl⟩, trivial⟩ rfl (fun h => Bool.noConfusion h) ?_
    rintro st nx r ⟨rfl, rfl, rfl⟩
    ((conv=>whnf);repeat'((first|(show(_=true→_)∧(_=false→_);first|refine gT ?_|refine gF ?_|refine gS ?_ ?_<;>(intro _h;try contradiction))|(show(_=false→_)∧(_=true→_);first|refine gU ?_|refine gV ?_|refine gZ ?_ ?_<;>(intro _h;try contradiction))|(intro _h;try contradiction)|(show _∧_;refine gA ?_)|fail);all_goals conv=>whnf))
    refine ⟨k + 1, [0, 2], by omega, by omega, rfl, ?_⟩
    (refine ⟨rfl, rfl, ?_, ?_⟩ <;> repeat' (first | exact True.intro | rfl | decide | (refine And.intro ?_ ?_)))
    · exact di (by rw [wrap_i64 (by omega) (by omega)]; rfl)
    · rw [hfk, hap.1, ew]; rfl
    · rw [hfk, hap.2]; rfl
  · have hk' : k = xss.length := by omega
    subst hk'
    rw [List.take_length] at ht
    ((conv=>whnf);repeat'((first|(show(_=true→_)∧(_=false→_);first|refine gT ?_|refine gF ?_|refine gS ?_ ?_<;>(intro _h;try contradiction))|(show(_=false→_)∧(_=true→_);first|refine gU ?_|refine gV ?_|refine gZ ?_ ?_<;>(intro _h;try contradiction))|(intro _h;try contradiction)|(show _∧_;refine gA ?_)|fail);all_goals conv=>whnf))
    refine acall [0, 1] (s_sum hG (stS t) (reS t) t.length (stS_len t) (reS_wfd htw) (by omega) (by omega)) rfl ⟨⟨by decide, rfl⟩, ⟨by decide, rfl⟩, trivial⟩ rfl (fun h => Bool.noConfusion h) ?_
    rintro st nx r ⟨rfl, rfl, rfl⟩
    ((conv=>whnf);repeat'((first|(show(_=true→_)∧(_=false→_);first|refine gT ?_|refine gF ?_|refine gS ?_ ?_<;>(intro _h;try contradiction))|(show(_=false→_)∧(_=true→_);first|refine gU ?_|refine gV ?_|refine gZ ?_ ?_<;>(intro _h;try contradiction))|(intro _h;try contradiction)|(show _∧_;refine gA ?_)|fail);all_goals conv=>whnf))
    refine Ends.imm rfl ?_
    rw [← ht, ← sum_end t]

end Go.Proofs.YtniaeiikdgbnfaaDoor.R.L
namespace Go.Proofs.YtniaeiikdgbnfaaDoor.R
open Go Go.RowKit Go.Proofs Go.Proofs.YtniaeiikdgbnfaaDoor.AW
set_option linter.unusedSectionVars false
variable [Globs]
set_option maxRecDepth 100000
set_option linter.unusedSimpArgs false
set_option linter.unusedVariables false
set_option maxHeartbeats 4000000

def sizeS (alg : Int) : Nat := if alg = 1 then 32 else if alg = 2 then 64 else 0
def headS (alg : Int) : List Int := if alg = 2 then [48, 81, 48, 13, 6, 9, 96, 134, 72, 1, 101, 3, 4, 2, 3, 5, 0, 4, 64] else [48, 49, 48, 13, 6, 9, 96, 134, 72, 1, 101, 3, 4, 2, 1, 5, 0, 4, 32]
def digS (alg : Int) (b : List Int) : List Int := if alg = 2 then L.sumS b else sumS b
def blockB (alg : Int) (d : List Int) (size : Nat) : List Int := [0, 1] ++ List.replicate (size - 22 - d.length) 255 ++ ([0] ++ headS alg ++ d)

theorem headS_len (alg : Int) : (headS alg).length = 19 := by unfold headS; split <;> rfl
theorem headS_wfd (alg : Int) : wfd (headS alg) := by
  unfold headS
  split <;> (intro x hx; simp only [List.mem_cons, List.not_mem_nil, or_false] at hx; omega)
theorem digS_wfd (alg : Int) (b : List Int) : wfd (digS alg b) := by
  unfold digS
  split
  · exact L.sumS_wfd b
  · exact sumS_wfd b
theorem digS_len (alg : Int) (b : List Int) (h : alg = 1 ∨ alg = 2) : (digS alg b).length = sizeS alg := by
  unfold digS sizeS
  rcases h with rfl | rfl
  · exact sumS_len b
  · exact L.sumS_len b
theorem sizeS_pos {alg : Int} : sizeS alg ≠ 0 ↔ alg = 1 ∨ alg = 2 := by
  unfold sizeS
  repeat' split
  · simp [*]
  · simp [*]
  · rename_i h1 h2; simp [h1, h2]
theorem blockB_len {alg : Int} {d : List Int} {size : Nat} (h : 30 + d.length ≤ size) : (blockB alg d size).length = size := by
  unfold blockB
  simp [headS_len]
  omega
theorem blockB_wfd {alg : Int} {d : List Int} {size : Nat} (h : wfd d) : wfd (blockB alg d size) := by
  unfold blockB
  refine ((show wfd [0, 1] from fun x hx => ?_).append fun x hx => ?_).append (((show wfd [0] from fun x hx => ?_).append (headS_wfd alg)).append h)
  · simp only [List.mem_cons, List.not_mem_nil, or_false] at hx; omega
  · rw [List.eq_of_mem_replicate hx]; omega
  · simp only [List.mem_cons, List.not_mem_nil, or_false] at hx; omega
theorem blockB_inj {alg : Int} {d e : List Int} {size : Nat} (hl : d.length = e.length) (h : blockB alg d size = blockB alg e size) : d = e := by
  unfold blockB at h
  rw [hl] at h
  exact List.append_cancel_left (List.append_cancel_left h |> fun h => by rwa [List.append_assoc, List.append_assoc] at h |> fun h => List.append_cancel_left h)

/-- What a block comes to. -/
def blockV (alg : Int) (d : List Int) (size : Int) : AVal :=
  if sizeS alg = 0 then .tup [.nls (byt []), i64 20]
  else if d.length ≠ sizeS alg then .tup [.nls (byt []), i64 12]
  else if 512 < size ∨ size < 30 + (d.length : Int) then .tup [.nls (byt []), i64 21]
  else .tup [.d (byt (blockB alg d size.toNat)), i64 0]
/-- What a signature opens to. -/
def openB (m sig : List Int) : Option (List Int) := if sig.length = m.length ∧ bn sig < bn m then some (be m.length (bn sig ^ 65537 % bn m).toNat) else none
/-- What a look at a signature comes to. -/
def verV (m : List Int) (alg : Int) (text sig : List Int) : Int :=
  if sizeS alg = 0 then 20
  else if 512 < (m.length : Int) ∨ (m.length : Int) < 30 + (sizeS alg : Int) then 21
  else if openB m sig = some (blockB alg (digS alg text) m.length) then 0
  else 23

theorem and_lo (n : Nat) (h : n < 4294967296) : bitsK .and .u64 (n : Int) 4294967295 = n := by
  unfold bitsK
  dsimp only
  have e : (BitVec.ofInt (IntKind.bits .u64) (n : Int) &&& BitVec.ofInt (IntKind.bits .u64) 4294967295).toNat = n := by
    have e1 : (BitVec.ofInt 64 (n : Int)).toNat = n := by simp [BitVec.toNat_ofInt]; omega
    have e2 : (BitVec.ofInt 64 4294967295).toNat = 2 ^ 32 - 1 := by decide
    show (BitVec.ofInt 64 (n : Int) &&& BitVec.ofInt 64 4294967295).toNat = n
    rw [BitVec.toNat_and, e1, e2, Nat.and_two_pow_sub_one_eq_mod]
    exact Nat.mod_eq_of_lt (by omega)
  rw [e]
  exact wrap_u64 (by omega) (by omega)

theorem s_mul64 (n : Nat) (h : n ≤ 100000) : Imm Tryd.prog 125 [.d (.int .u64 1), .d (.int .u64 n)] (fun r => r = .tup [.d (.int .u64 0), .d (.int .u64 n)]) := by
  have e1 : bitsK .and .u64 1 4294967295 = 1 := and_lo 1 (by omega)
  have e2 := and_lo n (by omega)
  have e3 : (n : Int) / 2 ^ 32 = 0 := by omega
  have e4 : (1 : Int) / 2 ^ 32 = 0 := by decide
  have e5 : IntKind.u64.wrap (n : Int) = n := wrap_u64 (by omega) (by omega)
  have e6 : bitsK .and .u64 0 4294967295 = 0 := and_lo 0 (by omega)
  have e7 : IntKind.u64.wrap 0 = 0 := wrap_u64 (by omega) (by omega)
  (refine Imm.of_awp told0 [] Tryd.func125 rfl (by decide) (Nat.le_of_ble_eq_true rfl) ?_; intro _w0 _S0 _E0 _B0; ((conv=>whnf);repeat'((first|(show(_=true→_)∧(_=false→_);first|refine gT ?_|refine gF ?_|refine gS ?_ ?_<;>(intro _h;try contradiction))|(show(_=false→_)∧(_=true→_);first|refine gU ?_|refine gV ?_|refine gZ ?_ ?_<;>(intro _h;try contradiction))|(intro _h;try contradiction)|(show _∧_;refine gA ?_)|fail);all_goals conv=>whnf)))
  refine Ends.imm rfl ?_
  have em : min (Int.toNat 32) (IntKind.bits .u64) = 32 := by decide
  rw [em, e1, e2, e3, e4]
  simp only [Int.one_mul, Int.zero_mul, e5, e7, e3, Int.add_zero, e6]
  rfl

theorem s_mul (n : Nat) (h : n ≤ 100000) : Imm Tryd.prog 108 [.d (.int .u64 1), .d (.int .u64 n)] (fun r => r = .tup [.d (.int .u64 0), .d (.int .u64 n)]) := by
  (refine Imm.of_awp told0 [] Tryd.func108 rfl (by decide) (Nat.le_of_ble_eq_true rfl) ?_; intro _w0 _S0 _E0 _B0; ((conv=>whnf);repeat'((first|(show(_=true→_)∧(_=false→_);first|refine gT ?_|refine gF ?_|refine gS ?_ ?_<;>(intro _h;try contradiction))|(show(_=false→_)∧(_=true→_);first|refine gU ?_|refine gV ?_|refine gZ ?_ ?_<;>(intro _h;try contradiction))|(intro _h;try contradiction)|(show _∧_;refine gA ?_)|fail);all_goals conv=>whnf)))
  refine acallI (s_mul64 n h) rfl fun r hr => ?_
  subst hr
  ((conv=>whnf);repeat'((first|(show(_=true→_)∧(_=false→_);first|refine gT ?_|refine gF ?_|refine gS ?_ ?_<;>(intro _h;try contradiction))|(show(_=false→_)∧(_=true→_);first|refine gU ?_|refine gV ?_|refine gZ ?_ ?_<;>(intro _h;try contradiction))|(intro _h;try contradiction)|(show _∧_;refine gA ?_)|fail);all_goals conv=>whnf))
  exact Ends.imm rfl rfl

theorem s_mul' (n : Nat) (m : Int) (hm : m = n) (h : n ≤ 100000) : Imm Tryd.prog 108 [.d (.int .u64 1), .d (.int .u64 m)] (fun r => r = .tup [.d (.int .u64 0), .d (.int .u64 n)]) := by
  subst hm
  exact s_mul n h

def toldRep : AW.Told := ⟨fun f => f == 1016001 || f == 1016004, fun r i => if r == 21 && i == 0 then [9] else [], fun r => if r == 20 then .take 0 (.take 1 (.take 2 (.take 3 (.take 4 (.take 5 (.take 6 (.one 7 (.take 8 (.take 9 .done))))))))) else .done⟩

theorem s_repeat (c : Int) (hc : 0 ≤ c ∧ c < 256) (n : Nat) (h : 1 ≤ n ∧ n ≤ 8192) : Imm Tryd.prog 76 [.d (byt [c]), i64 n] (fun r => r = .d (byt (List.replicate n c))) := by
  have ew : IntKind.u64.wrap (n : Int) = n := wrap_u64 (by omega) (by omega)
  have ew2 : IntKind.i64.wrap (n : Int) = n := wrap_i64 (by omega) (by omega)
  (refine Imm.of_awp toldRep [] Tryd.func76 rfl (by decide) (Nat.le_of_ble_eq_true rfl) ?_; intro _w0 _S0 _E0 _B0; ((conv=>whnf);repeat'((first|(show(_=true→_)∧(_=false→_);first|refine gT ?_|refine gF ?_|refine gS ?_ ?_<;>(intro _h;try contradiction))|(show(_=false→_)∧(_=true→_);first|refine gU ?_|refine gV ?_|refine gZ ?_ ?_<;>(intro _h;try contradiction))|(intro _h;try contradiction)|(show _∧_;refine gA ?_)|fail);all_goals conv=>whnf)))
  refine acallI (s_mul' n _ ew (by omega)) rfl fun r hr => ?_
  subst hr
  ((conv=>whnf);repeat'((first|(show(_=true→_)∧(_=false→_);first|refine gT ?_|refine gF ?_|refine gS ?_ ?_<;>(intro _h;try contradiction))|(show(_=false→_)∧(_=true→_);first|refine gU ?_|refine gV ?_|refine gZ ?_ ?_<;>(intro _h;try contradiction))|(intro _h;try contradiction)|(show _∧_;refine gA ?_)|fail);all_goals conv=>whnf))
  refine ao_mnz (n := n) (f := 109) (fn := Tryd.f109) (ps := #[3]) (t := 22) (e := 5) rfl rfl (di ew2) Tryd.func109 (by kernel_rfl) (by kernel_rfl) (by kernel_rfl) (by kernel_rfl) rfl (by omega) (by omega) fun zs hzs => ?_
  ((conv=>whnf);repeat'((first|(show(_=true→_)∧(_=false→_);first|refine gT ?_|refine gF ?_|refine gS ?_ ?_<;>(intro _h;try contradiction))|(show(_=false→_)∧(_=true→_);first|refine gU ?_|refine gV ?_|refine gZ ?_ ?_<;>(intro _h;try contradiction))|(intro _h;try contradiction)|(show _∧_;refine gA ?_)|fail);all_goals conv=>whnf))
  refine ao_slice3 (n := n) (m := n) rfl rfl rfl rfl rfl rfl rfl (di ew2) (di ew2) rfl (Nat.le_refl _) (by omega) (by omega) ?_
  ((conv=>whnf);repeat'((first|(show(_=true→_)∧(_=false→_);first|refine gT ?_|refine gF ?_|refine gS ?_ ?_<;>(intro _h;try contradiction))|(show(_=false→_)∧(_=true→_);first|refine gU ?_|refine gV ?_|refine gZ ?_ ?_<;>(intro _h;try contradiction))|(intro _h;try contradiction)|(show _∧_;refine gA ?_)|fail);all_goals conv=>whnf))
  refine aloop (T := toldRep) (ι := List Int × Nat) (fun i => [(7, i64 n), (8, i64 n), (9, .view 0 0 n), (10, i64 i.2)]) (fun i => [(0, .row .u8 5 i.1)]) 77 1
    (fun i => n - i.2) (fun i => i.1.length = n ∧ 1 ≤ i.2 ∧ i.2 ≤ n ∧ i.1.take i.2 = List.replicate i.2 c)
    ⟨(c :: zs.drop 1, 1), [0], rfl, ⟨by simp; omega, by omega, by omega, by simp⟩, ?_⟩ ?_
  · (refine ⟨rfl, rfl, ?_, ?_⟩ <;> repeat' (first | exact True.intro | rfl | decide | (refine And.intro ?_ ?_)))
    · exact di ew2
    · exact di ew2
    · exact di (by show ((min 1 n : Nat) : Int) = ((1 : Nat) : Int); omega)
    · show some (Ob.row .u8 _ _) = some (Ob.row .u8 _ _)
      have e1 : min [c].length n = 1 := by simp; omega
      have e2 : [c].take n = [c] := List.take_of_length_le (by simp; omega)
      rw [e1, e2]
      rfl
  rintro ⟨xs, bp⟩ ⟨hxl, h1, h2, hall⟩
  simp only at hxl h1 h2 hall
  rcases Nat.lt_or_ge bp n with hlt | hge
  · ((conv=>whnf);repeat'((first|(show(_=true→_)∧(_=false→_);first|refine gT ?_|refine gF ?_|refine gS ?_ ?_<;>(intro _h;try contradiction))|(show(_=false→_)∧(_=true→_);first|refine gU ?_|refine gV ?_|refine gZ ?_ ?_<;>(intro _h;try contradiction))|(intro _h;try contradiction)|(show _∧_;refine gA ?_)|fail);all_goals conv=>whnf))
    refine ⟨(xs.take bp ++ (xs.take bp).take (n - bp) ++ xs.drop (bp + min bp (n - bp)), bp + min bp (n - bp)), [0], ?_, ⟨?_, ?_, ?_, ?_⟩, rfl, ?_⟩
    · show n - (bp + min bp (n - bp)) < n - bp
      omega
    · simp [hxl]
      omega
    · show 1 ≤ bp + min bp (n - bp)
      omega
    · show bp + min bp (n - bp) ≤ n
      omega
    · have e : (List.replicate bp c ++ List.replicate (min (n - bp) bp) c).length = bp + min bp (n - bp) := by simp; omega
      show (xs.take bp ++ (xs.take bp).take (n - bp) ++ xs.drop (bp + min bp (n - bp))).take (bp + min bp (n - bp)) = List.replicate (bp + min bp (n - bp)) c
      rw [hall, List.take_replicate]
      conv => lhs; lhs; rw [← e]
      rw [List.take_left, List.replicate_append_replicate, Nat.min_comm]
    · (refine ⟨rfl, rfl, ?_, ?_⟩ <;> repeat' (first | exact True.intro | rfl | decide | (refine And.intro ?_ ?_)))
      · refine di ?_
        show IntKind.i64.wrap ((bp : Int) + ((min ((xs.drop (0 + 0)).take ((min (bp : Int) n).toNat - 0)).length (n - (bp : Int).toNat) : Nat) : Int)) = ((bp + min bp (n - bp) : Nat) : Int)
        rw [wrap_i64 (by omega) (by omega)]
        simp [hxl]
        omega
      · show some (Ob.row .u8 _ _) = some (Ob.row .u8 _ _)
        have e1 : (min (bp : Int) (n : Int)).toNat = bp := by omega
        have e2 : min bp xs.length = bp := by omega
        show some (Ob.row .u8 _ (xs.take (0 + (bp : Int).toNat) ++ ((xs.drop (0 + Int.toNat 0)).take ((min (bp : Int) (n : Int)).toNat - Int.toNat 0)).take ((n : Int).toNat - (bp : Int).toNat) ++
          xs.drop (0 + (bp : Int).toNat + min ((xs.drop (0 + Int.toNat 0)).take ((min (bp : Int) (n : Int)).toNat - Int.toNat 0)).length ((n : Int).toNat - (bp : Int).toNat)))) = some (Ob.row .u8 _ (xs.take bp ++ (xs.take bp).take (n - bp) ++ xs.drop (bp + min bp (n - bp))))
        rw [e1]
        simp only [Int.toNat_natCast, Int.toNat_zero, Nat.zero_add, Nat.sub_zero, List.drop_zero, List.length_take, e2]
  · have hbn : bp = n := by omega
    ((conv=>whnf);repeat'((first|(show(_=true→_)∧(_=false→_);first|refine gT ?_|refine gF ?_|refine gS ?_ ?_<;>(intro _h;try contradiction))|(show(_=false→_)∧(_=true→_);first|refine gU ?_|refine gV ?_|refine gZ ?_ ?_<;>(intro _h;try contradiction))|(intro _h;try contradiction)|(show _∧_;refine gA ?_)|fail);all_goals conv=>whnf))
    have hX : AW.frzV 0 (.ints .u8 xs) (.view 0 0 n) = .d (byt (List.replicate n c)) := by
      rw [hbn] at hall
      simp [AW.frzV, hxl, hall]
    change AW.forceV (AW.frzV 0 (.ints .u8 xs) (.view 0 0 n)) _
    rw [hX]
    ((conv=>whnf);repeat'((first|(show(_=true→_)∧(_=false→_);first|refine gT ?_|refine gF ?_|refine gS ?_ ?_<;>(intro _h;try contradiction))|(show(_=false→_)∧(_=true→_);first|refine gU ?_|refine gV ?_|refine gZ ?_ ?_<;>(intro _h;try contradiction))|(intro _h;try contradiction)|(show _∧_;refine gA ?_)|fail);all_goals conv=>whnf))
    exact Ends.imm rfl rfl

theorem b_size (alg : Int) : Imm Tryd.prog 39 [i64 alg] (fun r => r = i64 (sizeS alg)) := by
  (refine Imm.of_awp told0 [] Tryd.func39 rfl (by decide) (Nat.le_of_ble_eq_true rfl) ?_; intro _w0 _S0 _E0 _B0; ((conv=>whnf);repeat'((first|(show(_=true→_)∧(_=false→_);first|refine nTt ?_|refine nFf ?_|refine gS ?_ ?_<;>(intro _h;try contradiction))|(show(_=false→_)∧(_=true→_);first|refine nU ?_|refine nV ?_|refine gZ ?_ ?_<;>(intro _h;try contradiction))|(intro _h;try contradiction)|(show _∧_;refine gA ?_)|fail);all_goals conv=>whnf)))
  all_goals (refine Ends.imm rfl ?_; unfold sizeS; simp [*])

theorem b_refSize (alg : Int) : Imm Tryd.prog 40 [i64 alg] (fun r => r = i64 (sizeS alg)) := by
  (refine Imm.of_awp told0 [] Tryd.func40 rfl (by decide) (Nat.le_of_ble_eq_true rfl) ?_; intro _w0 _S0 _E0 _B0; ((conv=>whnf);repeat'((first|(show(_=true→_)∧(_=false→_);first|refine nTt ?_|refine nFf ?_|refine gS ?_ ?_<;>(intro _h;try contradiction))|(show(_=false→_)∧(_=true→_);first|refine nU ?_|refine nV ?_|refine gZ ?_ ?_<;>(intro _h;try contradiction))|(intro _h;try contradiction)|(show _∧_;refine gA ?_)|fail);all_goals conv=>whnf)))
  all_goals (refine Ends.imm rfl ?_; unfold sizeS; simp [*])

theorem b_head (alg : Int) : Imm Tryd.prog 75 [i64 alg] (fun r => r = .d (byt (headS alg))) := by
  (refine Imm.of_awp (⟨fun _ => false, fun r i => if r == 4 && i == 0 then [3] else [], fun _ => .done⟩ : AW.Told) [] Tryd.func75 rfl (by decide) (Nat.le_of_ble_eq_true rfl) ?_; intro _w0 _S0 _E0 _B0; ((conv=>whnf);repeat'((first|(show(_=true→_)∧(_=false→_);first|refine nTt ?_|refine nFf ?_|refine gS ?_ ?_<;>(intro _h;try contradiction))|(show(_=false→_)∧(_=true→_);first|refine nU ?_|refine nV ?_|refine gZ ?_ ?_<;>(intro _h;try contradiction))|(intro _h;try contradiction)|(show _∧_;refine gA ?_)|fail);all_goals conv=>whnf)))
  all_goals (refine Ends.imm rfl ?_; unfold headS; simp [*])

theorem b_refHead (alg : Int) (h : alg = 1 ∨ alg = 2) : Imm Tryd.prog 77 [i64 alg] (fun r => r = .d (.str (headS alg))) := by
  rcases h with rfl | rfl
  · (refine Imm.of_awp told0 [] Tryd.func77 rfl (by decide) (Nat.le_of_ble_eq_true rfl) ?_; intro _w0 _S0 _E0 _B0; ((conv=>whnf);repeat'((first|(show(_=true→_)∧(_=false→_);first|refine nTt ?_|refine nFf ?_|refine gS ?_ ?_<;>(intro _h;try contradiction))|(show(_=false→_)∧(_=true→_);first|refine nU ?_|refine nV ?_|refine gZ ?_ ?_<;>(intro _h;try contradiction))|(intro _h;try contradiction)|(show _∧_;refine gA ?_)|fail);all_goals conv=>whnf)))
    refine Ends.imm rfl ?_
    exact congrArg (fun l => AVal.d (.str l)) (by unfold headS; decide +kernel)
  · (refine Imm.of_awp told0 [] Tryd.func77 rfl (by decide) (Nat.le_of_ble_eq_true rfl) ?_; intro _w0 _S0 _E0 _B0; ((conv=>whnf);repeat'((first|(show(_=true→_)∧(_=false→_);first|refine nTt ?_|refine nFf ?_|refine gS ?_ ?_<;>(intro _h;try contradiction))|(show(_=false→_)∧(_=true→_);first|refine nU ?_|refine nV ?_|refine gZ ?_ ?_<;>(intro _h;try contradiction))|(intro _h;try contradiction)|(show _∧_;refine gA ?_)|fail);all_goals conv=>whnf)))
    refine Ends.imm rfl ?_
    exact congrArg (fun l => AVal.d (.str l)) (by unfold headS; decide +kernel)
def toldBl : AW.Told := ⟨fun _ => false, fun r i => if r == 5 && i == 4 then [20] else if r == 5 && i == 5 then [24] else if r == 8 && i == 6 then [36] else if r == 9 && i == 3 then [43] else if r == 9 && i == 4 then [46] else [], fun _ => .done⟩

theorem b_block (alg : Int) (d : List Int) (size : Int) (hd : wfd d) (hl : d.length ≤ LIM) : Imm Tryd.prog 42 [i64 alg, .d (byt d), i64 size] (fun r => r = blockV alg d size) := by
  have hs0 : ((sizeS alg : Nat) : Int) = 0 ↔ sizeS alg = 0 := by omega
  have hsz : sizeS alg ≤ 64 := by unfold sizeS; (repeat' split) <;> omega
  (refine Imm.of_awp toldBl [] Tryd.func42 rfl (by decide) (Nat.le_of_ble_eq_true rfl) ?_; intro _w0 _S0 _E0 _B0; ((conv=>whnf);repeat'((first|(show(_=true→_)∧(_=false→_);first|refine nTt ?_|refine nFf ?_|refine gS ?_ ?_<;>(intro _h;try contradiction))|(show(_=false→_)∧(_=true→_);first|refine nU ?_|refine nV ?_|refine gZ ?_ ?_<;>(intro _h;try contradiction))|(intro _h;try contradiction)|(show _∧_;refine gA ?_)|fail);all_goals conv=>whnf)))
  refine acallI (b_size alg) rfl fun r hr => ?_
  subst hr
  by_cases h0 : sizeS alg = 0
  · have h0' : ((sizeS alg : Nat) : Int) = 0 := by omega
    ((conv=>whnf);repeat'((first|(show(_=true→_)∧(_=false→_);first|refine gT ?_|refine gF ?_|refine gS ?_ ?_<;>(intro _h;try contradiction))|(show(_=false→_)∧(_=true→_);first|refine gU ?_|refine gV ?_|refine gZ ?_ ?_<;>(intro _h;try contradiction))|(intro _h;try contradiction)|(show _∧_;refine gA ?_)|fail);all_goals conv=>whnf))
    refine Ends.imm rfl ?_
    unfold blockV
    rw [if_pos h0]
  have h0' : ¬ ((sizeS alg : Nat) : Int) = 0 := by omega
  ((conv=>whnf);repeat'((first|(show(_=true→_)∧(_=false→_);first|refine gT ?_|refine gF ?_|refine gS ?_ ?_<;>(intro _h;try contradiction))|(show(_=false→_)∧(_=true→_);first|refine gU ?_|refine gV ?_|refine gZ ?_ ?_<;>(intro _h;try contradiction))|(intro _h;try contradiction)|(show _∧_;refine gA ?_)|fail);all_goals conv=>whnf))
  refine acallI (b_size alg) rfl fun r hr => ?_
  subst hr
  by_cases h1 : d.length = sizeS alg
  · have h1' : (d.length : Int) = ((sizeS alg : Nat) : Int) := by omega
    ((conv=>whnf);repeat'((first|(show(_=true→_)∧(_=false→_);first|refine gT ?_|refine gF ?_|refine gS ?_ ?_<;>(intro _h;try contradiction))|(show(_=false→_)∧(_=true→_);first|refine gU ?_|refine gV ?_|refine gZ ?_ ?_<;>(intro _h;try contradiction))|(intro _h;try contradiction)|(show _∧_;refine gA ?_)|fail);all_goals conv=>whnf))
    refine acallI (b_head alg) rfl fun r hr => ?_
    subst hr
    ((conv=>whnf);repeat'((first|(show(_=true→_)∧(_=false→_);first|refine gT ?_|refine gF ?_|refine gS ?_ ?_<;>(intro _h;try contradiction))|(show(_=false→_)∧(_=true→_);first|refine gU ?_|refine gV ?_|refine gZ ?_ ?_<;>(intro _h;try contradiction))|(intro _h;try contradiction)|(show _∧_;refine gA ?_)|fail);all_goals conv=>whnf))
    have hfl : [[0], headS alg, d].flatten.length = 20 + d.length := by simp [headS_len]; omega
    refine acallI (k_concat [[0], headS alg, d] (by omega) (by omega) (by simp)) rfl fun r hr => ?_
    subst hr
    obtain ⟨tl, htl⟩ : ∃ tl, tl = [[0], headS alg, d].flatten := ⟨_, rfl⟩
    rw [← htl] at hfl ⊢
    have e1 : IntKind.i64.wrap (IntKind.i64.wrap ((tl.length : Int) + 8) + 2) = 30 + d.length := by
      rw [wrap_i64 (n := (tl.length : Int) + 8) (by omega) (by omega), wrap_i64 (by omega) (by omega)]; omega
    ((conv=>whnf);repeat'((first|(show(_=true→_)∧(_=false→_);first|refine gT ?_|refine gF ?_|refine gS ?_ ?_<;>(intro _h;try contradiction))|(show(_=false→_)∧(_=true→_);first|refine gU ?_|refine gV ?_|refine gZ ?_ ?_<;>(intro _h;try contradiction))|(intro _h;try contradiction)|(show _∧_;refine gA ?_)|fail);all_goals conv=>whnf))
    · refine Ends.imm rfl ?_
      unfold blockV
      rw [if_neg h0, if_neg (by omega), if_pos (.inr (by omega))]
    · have e2 : IntKind.i64.wrap (IntKind.i64.wrap (size - 2) - (tl.length : Int)) = ((size.toNat - 22 - d.length : Nat) : Int) := by
        rw [wrap_i64 (n := size - 2) (by omega) (by omega), wrap_i64 (by omega) (by omega)]; omega
      refine acallI (s_repeat 255 (by omega) (size.toNat - 22 - d.length) (by omega)) (by rw [← e2]; rfl) fun r hr => ?_
      subst hr
      ((conv=>whnf);repeat'((first|(show(_=true→_)∧(_=false→_);first|refine gT ?_|refine gF ?_|refine gS ?_ ?_<;>(intro _h;try contradiction))|(show(_=false→_)∧(_=true→_);first|refine gU ?_|refine gV ?_|refine gZ ?_ ?_<;>(intro _h;try contradiction))|(intro _h;try contradiction)|(show _∧_;refine gA ?_)|fail);all_goals conv=>whnf))
      have hfl2 : [[0, 1], List.replicate (size.toNat - 22 - d.length) 255, tl].flatten.length = 2 + (size.toNat - 22 - d.length) + tl.length := by simp; omega
      refine acallI (k_concat [[0, 1], List.replicate (size.toNat - 22 - d.length) 255, tl] (by omega) (by omega) (by simp)) rfl fun r hr => ?_
      subst hr
      ((conv=>whnf);repeat'((first|(show(_=true→_)∧(_=false→_);first|refine gT ?_|refine gF ?_|refine gS ?_ ?_<;>(intro _h;try contradiction))|(show(_=false→_)∧(_=true→_);first|refine gU ?_|refine gV ?_|refine gZ ?_ ?_<;>(intro _h;try contradiction))|(intro _h;try contradiction)|(show _∧_;refine gA ?_)|fail);all_goals conv=>whnf))
      refine Ends.imm rfl ?_
      unfold blockV
      rw [if_neg h0, if_neg (by omega), if_neg (by omega), htl]
      unfold blockB
      simp
    · refine Ends.imm rfl ?_
      unfold blockV
      rw [if_neg h0, if_neg (by omega), if_pos (.inl (by omega))]
  · have h1' : ¬ (d.length : Int) = ((sizeS alg : Nat) : Int) := by omega
    ((conv=>whnf);repeat'((first|(show(_=true→_)∧(_=false→_);first|refine gT ?_|refine gF ?_|refine gS ?_ ?_<;>(intro _h;try contradiction))|(show(_=false→_)∧(_=true→_);first|refine gU ?_|refine gV ?_|refine gZ ?_ ?_<;>(intro _h;try contradiction))|(intro _h;try contradiction)|(show _∧_;refine gA ?_)|fail);all_goals conv=>whnf))
    refine Ends.imm rfl ?_
    unfold blockV
    rw [if_neg h0, if_pos h1]

/-- The four tables of numbers. -/
structure Tabs4 : Prop where
  rs : Globs.gl 4 = some ROUNDS
  fs : Globs.gl 1 = some FIRST
  rl : Globs.gl 5 = some L.ROUNDS
  fl : Globs.gl 2 = some L.FIRST

/-- What a digest comes to. -/
def digV (alg : Int) (salt all : List Int) : AVal :=
  if sizeS alg = 0 then .tup [.nls (byt []), i64 20] else if 64 < salt.length then .tup [.nls (byt []), i64 11] else .tup [.d (byt (digS alg (salt ++ all))), i64 0]

def toldDi : AW.Told := ⟨fun _ => false, fun r i => if r == 7 && i == 1 then [23] else if r == 8 && i == 1 then [25] else [], fun _ => .done⟩

theorem b_digest (hT : Tabs4) (alg : Int) (salt : List Int) (xss : List (List Int)) (hs : wfd salt) (hsl : salt.length ≤ LIM) (hw : ∀ x ∈ xss, wfd x) (hl : xss.flatten.length ≤ 1000000) (hx : xss.length ≤ 1000) :
    Imm Tryd.prog 38 [i64 alg, .d (byt salt), .d (.sl 1 (xss.map byt))] (fun r => r = digV alg salt xss.flatten) := by
  have hfc : (salt :: xss).flatten = salt ++ xss.flatten := by simp
  have hfl : (salt :: xss).flatten.length = salt.length + xss.flatten.length := by simp
  have hw' : ∀ x ∈ salt :: xss, wfd x := fun x hx => by
    rcases List.mem_cons.1 hx with rfl | h
    · exact hs
    · exact hw x h
  (refine Imm.of_awp toldDi [] Tryd.func38 rfl (by decide) (Nat.le_of_ble_eq_true rfl) ?_; intro _w0 _S0 _E0 _B0; ((conv=>whnf);repeat'((first|(show(_=true→_)∧(_=false→_);first|refine nTt ?_|refine nFf ?_|refine gS ?_ ?_<;>(intro _h;try contradiction))|(show(_=false→_)∧(_=true→_);first|refine nU ?_|refine nV ?_|refine gZ ?_ ?_<;>(intro _h;try contradiction))|(intro _h;try contradiction)|(show _∧_;refine gA ?_)|fail);all_goals conv=>whnf)))
  refine acallI (b_size alg) rfl fun r hr => ?_
  subst hr
  by_cases h0 : sizeS alg = 0
  · have h0' : ((sizeS alg : Nat) : Int) = 0 := by omega
    ((conv=>whnf);repeat'((first|(show(_=true→_)∧(_=false→_);first|refine gT ?_|refine gF ?_|refine gS ?_ ?_<;>(intro _h;try contradiction))|(show(_=false→_)∧(_=true→_);first|refine gU ?_|refine gV ?_|refine gZ ?_ ?_<;>(intro _h;try contradiction))|(intro _h;try contradiction)|(show _∧_;refine gA ?_)|fail);all_goals conv=>whnf))
    refine Ends.imm rfl ?_
    unfold digV
    rw [if_pos h0]
  have h0' : ¬ ((sizeS alg : Nat) : Int) = 0 := by omega
  have ha := sizeS_pos.1 h0
  by_cases h1 : 64 < salt.length
  · have h1' : 64 < (salt.length : Int) := by omega
    ((conv=>whnf);repeat'((first|(show(_=true→_)∧(_=false→_);first|refine gT ?_|refine gF ?_|refine gS ?_ ?_<;>(intro _h;try contradiction))|(show(_=false→_)∧(_=true→_);first|refine gU ?_|refine gV ?_|refine gZ ?_ ?_<;>(intro _h;try contradiction))|(intro _h;try contradiction)|(show _∧_;refine gA ?_)|fail);all_goals conv=>whnf))
    refine Ends.imm rfl ?_
    unfold digV
    rw [if_neg h0, if_pos h1]
  have h1' : ¬ 64 < (salt.length : Int) := by omega
  ((conv=>whnf);repeat'((first|(show(_=true→_)∧(_=false→_);first|refine gT ?_|refine gF ?_|refine gS ?_ ?_<;>(intro _h;try contradiction))|(show(_=false→_)∧(_=true→_);first|refine gU ?_|refine gV ?_|refine gZ ?_ ?_<;>(intro _h;try contradiction))|(intro _h;try contradiction)|(show _∧_;refine gA ?_)|fail);all_goals conv=>whnf))
  refine ⟨by simp [D.size], ?_⟩
  ((conv=>whnf);repeat'((first|(show(_=true→_)∧(_=false→_);first|refine gT ?_|refine gF ?_|refine gS ?_ ?_<;>(intro _h;try contradiction))|(show(_=false→_)∧(_=true→_);first|refine gU ?_|refine gV ?_|refine gZ ?_ ?_<;>(intro _h;try contradiction))|(intro _h;try contradiction)|(show _∧_;refine gA ?_)|fail);all_goals conv=>whnf))
  refine ⟨by show (1 + (xss.map byt).length) * 24 ≤ 140737488355328; rw [List.length_map]; omega, ?_⟩
  have hm : [D.ints .u8 salt] ++ xss.map byt = (salt :: xss).map byt := rfl
  rw [hm]
  ((conv=>whnf);repeat'((first|(show(_=true→_)∧(_=false→_);first|refine gT ?_|refine gF ?_|refine gS ?_ ?_<;>(intro _h;try contradiction))|(show(_=false→_)∧(_=true→_);first|refine gU ?_|refine gV ?_|refine gZ ?_ ?_<;>(intro _h;try contradiction))|(intro _h;try contradiction)|(show _∧_;refine gA ?_)|fail);all_goals conv=>whnf))
  · refine acallI (L.s_of hT.rl hT.fl (salt :: xss) hw' (by omega) (by simp; omega)) rfl fun r hr => ?_
    subst hr
    ((conv=>whnf);repeat'((first|(show(_=true→_)∧(_=false→_);first|refine gT ?_|refine gF ?_|refine gS ?_ ?_<;>(intro _h;try contradiction))|(show(_=false→_)∧(_=true→_);first|refine gU ?_|refine gV ?_|refine gZ ?_ ?_<;>(intro _h;try contradiction))|(intro _h;try contradiction)|(show _∧_;refine gA ?_)|fail);all_goals conv=>whnf))
    refine Ends.imm rfl ?_
    unfold digV digS
    rw [if_neg h0, if_neg h1, if_pos (by assumption), hfc]
  · refine acallI (s_of hT.rs hT.fs (salt :: xss) hw' (by omega) (by simp; omega)) rfl fun r hr => ?_
    subst hr
    ((conv=>whnf);repeat'((first|(show(_=true→_)∧(_=false→_);first|refine gT ?_|refine gF ?_|refine gS ?_ ?_<;>(intro _h;try contradiction))|(show(_=false→_)∧(_=true→_);first|refine gU ?_|refine gV ?_|refine gZ ?_ ?_<;>(intro _h;try contradiction))|(intro _h;try contradiction)|(show _∧_;refine gA ?_)|fail);all_goals conv=>whnf))
    refine Ends.imm rfl ?_
    unfold digV digS
    rw [if_neg h0, if_neg h1, if_neg (by assumption), hfc]
theorem b_digestN (hT : Tabs4) (alg : Int) (xss : List (List Int)) (hw : ∀ x ∈ xss, wfd x) (hl : xss.flatten.length ≤ 1000000) (hx : xss.length ≤ 1000) :
    Imm Tryd.prog 38 [i64 alg, .nls (byt []), .d (.sl 1 (xss.map byt))] (fun r => r = digV alg [] xss.flatten) :=
  CSpec.args (b_digest hT alg [] xss (fun x hx => by simp at hx) (Nat.zero_le _) hw hl hx) fun w β S vs h => by
    simp only [VAll] at h ⊢
    obtain ⟨v1, r1, e1, h1, v2, r2, e2, h2, h3⟩ := h
    exact ⟨v1, r1, e1, h1, v2, r2, e2, nls_d h2, h3⟩

theorem digV_nil {alg : Int} {t : List Int} (h : sizeS alg ≠ 0) : digV alg [] t = .tup [.d (byt (digS alg t)), i64 0] := by
  unfold digV
  rw [if_neg h, if_neg (by simp)]
  rfl

/-- What a text's block comes to. -/
def tblV (alg : Int) (text : List Int) (size : Int) : AVal := if sizeS alg = 0 then .tup [.nls (byt []), i64 20] else blockV alg (digS alg text) size
theorem digS_le (alg : Int) (t : List Int) : (digS alg t).length ≤ 64 := by
  unfold digS
  split
  · rw [L.sumS_len]; omega
  · rw [sumS_len]; omega

def toldBk : AW.Told := ⟨fun _ => false, fun r i => if r == 1 && i == 3 then [13] else [], fun _ => .done⟩

theorem blockV_form (alg : Int) (d : List Int) (size : Int) : (∃ e, e ≠ 0 ∧ blockV alg d size = .tup [.nls (byt []), i64 e]) ∨ blockV alg d size = .tup [.d (byt (blockB alg d size.toNat)), i64 0] := by
  unfold blockV
  repeat' split
  · exact .inl ⟨20, by omega, rfl⟩
  · exact .inl ⟨12, by omega, rfl⟩
  · exact .inl ⟨21, by omega, rfl⟩
  · exact .inr rfl

theorem b_tblock (hT : Tabs4) (alg : Int) (text : List Int) (size : Int) (ht : wfd text) (hl : text.length ≤ 1000000) :
    Imm Tryd.prog 78 [i64 alg, .d (byt text), i64 size] (fun r => r = tblV alg text size) := by
  (refine Imm.of_awp toldBk [] Tryd.func78 rfl (by decide) (Nat.le_of_ble_eq_true rfl) ?_; intro _w0 _S0 _E0 _B0; ((conv=>whnf);repeat'((first|(show(_=true→_)∧(_=false→_);first|refine nTt ?_|refine nFf ?_|refine gS ?_ ?_<;>(intro _h;try contradiction))|(show(_=false→_)∧(_=true→_);first|refine nU ?_|refine nV ?_|refine gZ ?_ ?_<;>(intro _h;try contradiction))|(intro _h;try contradiction)|(show _∧_;refine gA ?_)|fail);all_goals conv=>whnf)))
  refine acallI (b_digestN hT alg [text] (fun x hx => by simp at hx; subst hx; exact ht) (by simpa using hl) (by simp)) rfl fun r hr => ?_
  rw [List.flatten_cons, List.flatten_nil, List.append_nil] at hr
  by_cases h0 : sizeS alg = 0
  · unfold digV at hr
    rw [if_pos h0] at hr
    subst hr
    ((conv=>whnf);repeat'((first|(show(_=true→_)∧(_=false→_);first|refine gT ?_|refine gF ?_|refine gS ?_ ?_<;>(intro _h;try contradiction))|(show(_=false→_)∧(_=true→_);first|refine gU ?_|refine gV ?_|refine gZ ?_ ?_<;>(intro _h;try contradiction))|(intro _h;try contradiction)|(show _∧_;refine gA ?_)|fail);all_goals conv=>whnf))
    refine Ends.imm rfl ?_
    unfold tblV
    rw [if_pos h0]
  · rw [digV_nil h0] at hr
    subst hr
    have hdl := digS_le alg text
    obtain ⟨d, hd⟩ : ∃ d, d = digS alg text := ⟨_, rfl⟩
    have hdw : wfd d := by rw [hd]; exact digS_wfd _ _
    rw [← hd] at hdl ⊢
    ((conv=>whnf);repeat'((first|(show(_=true→_)∧(_=false→_);first|refine gT ?_|refine gF ?_|refine gS ?_ ?_<;>(intro _h;try contradiction))|(show(_=false→_)∧(_=true→_);first|refine gU ?_|refine gV ?_|refine gZ ?_ ?_<;>(intro _h;try contradiction))|(intro _h;try contradiction)|(show _∧_;refine gA ?_)|fail);all_goals conv=>whnf))
    refine acallI (b_block alg d size hdw (by unfold LIM; omega)) rfl fun r hr => ?_
    rcases blockV_form alg d size with ⟨e, _, he⟩ | he
    · rw [he] at hr
      subst hr
      ((conv=>whnf);repeat'((first|(show(_=true→_)∧(_=false→_);first|refine gT ?_|refine gF ?_|refine gS ?_ ?_<;>(intro _h;try contradiction))|(show(_=false→_)∧(_=true→_);first|refine gU ?_|refine gV ?_|refine gZ ?_ ?_<;>(intro _h;try contradiction))|(intro _h;try contradiction)|(show _∧_;refine gA ?_)|fail);all_goals conv=>whnf))
      refine Ends.imm rfl ?_
      unfold tblV
      rw [if_neg h0, ← hd, he]
    · rw [he] at hr
      subst hr
      ((conv=>whnf);repeat'((first|(show(_=true→_)∧(_=false→_);first|refine gT ?_|refine gF ?_|refine gS ?_ ?_<;>(intro _h;try contradiction))|(show(_=false→_)∧(_=true→_);first|refine gU ?_|refine gV ?_|refine gZ ?_ ?_<;>(intro _h;try contradiction))|(intro _h;try contradiction)|(show _∧_;refine gA ?_)|fail);all_goals conv=>whnf))
      refine Ends.imm rfl ?_
      unfold tblV
      rw [if_neg h0, ← hd, he]

theorem openB_powV (m sig : List Int) : (∃ e, e ≠ 0 ∧ powV m sig [1, 0, 1] = .tup [.nls (byt []), i64 e] ∧ openB m sig = none) ∨ ∃ zs, powV m sig [1, 0, 1] = .tup [.d (byt zs), i64 0] ∧ openB m sig = some zs := by
  have ev0 : ev [1, 0, 1] = 65537 := by decide
  unfold powV openB
  rw [ev0]
  by_cases h1 : sig.length = m.length
  · by_cases h2 : bn m ≤ bn sig
    · exact .inl ⟨13, by omega, by rw [if_neg (by omega), if_pos h2], by rw [if_neg (by omega)]⟩
    · exact .inr ⟨_, by rw [if_neg (by omega), if_neg h2, if_neg (by simp)], by rw [if_pos ⟨h1, by omega⟩]⟩
  · exact .inl ⟨24, by omega, by rw [if_pos h1], by rw [if_neg (fun h => h1 h.1)]⟩

theorem tblV_eq (alg : Int) (text : List Int) (m : List Int) : (∃ e, e ≠ 0 ∧ tblV alg text m.length = .tup [.nls (byt []), i64 e] ∧ ∀ sig, verV m alg text sig = e) ∨
    (tblV alg text m.length = .tup [.d (byt (blockB alg (digS alg text) m.length)), i64 0] ∧ ∀ sig, verV m alg text sig = if openB m sig = some (blockB alg (digS alg text) m.length) then 0 else 23) := by
  unfold tblV verV blockV
  by_cases h0 : sizeS alg = 0
  · exact .inl ⟨20, by omega, by rw [if_pos h0], fun _ => by rw [if_pos h0]⟩
  have hd := digS_len alg text (sizeS_pos.1 h0)
  by_cases h1 : 512 < (m.length : Int) ∨ (m.length : Int) < 30 + (sizeS alg : Int)
  · exact .inl ⟨21, by omega, by rw [if_neg h0, if_neg h0, if_neg (by omega), hd, if_pos h1], fun _ => by rw [if_neg h0, if_pos h1]⟩
  · exact .inr ⟨by rw [if_neg h0, if_neg h0, if_neg (by omega), hd, if_neg h1, Int.toNat_natCast], fun _ => by rw [if_neg h0, if_neg h1]⟩

theorem b_verify (hT : Tabs4) (hE : Globs.gl 0 = some EXP) (m n : List Int) (n0 : Int) (rr : List Int) (h : Key m n n0 rr) (alg : Int) (text sig : List Int) (ht : wfd text) (hl : text.length ≤ 1000000) (hs : wfd sig) :
    Imm Tryd.prog 45 [.d (keyD m n n0 rr), i64 alg, .d (byt text), .d (byt sig)] (fun r => r = i64 (verV m alg text sig)) := by
  (refine Imm.of_awp told0 [] Tryd.func45 rfl (by decide) (Nat.le_of_ble_eq_true rfl) ?_; intro _w0 _S0 _E0 _B0; ((conv=>whnf);repeat'((first|(show(_=true→_)∧(_=false→_);first|refine nTt ?_|refine nFf ?_|refine gS ?_ ?_<;>(intro _h;try contradiction))|(show(_=false→_)∧(_=true→_);first|refine nU ?_|refine nV ?_|refine gZ ?_ ?_<;>(intro _h;try contradiction))|(intro _h;try contradiction)|(show _∧_;refine gA ?_)|fail);all_goals conv=>whnf)))
  refine acallI (k_size m n n0 rr) rfl fun r hr => ?_
  subst hr
  ((conv=>whnf);repeat'((first|(show(_=true→_)∧(_=false→_);first|refine gT ?_|refine gF ?_|refine gS ?_ ?_<;>(intro _h;try contradiction))|(show(_=false→_)∧(_=true→_);first|refine gU ?_|refine gV ?_|refine gZ ?_ ?_<;>(intro _h;try contradiction))|(intro _h;try contradiction)|(show _∧_;refine gA ?_)|fail);all_goals conv=>whnf))
  refine acallI (b_tblock hT alg text m.length ht hl) rfl fun r hr => ?_
  rcases tblV_eq alg text m with ⟨e, he0, he, hv⟩ | ⟨he, hv⟩
  · rw [he] at hr
    subst hr
    ((conv=>whnf);repeat'((first|(show(_=true→_)∧(_=false→_);first|refine gT ?_|refine gF ?_|refine gS ?_ ?_<;>(intro _h;try contradiction))|(show(_=false→_)∧(_=true→_);first|refine gU ?_|refine gV ?_|refine gZ ?_ ?_<;>(intro _h;try contradiction))|(intro _h;try contradiction)|(show _∧_;refine gA ?_)|fail);all_goals conv=>whnf))
    exact Ends.imm rfl (by rw [hv])
  · rw [he] at hr
    subst hr
    obtain ⟨B, hB⟩ : ∃ B, B = blockB alg (digS alg text) m.length := ⟨_, rfl⟩
    rw [← hB] at hv ⊢
    ((conv=>whnf);repeat'((first|(show(_=true→_)∧(_=false→_);first|refine gT ?_|refine gF ?_|refine gS ?_ ?_<;>(intro _h;try contradiction))|(show(_=false→_)∧(_=true→_);first|refine gU ?_|refine gV ?_|refine gZ ?_ ?_<;>(intro _h;try contradiction))|(intro _h;try contradiction)|(show _∧_;refine gA ?_)|fail);all_goals conv=>whnf))
    refine acallI (k_open hE m n n0 rr h sig hs) rfl fun r hr => ?_
    rcases openB_powV m sig with ⟨e, he0, hp, ho⟩ | ⟨zs, hp, ho⟩
    · rw [hp] at hr
      subst hr
      ((conv=>whnf);repeat'((first|(show(_=true→_)∧(_=false→_);first|refine gT ?_|refine gF ?_|refine gS ?_ ?_<;>(intro _h;try contradiction))|(show(_=false→_)∧(_=true→_);first|refine gU ?_|refine gV ?_|refine gZ ?_ ?_<;>(intro _h;try contradiction))|(intro _h;try contradiction)|(show _∧_;refine gA ?_)|fail);all_goals conv=>whnf))
      refine Ends.imm rfl ?_
      rw [hv, ho, if_neg (by simp)]
    · rw [hp] at hr
      subst hr
      ((conv=>whnf);repeat'((first|(show(_=true→_)∧(_=false→_);first|refine gT ?_|refine gF ?_|refine gS ?_ ?_<;>(intro _h;try contradiction))|(show(_=false→_)∧(_=true→_);first|refine gU ?_|refine gV ?_|refine gZ ?_ ?_<;>(intro _h;try contradiction))|(intro _h;try contradiction)|(show _∧_;refine gA ?_)|fail);all_goals conv=>whnf))
      refine acallI (k_equal zs B) rfl fun r hr => ?_
      subst hr
      by_cases hz : zs = B
      · have hz' : decide (zs = B) = true := decide_eq_true hz
        rw [hz']
        ((conv=>whnf);repeat'((first|(show(_=true→_)∧(_=false→_);first|refine gT ?_|refine gF ?_|refine gS ?_ ?_<;>(intro _h;try contradiction))|(show(_=false→_)∧(_=true→_);first|refine gU ?_|refine gV ?_|refine gZ ?_ ?_<;>(intro _h;try contradiction))|(intro _h;try contradiction)|(show _∧_;refine gA ?_)|fail);all_goals conv=>whnf))
        refine Ends.imm rfl ?_
        rw [hv, ho, hz, if_pos rfl]
      · have hz' : decide (zs = B) = false := decide_eq_false hz
        rw [hz']
        ((conv=>whnf);repeat'((first|(show(_=true→_)∧(_=false→_);first|refine gT ?_|refine gF ?_|refine gS ?_ ?_<;>(intro _h;try contradiction))|(show(_=false→_)∧(_=true→_);first|refine gU ?_|refine gV ?_|refine gZ ?_ ?_<;>(intro _h;try contradiction))|(intro _h;try contradiction)|(show _∧_;refine gA ?_)|fail);all_goals conv=>whnf))
        refine Ends.imm rfl ?_
        rw [hv, ho, if_neg (by simpa using hz)]

/-- What a signature comes to. -/
def sgnV (m secret : List Int) (alg : Int) (text : List Int) : AVal :=
  if sizeS alg = 0 then .tup [.nls (byt []), i64 20]
  else if notMod m ≠ 0 then .tup [.nls (byt []), i64 (notMod m)]
  else if (m.length : Int) < 30 + (sizeS alg : Int) then .tup [.nls (byt []), i64 21]
  else powV m (blockB alg (digS alg text) m.length) secret

theorem b_sign (hT : Tabs4) (m secret : List Int) (alg : Int) (text : List Int) (hm : wfd m) (hml : m.length ≤ LIM) (hs : wfd secret) (ht : wfd text) (hl : text.length ≤ 1000000) :
    Imm Tryd.prog 44 [.d (byt m), .d (byt secret), i64 alg, .d (byt text)] (fun r => r = sgnV m secret alg text) := by
  (refine Imm.of_awp told0 [] Tryd.func44 rfl (by decide) (Nat.le_of_ble_eq_true rfl) ?_; intro _w0 _S0 _E0 _B0; ((conv=>whnf);repeat'((first|(show(_=true→_)∧(_=false→_);first|refine nTt ?_|refine nFf ?_|refine gS ?_ ?_<;>(intro _h;try contradiction))|(show(_=false→_)∧(_=true→_);first|refine nU ?_|refine nV ?_|refine gZ ?_ ?_<;>(intro _h;try contradiction))|(intro _h;try contradiction)|(show _∧_;refine gA ?_)|fail);all_goals conv=>whnf)))
  refine acallI (b_size alg) rfl fun r hr => ?_
  subst hr
  by_cases h0 : sizeS alg = 0
  · have h0' : ((sizeS alg : Nat) : Int) = 0 := by omega
    ((conv=>whnf);repeat'((first|(show(_=true→_)∧(_=false→_);first|refine gT ?_|refine gF ?_|refine gS ?_ ?_<;>(intro _h;try contradiction))|(show(_=false→_)∧(_=true→_);first|refine gU ?_|refine gV ?_|refine gZ ?_ ?_<;>(intro _h;try contradiction))|(intro _h;try contradiction)|(show _∧_;refine gA ?_)|fail);all_goals conv=>whnf))
    refine Ends.imm rfl ?_
    unfold sgnV
    rw [if_pos h0]
  have h0' : ¬ ((sizeS alg : Nat) : Int) = 0 := by omega
  ((conv=>whnf);repeat'((first|(show(_=true→_)∧(_=false→_);first|refine gT ?_|refine gF ?_|refine gS ?_ ?_<;>(intro _h;try contradiction))|(show(_=false→_)∧(_=true→_);first|refine gU ?_|refine gV ?_|refine gZ ?_ ?_<;>(intro _h;try contradiction))|(intro _h;try contradiction)|(show _∧_;refine gA ?_)|fail);all_goals conv=>whnf))
  refine acallI (k_make m hm hml) rfl fun r hr => ?_
  by_cases hn : notMod m ≠ 0
  · rw [if_pos hn] at hr
    subst hr
    ((conv=>whnf);repeat'((first|(show(_=true→_)∧(_=false→_);first|refine gT ?_|refine gF ?_|refine gS ?_ ?_<;>(intro _h;try contradiction))|(show(_=false→_)∧(_=true→_);first|refine gU ?_|refine gV ?_|refine gZ ?_ ?_<;>(intro _h;try contradiction))|(intro _h;try contradiction)|(show _∧_;refine gA ?_)|fail);all_goals conv=>whnf))
    refine Ends.imm rfl ?_
    unfold sgnV
    rw [if_neg h0, if_pos hn]
  · rw [if_neg hn] at hr
    obtain ⟨n, n0, rr, rfl, hk⟩ := hr
    obtain ⟨k1, k2, k3, k4⟩ := hk.pos
    have k5 := sized_spec.1 k4
    ((conv=>whnf);repeat'((first|(show(_=true→_)∧(_=false→_);first|refine gT ?_|refine gF ?_|refine gS ?_ ?_<;>(intro _h;try contradiction))|(show(_=false→_)∧(_=true→_);first|refine gU ?_|refine gV ?_|refine gZ ?_ ?_<;>(intro _h;try contradiction))|(intro _h;try contradiction)|(show _∧_;refine gA ?_)|fail);all_goals conv=>whnf))
    refine acallI (b_tblock hT alg text m.length ht hl) rfl fun r hr => ?_
    have hdl := digS_len alg text (sizeS_pos.1 h0)
    by_cases h1 : (m.length : Int) < 30 + (sizeS alg : Int)
    · have e : tblV alg text m.length = .tup [.nls (byt []), i64 21] := by
        unfold tblV blockV
        rw [if_neg h0, if_neg h0, if_neg (by omega), hdl, if_pos (.inr h1)]
      rw [e] at hr
      subst hr
      ((conv=>whnf);repeat'((first|(show(_=true→_)∧(_=false→_);first|refine gT ?_|refine gF ?_|refine gS ?_ ?_<;>(intro _h;try contradiction))|(show(_=false→_)∧(_=true→_);first|refine gU ?_|refine gV ?_|refine gZ ?_ ?_<;>(intro _h;try contradiction))|(intro _h;try contradiction)|(show _∧_;refine gA ?_)|fail);all_goals conv=>whnf))
      refine Ends.imm rfl ?_
      unfold sgnV
      rw [if_neg h0, if_neg hn, if_pos h1]
    · have e : tblV alg text m.length = .tup [.d (byt (blockB alg (digS alg text) m.length)), i64 0] := by
        unfold tblV blockV
        rw [if_neg h0, if_neg h0, if_neg (by omega), hdl, if_neg (by omega), Int.toNat_natCast]
      rw [e] at hr
      subst hr
      obtain ⟨B, hB⟩ : ∃ B, B = blockB alg (digS alg text) m.length := ⟨_, rfl⟩
      have hBw : wfd B := by rw [hB]; exact blockB_wfd (digS_wfd _ _)
      rw [← hB]
      ((conv=>whnf);repeat'((first|(show(_=true→_)∧(_=false→_);first|refine gT ?_|refine gF ?_|refine gS ?_ ?_<;>(intro _h;try contradiction))|(show(_=false→_)∧(_=true→_);first|refine gU ?_|refine gV ?_|refine gZ ?_ ?_<;>(intro _h;try contradiction))|(intro _h;try contradiction)|(show _∧_;refine gA ?_)|fail);all_goals conv=>whnf))
      refine acallI (k_close m secret B hm hs hBw hml) rfl fun r hr => ?_
      rw [if_neg hn] at hr
      have hres : sgnV m secret alg text = powV m B secret := by
        unfold sgnV
        rw [if_neg h0, if_neg hn, if_neg h1, ← hB]
      rcases powV_form m B secret with ⟨e, he⟩ | ⟨zs, he⟩ <;> rw [he] at hr hres <;> subst hr
      · ((conv=>whnf);repeat'((first|(show(_=true→_)∧(_=false→_);first|refine gT ?_|refine gF ?_|refine gS ?_ ?_<;>(intro _h;try contradiction))|(show(_=false→_)∧(_=true→_);first|refine gU ?_|refine gV ?_|refine gZ ?_ ?_<;>(intro _h;try contradiction))|(intro _h;try contradiction)|(show _∧_;refine gA ?_)|fail);all_goals conv=>whnf))
        exact Ends.imm rfl hres.symm
      · ((conv=>whnf);repeat'((first|(show(_=true→_)∧(_=false→_);first|refine gT ?_|refine gF ?_|refine gS ?_ ?_<;>(intro _h;try contradiction))|(show(_=false→_)∧(_=true→_);first|refine gU ?_|refine gV ?_|refine gZ ?_ ?_<;>(intro _h;try contradiction))|(intro _h;try contradiction)|(show _∧_;refine gA ?_)|fail);all_goals conv=>whnf))
        exact Ends.imm rfl hres.symm

def toldRD : AW.Told := ⟨fun _ => false, fun r i => if (r == 4 || r == 5) && i == 1 then [7] else [], fun _ => .done⟩

theorem b_refDigest (alg : Int) (salt text : List Int) (ha : alg = 1 ∨ alg = 2) (hs : wfd salt) (ht : wfd text) (hsl : salt.length ≤ 1000000) (hl : text.length ≤ 1000000) :
    Imm Tryd.prog 41 [i64 alg, .d (byt salt), .d (byt text)] (fun r => r = .d (byt (digS alg (salt ++ text)))) := by
  (refine Imm.of_awp toldRD [] Tryd.func41 rfl (by decide) (Nat.le_of_ble_eq_true rfl) ?_; intro _w0 _S0 _E0 _B0; ((conv=>whnf);repeat'((first|(show(_=true→_)∧(_=false→_);first|refine nTt ?_|refine nFf ?_|refine gS ?_ ?_<;>(intro _h;try contradiction))|(show(_=false→_)∧(_=true→_);first|refine nU ?_|refine nV ?_|refine gZ ?_ ?_<;>(intro _h;try contradiction))|(intro _h;try contradiction)|(show _∧_;refine gA ?_)|fail);all_goals conv=>whnf)))
  refine ⟨by show (0 + salt.length) * 1 ≤ 140737488355328; omega, ?_⟩
  ((conv=>whnf);repeat'((first|(show(_=true→_)∧(_=false→_);first|refine gT ?_|refine gF ?_|refine gS ?_ ?_<;>(intro _h;try contradiction))|(show(_=false→_)∧(_=true→_);first|refine gU ?_|refine gV ?_|refine gZ ?_ ?_<;>(intro _h;try contradiction))|(intro _h;try contradiction)|(show _∧_;refine gA ?_)|fail);all_goals conv=>whnf))
  refine ⟨by show (salt.length + text.length) * 1 ≤ 140737488355328; omega, ?_⟩
  obtain ⟨all, hall⟩ : ∃ all, all = [] ++ salt ++ text := ⟨_, rfl⟩
  have hal : all.length = salt.length + text.length := by rw [hall, List.nil_append, List.length_append]
  have haw : wfd all := by rw [hall, List.nil_append]; exact hs.append ht
  rw [← hall]
  ((conv=>whnf);repeat'((first|(show(_=true→_)∧(_=false→_);first|refine gT ?_|refine gF ?_|refine gS ?_ ?_<;>(intro _h;try contradiction))|(show(_=false→_)∧(_=true→_);first|refine gU ?_|refine gV ?_|refine gZ ?_ ?_<;>(intro _h;try contradiction))|(intro _h;try contradiction)|(show _∧_;refine gA ?_)|fail);all_goals conv=>whnf))
  · refine acallI (s_refSum all haw (by omega)) rfl fun r hr => ?_
    subst hr
    ((conv=>whnf);repeat'((first|(show(_=true→_)∧(_=false→_);first|refine gT ?_|refine gF ?_|refine gS ?_ ?_<;>(intro _h;try contradiction))|(show(_=false→_)∧(_=true→_);first|refine gU ?_|refine gV ?_|refine gZ ?_ ?_<;>(intro _h;try contradiction))|(intro _h;try contradiction)|(show _∧_;refine gA ?_)|fail);all_goals conv=>whnf))
    refine Ends.imm rfl ?_
    unfold digS
    rw [if_neg (by omega), hall, List.nil_append]
  · refine acallI (L.s_refSum all haw (by omega)) rfl fun r hr => ?_
    subst hr
    ((conv=>whnf);repeat'((first|(show(_=true→_)∧(_=false→_);first|refine gT ?_|refine gF ?_|refine gS ?_ ?_<;>(intro _h;try contradiction))|(show(_=false→_)∧(_=true→_);first|refine gU ?_|refine gV ?_|refine gZ ?_ ?_<;>(intro _h;try contradiction))|(intro _h;try contradiction)|(show _∧_;refine gA ?_)|fail);all_goals conv=>whnf))
    refine Ends.imm rfl ?_
    unfold digS
    rw [if_pos (by omega), hall, List.nil_append]

theorem b_refDigestN (alg : Int) (text : List Int) (ha : alg = 1 ∨ alg = 2) (ht : wfd text) (hl : text.length ≤ 1000000) :
    Imm Tryd.prog 41 [i64 alg, .nls (byt []), .d (byt text)] (fun r => r = .d (byt (digS alg text))) :=
  CSpec.args (b_refDigest alg [] text ha (fun x hx => by simp at hx) ht (Nat.zero_le _) hl) fun w β S vs h => by
    simp only [VAll] at h ⊢
    obtain ⟨v1, r1, e1, h1, v2, r2, e2, h2, h3⟩ := h
    exact ⟨v1, r1, e1, h1, v2, r2, e2, nls_d h2, h3⟩

def toldRB : AW.Told := ⟨fun f => f == 1008003, fun _ _ => [], fun _ => .done⟩

theorem b_refBlock (alg : Int) (d : List Int) (size : Int) (ha : alg = 1 ∨ alg = 2) (hd : wfd d) (hl : d.length = sizeS alg) :
    Imm Tryd.prog 43 [i64 alg, .d (byt d), i64 size] (fun r => r = if 512 < size ∨ size < 30 + (d.length : Int) then .tup [.nls (byt []), i64 21] else .tup [.d (byt (blockB alg d size.toNat)), i64 0]) := by
  have hsz : sizeS alg ≤ 64 := by unfold sizeS; (repeat' split) <;> omega
  have hhl := headS_len alg
  obtain ⟨hd0, hhd0⟩ : ∃ hd0, hd0 = headS alg := ⟨_, rfl⟩
  have hrh := b_refHead alg ha
  rw [← hhd0] at hrh hhl
  (refine Imm.of_awp toldRB [6] Tryd.func43 rfl (by decide) (Nat.le_of_ble_eq_true rfl) ?_; intro _w0 _S0 _E0 _B0; ((conv=>whnf);repeat'((first|(show(_=true→_)∧(_=false→_);first|refine nTt ?_|refine nFf ?_|refine gS ?_ ?_<;>(intro _h;try contradiction))|(show(_=false→_)∧(_=true→_);first|refine nU ?_|refine nV ?_|refine gZ ?_ ?_<;>(intro _h;try contradiction))|(intro _h;try contradiction)|(show _∧_;refine gA ?_)|fail);all_goals conv=>whnf)))
  refine acallI hrh rfl fun r hr => ?_
  subst hr
  have e1 : IntKind.i64.wrap (IntKind.i64.wrap (3 + (hd0.length : Int)) + (d.length : Int)) = 22 + d.length := by
    rw [wrap_i64 (n := 3 + (hd0.length : Int)) (by omega) (by omega), wrap_i64 (by omega) (by omega)]; omega
  have e2 : IntKind.i64.wrap (22 + (d.length : Int) + 8) = 30 + d.length := by rw [wrap_i64 (by omega) (by omega)]; omega
  ((conv=>whnf);repeat'((first|(show(_=true→_)∧(_=false→_);first|refine gT ?_|refine gF ?_|refine gS ?_ ?_<;>(intro _h;try contradiction))|(show(_=false→_)∧(_=true→_);first|refine gU ?_|refine gV ?_|refine gZ ?_ ?_<;>(intro _h;try contradiction))|(intro _h;try contradiction)|(show _∧_;refine gA ?_)|fail);all_goals conv=>whnf))
  · refine Ends.imm rfl ?_
    rw [e1] at *
    rw [if_pos (.inr (by omega))]
  · obtain ⟨N, hN⟩ : ∃ N : Nat, N = size.toNat - 22 - d.length := ⟨_, rfl⟩
    have e3 : IntKind.i64.wrap (IntKind.i64.wrap (size - (22 + (d.length : Int))) + 2) = ((2 + N : Nat) : Int) := by
      rw [e1] at *
      rw [wrap_i64 (n := size - (22 + (d.length : Int))) (by omega) (by omega), wrap_i64 (by omega) (by omega)]; omega
    refine aloop (T := toldRB) (ι := Nat) (fun k => [(0, i64 alg), (1, .d (byt d)), (2, i64 size), (8, i64 (22 + (d.length : Int))), (9, .own 0)]) (fun k => [(0, .row .u8 5 ([0, 1] ++ List.replicate k 255))]) 46 1
      (fun k => N - k) (fun k => k ≤ N)
      ⟨0, [0], rfl, by omega, ?_⟩ ?_
    · (refine ⟨rfl, rfl, ?_, ?_⟩ <;> repeat' (first | exact True.intro | rfl | decide | (refine And.intro ?_ ?_)))
      exact di e1
    intro k hk
    have hrl : ([0, 1] ++ List.replicate k 255 : List Int).length = 2 + k := by simp; omega
    rcases Nat.lt_or_ge k N with hkN | hkN
    · have hc : (([0, 1] ++ List.replicate k 255 : List Int).length : Int) < IntKind.i64.wrap (IntKind.i64.wrap (size - (22 + (d.length : Int))) + 2) := by rw [e3, hrl]; omega
      ((conv=>whnf);repeat'((first|(show(_=true→_)∧(_=false→_);first|refine gT ?_|refine gF ?_|refine gS ?_ ?_<;>(intro _h;try contradiction))|(show(_=false→_)∧(_=true→_);first|refine gU ?_|refine gV ?_|refine gZ ?_ ?_<;>(intro _h;try contradiction))|(intro _h;try contradiction)|(show _∧_;refine gA ?_)|fail);all_goals conv=>whnf))
      refine ⟨by rw [hrl]; show (2 + k + 1) * 1 ≤ 140737488355328; rw [e1] at *; omega, ?_⟩
      ((conv=>whnf);repeat'((first|(show(_=true→_)∧(_=false→_);first|refine gT ?_|refine gF ?_|refine gS ?_ ?_<;>(intro _h;try contradiction))|(show(_=false→_)∧(_=true→_);first|refine gU ?_|refine gV ?_|refine gZ ?_ ?_<;>(intro _h;try contradiction))|(intro _h;try contradiction)|(show _∧_;refine gA ?_)|fail);all_goals conv=>whnf))
      refine ⟨k + 1, [0], by omega, by omega, rfl, ?_⟩
      (refine ⟨rfl, rfl, ?_, ?_⟩ <;> repeat' (first | exact True.intro | rfl | decide | (refine And.intro ?_ ?_)))
      show some (Ob.row .u8 _ _) = some (Ob.row .u8 _ _)
      rw [List.replicate_succ', ← List.append_assoc]
    · have hkN' : k = N := by omega
      have hc : ¬ (([0, 1] ++ List.replicate k 255 : List Int).length : Int) < IntKind.i64.wrap (IntKind.i64.wrap (size - (22 + (d.length : Int))) + 2) := by rw [e3, hrl]; omega
      ((conv=>whnf);repeat'((first|(show(_=true→_)∧(_=false→_);first|refine gT ?_|refine gF ?_|refine gS ?_ ?_<;>(intro _h;try contradiction))|(show(_=false→_)∧(_=true→_);first|refine gU ?_|refine gV ?_|refine gZ ?_ ?_<;>(intro _h;try contradiction))|(intro _h;try contradiction)|(show _∧_;refine gA ?_)|fail);all_goals conv=>whnf))
      rw [e1] at *
      refine ⟨by rw [hrl]; show (2 + k + 1) * 1 ≤ 140737488355328; omega, ?_⟩
      ((conv=>whnf);repeat'((first|(show(_=true→_)∧(_=false→_);first|refine gT ?_|refine gF ?_|refine gS ?_ ?_<;>(intro _h;try contradiction))|(show(_=false→_)∧(_=true→_);first|refine gU ?_|refine gV ?_|refine gZ ?_ ?_<;>(intro _h;try contradiction))|(intro _h;try contradiction)|(show _∧_;refine gA ?_)|fail);all_goals conv=>whnf))
      refine acallI hrh rfl fun r hr => ?_
      subst hr
      ((conv=>whnf);repeat'((first|(show(_=true→_)∧(_=false→_);first|refine gT ?_|refine gF ?_|refine gS ?_ ?_<;>(intro _h;try contradiction))|(show(_=false→_)∧(_=true→_);first|refine gU ?_|refine gV ?_|refine gZ ?_ ?_<;>(intro _h;try contradiction))|(intro _h;try contradiction)|(show _∧_;refine gA ?_)|fail);all_goals conv=>whnf))
      refine ao_appS (ys := hd0) rfl rfl rfl rfl rfl rfl rfl rfl rfl rfl (by decide) (by omega) rfl (Nat.zero_le _) (fun h => Bool.noConfusion h) (by rw [List.length_append, hrl]; show (2 + k + 1 + hd0.length) * 1 ≤ 140737488355328; omega) ?_
      ((conv=>whnf);repeat'((first|(show(_=true→_)∧(_=false→_);first|refine gT ?_|refine gF ?_|refine gS ?_ ?_<;>(intro _h;try contradiction))|(show(_=false→_)∧(_=true→_);first|refine gU ?_|refine gV ?_|refine gZ ?_ ?_<;>(intro _h;try contradiction))|(intro _h;try contradiction)|(show _∧_;refine gA ?_)|fail);all_goals conv=>whnf))
      refine ⟨by show (([0, 1] ++ List.replicate k 255 ++ [0] ++ hd0 : List Int).length + d.length) * 1 ≤ 140737488355328; rw [List.length_append, List.length_append, hrl]; show (2 + k + 1 + hd0.length + d.length) * 1 ≤ 140737488355328; omega, ?_⟩
      ((conv=>whnf);repeat'((first|(show(_=true→_)∧(_=false→_);first|refine gT ?_|refine gF ?_|refine gS ?_ ?_<;>(intro _h;try contradiction))|(show(_=false→_)∧(_=true→_);first|refine gU ?_|refine gV ?_|refine gZ ?_ ?_<;>(intro _h;try contradiction))|(intro _h;try contradiction)|(show _∧_;refine gA ?_)|fail);all_goals conv=>whnf))
      refine Ends.imm rfl ?_
      rw [if_neg (by omega)]
      unfold blockB
      rw [hkN', hN, hhd0]
      simp
  · refine Ends.imm rfl ?_
    rw [if_pos (.inl (by omega))]
end Go.Proofs.YtniaeiikdgbnfaaDoor.R
