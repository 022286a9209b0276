/- Parts B0, B1, B2, B3, B4, B5, B6. No condition of its own. -/
import Derived.Test.YtniaeiikdgbnfaaGreatDoorSH11
import Derived.Test.YtniaeiikdgbnfaaGreatDoorSH10
import Derived.Test.YtniaeiikdgbnfaaGreatDoorSH5
import Derived.Test.YtniaeiikdgbnfaaGreatDoorSH12

namespace Go.Proofs.YtniaeiikdgbnfaaGreatDoor.R
open Go Go.RowKit Go.Proofs Go.Proofs.YtniaeiikdgbnfaaGreatDoor.AW
set_option linter.unusedSectionVars false
variable [Globs]
set_option maxRecDepth 100000
set_option linter.unusedSimpArgs false
set_option linter.unusedVariables false
set_option maxHeartbeats 4000000

def sizeS (alg : Int) : Nat := if alg = 1 then 32 else if alg = 2 then 64 else 0
def headS (alg : Int) : List Int := if alg = 2 then [48, 81, 48, 13, 6, 9, 96, 134, 72, 1, 101, 3, 4, 2, 3, 5, 0, 4, 64] else [48, 49, 48, 13, 6, 9, 96, 134, 72, 1, 101, 3, 4, 2, 1, 5, 0, 4, 32]
def digS (alg : Int) (b : List Int) : List Int := if alg = 2 then L.sumS b else sumS b
def blockB (alg : Int) (d : List Int) (size : Nat) : List Int := [0, 1] ++ List.replicate (size - 22 - d.length) 255 ++ ([0] ++ headS alg ++ d)

theorem headS_len (alg : Int) : (headS alg).length = 19 := by unfold headS; split <;> rfl
theorem headS_wfd (alg : Int) : wfd (headS alg) := by
  unfold headS
  split <;> (intro x hx; simp only [List.mem_cons, List.not_mem_nil, or_false] at hx; omega)
theorem digS_wfd (alg : Int) (b : List Int) : wfd (digS alg b) := by
  unfold digS
  split
  · exact L.sumS_wfd b
  · exact sumS_wfd b
theorem digS_len (alg : Int) (b : List Int) (h : alg = 1 ∨ alg = 2) : (digS alg b).length = sizeS alg := by
  unfold digS sizeS
  rcases h with rfl | rfl
  · exact sumS_len b
  · exact L.sumS_len b
theorem sizeS_pos {alg : Int} : sizeS alg ≠ 0 ↔ alg = 1 ∨ alg = 2 := by
  unfold sizeS
  repeat' split
  · simp [*]
  · simp [*]
  · rename_i h1 h2; simp [h1, h2]
theorem blockB_len {alg : Int} {d : List Int} {size : Nat} (h : 30 + d.length ≤ size) : (blockB alg d size).length = size := by
  unfold blockB
  simp [headS_len]
  omega
theorem blockB_wfd {alg : Int} {d : List Int} {size : Nat} (h : wfd d) : wfd (blockB alg d size) := by
  unfold blockB
  refine ((show wfd [0, 1] from fun x hx => ?_).append fun x hx => ?_).append (((show wfd [0] from fun x hx => ?_).append (headS_wfd alg)).append h)
  · simp only [List.mem_cons, List.not_mem_nil, or_false] at hx; omega
  · rw [List.eq_of_mem_replicate hx]; omega
  · simp only [List.mem_cons, List.not_mem_nil, or_false] at hx; omega
theorem blockB_inj {alg : Int} {d e : List Int} {size : Nat} (hl : d.length = e.length) (h : blockB alg d size = blockB alg e size) : d = e := by
  unfold blockB at h
  rw [hl] at h
  exact List.append_cancel_left (List.append_cancel_left h |> fun h => by rwa [List.append_assoc, List.append_assoc] at h |> fun h => List.append_cancel_left h)

/-- What a block comes to. -/
def blockV (alg : Int) (d : List Int) (size : Int) : AVal :=
  if sizeS alg = 0 then .tup [.nls (byt []), i64 20]
  else if d.length ≠ sizeS alg then .tup [.nls (byt []), i64 12]
  else if 512 < size ∨ size < 30 + (d.length : Int) then .tup [.nls (byt []), i64 21]
  else .tup [.d (byt (blockB alg d size.toNat)), i64 0]
/-- What a signature opens to. -/
def openB (m sig : List Int) : Option (List Int) := if sig.length = m.length ∧ bn sig < bn m then some (be m.length (bn sig ^ 65537 % bn m).toNat) else none
/-- What a look at a signature comes to. -/
def verV (m : List Int) (alg : Int) (text sig : List Int) : Int :=
  if sizeS alg = 0 then 20
  else if 512 < (m.length : Int) ∨ (m.length : Int) < 30 + (sizeS alg : Int) then 21
  else if openB m sig = some (blockB alg (digS alg text) m.length) then 0
  else 23

theorem and_lo (n : Nat) (h : n < 4294967296) : bitsK .and .u64 (n : Int) 4294967295 = n := by
  unfold bitsK
  dsimp only
  have e : (BitVec.ofInt (IntKind.bits .u64) (n : Int) &&& BitVec.ofInt (IntKind.bits .u64) 4294967295).toNat = n := by
    have e1 : (BitVec.ofInt 64 (n : Int)).toNat = n := by simp [BitVec.toNat_ofInt]; omega
    have e2 : (BitVec.ofInt 64 4294967295).toNat = 2 ^ 32 - 1 := by decide
    show (BitVec.ofInt 64 (n : Int) &&& BitVec.ofInt 64 4294967295).toNat = n
    rw [BitVec.toNat_and, e1, e2, Nat.and_two_pow_sub_one_eq_mod]
    exact Nat.mod_eq_of_lt (by omega)
  rw [e]
  exact wrap_u64 (by omega) (by omega)

theorem s_mul64 (n : Nat) (h : n ≤ 100000) : Imm Tryz.prog 94 [.d (.int .u64 1), .d (.int .u64 n)] (fun r => r = .tup [.d (.int .u64 0), .d (.int .u64 n)]) := by
  have e1 : bitsK .and .u64 1 4294967295 = 1 := and_lo 1 (by omega)
  have e2 := and_lo n (by omega)
  have e3 : (n : Int) / 2 ^ 32 = 0 := by omega
  have e4 : (1 : Int) / 2 ^ 32 = 0 := by decide
  have e5 : IntKind.u64.wrap (n : Int) = n := wrap_u64 (by omega) (by omega)
  have e6 : bitsK .and .u64 0 4294967295 = 0 := and_lo 0 (by omega)
  have e7 : IntKind.u64.wrap 0 = 0 := wrap_u64 (by omega) (by omega)
  (refine Imm.of_awp told0 [] Tryz.func94 rfl (by decide) (Nat.le_of_ble_eq_true rfl) ?_; intro _w0 _S0 _E0 _B0; ((conv=>whnf);repeat'((first|(show(_=true→_)∧(_=false→_);first|refine gT ?_|refine gF ?_|refine gS ?_ ?_<;>(intro _h;try contradiction))|(show(_=false→_)∧(_=true→_);first|refine gU ?_|refine gV ?_|refine gZ ?_ ?_<;>(intro _h;try contradiction))|(intro _h;try contradiction)|(show _∧_;refine gA ?_)|fail);all_goals conv=>whnf)))
  refine Ends.imm rfl ?_
  have em : min (Int.toNat 32) (IntKind.bits .u64) = 32 := by decide
  rw [em, e1, e2, e3, e4]
  simp only [Int.one_mul, Int.zero_mul, e5, e7, e3, Int.add_zero, e6]
  rfl

theorem s_mul (n : Nat) (h : n ≤ 100000) : Imm Tryz.prog 82 [.d (.int .u64 1), .d (.int .u64 n)] (fun r => r = .tup [.d (.int .u64 0), .d (.int .u64 n)]) := by
  (refine Imm.of_awp told0 [] Tryz.func82 rfl (by decide) (Nat.le_of_ble_eq_true rfl) ?_; intro _w0 _S0 _E0 _B0; ((conv=>whnf);repeat'((first|(show(_=true→_)∧(_=false→_);first|refine gT ?_|refine gF ?_|refine gS ?_ ?_<;>(intro _h;try contradiction))|(show(_=false→_)∧(_=true→_);first|refine gU ?_|refine gV ?_|refine gZ ?_ ?_<;>(intro _h;try contradiction))|(intro _h;try contradiction)|(show _∧_;refine gA ?_)|fail);all_goals conv=>whnf)))
  refine acallI (s_mul64 n h) rfl fun r hr => ?_
  subst hr
  ((conv=>whnf);repeat'((first|(show(_=true→_)∧(_=false→_);first|refine gT ?_|refine gF ?_|refine gS ?_ ?_<;>(intro _h;try contradiction))|(show(_=false→_)∧(_=true→_);first|refine gU ?_|refine gV ?_|refine gZ ?_ ?_<;>(intro _h;try contradiction))|(intro _h;try contradiction)|(show _∧_;refine gA ?_)|fail);all_goals conv=>whnf))
  exact Ends.imm rfl rfl

theorem s_mul' (n : Nat) (m : Int) (hm : m = n) (h : n ≤ 100000) : Imm Tryz.prog 82 [.d (.int .u64 1), .d (.int .u64 m)] (fun r => r = .tup [.d (.int .u64 0), .d (.int .u64 n)]) := by
  subst hm
  exact s_mul n h

def toldRep : AW.Told := ⟨fun f => f == 1016001 || f == 1016004, fun r i => if r == 21 && i == 0 then [9] else [], fun r => if r == 20 then .take 0 (.take 1 (.take 2 (.take 3 (.take 4 (.take 5 (.take 6 (.one 7 (.take 8 (.take 9 .done))))))))) else .done⟩

theorem s_repeat (c : Int) (hc : 0 ≤ c ∧ c < 256) (n : Nat) (h : 1 ≤ n ∧ n ≤ 8192) : Imm Tryz.prog 64 [.d (byt [c]), i64 n] (fun r => r = .d (byt (List.replicate n c))) := by
  have ew : IntKind.u64.wrap (n : Int) = n := wrap_u64 (by omega) (by omega)
  have ew2 : IntKind.i64.wrap (n : Int) = n := wrap_i64 (by omega) (by omega)
  (refine Imm.of_awp toldRep [] Tryz.func64 rfl (by decide) (Nat.le_of_ble_eq_true rfl) ?_; intro _w0 _S0 _E0 _B0; ((conv=>whnf);repeat'((first|(show(_=true→_)∧(_=false→_);first|refine gT ?_|refine gF ?_|refine gS ?_ ?_<;>(intro _h;try contradiction))|(show(_=false→_)∧(_=true→_);first|refine gU ?_|refine gV ?_|refine gZ ?_ ?_<;>(intro _h;try contradiction))|(intro _h;try contradiction)|(show _∧_;refine gA ?_)|fail);all_goals conv=>whnf)))
  refine acallI (s_mul' n _ ew (by omega)) rfl fun r hr => ?_
  subst hr
  ((conv=>whnf);repeat'((first|(show(_=true→_)∧(_=false→_);first|refine gT ?_|refine gF ?_|refine gS ?_ ?_<;>(intro _h;try contradiction))|(show(_=false→_)∧(_=true→_);first|refine gU ?_|refine gV ?_|refine gZ ?_ ?_<;>(intro _h;try contradiction))|(intro _h;try contradiction)|(show _∧_;refine gA ?_)|fail);all_goals conv=>whnf))
  refine ao_mnz (n := n) (f := 83) (fn := Tryz.f83) (ps := #[3]) (t := 22) (e := 5) rfl rfl (di ew2) Tryz.func83 (by kernel_rfl) (by kernel_rfl) (by kernel_rfl) (by kernel_rfl) rfl (by omega) (by omega) fun zs hzs => ?_
  ((conv=>whnf);repeat'((first|(show(_=true→_)∧(_=false→_);first|refine gT ?_|refine gF ?_|refine gS ?_ ?_<;>(intro _h;try contradiction))|(show(_=false→_)∧(_=true→_);first|refine gU ?_|refine gV ?_|refine gZ ?_ ?_<;>(intro _h;try contradiction))|(intro _h;try contradiction)|(show _∧_;refine gA ?_)|fail);all_goals conv=>whnf))
  refine ao_slice3 (n := n) (m := n) rfl rfl rfl rfl rfl rfl rfl (di ew2) (di ew2) rfl (Nat.le_refl _) (by omega) (by omega) ?_
  ((conv=>whnf);repeat'((first|(show(_=true→_)∧(_=false→_);first|refine gT ?_|refine gF ?_|refine gS ?_ ?_<;>(intro _h;try contradiction))|(show(_=false→_)∧(_=true→_);first|refine gU ?_|refine gV ?_|refine gZ ?_ ?_<;>(intro _h;try contradiction))|(intro _h;try contradiction)|(show _∧_;refine gA ?_)|fail);all_goals conv=>whnf))
  refine aloop (T := toldRep) (ι := List Int × Nat) (fun i => [(7, i64 n), (8, i64 n), (9, .view 0 0 n), (10, i64 i.2)]) (fun i => [(0, .row .u8 5 i.1)]) 77 1
    (fun i => n - i.2) (fun i => i.1.length = n ∧ 1 ≤ i.2 ∧ i.2 ≤ n ∧ i.1.take i.2 = List.replicate i.2 c)
    ⟨(c :: zs.drop 1, 1), [0], rfl, ⟨by simp; omega, by omega, by omega, by simp⟩, ?_⟩ ?_
  · (refine ⟨rfl, rfl, ?_, ?_⟩ <;> repeat' (first | exact True.intro | rfl | decide | (refine And.intro ?_ ?_)))
    · exact di ew2
    · exact di ew2
    · exact di (by show ((min 1 n : Nat) : Int) = ((1 : Nat) : Int); omega)
    · show some (Ob.row .u8 _ _) = some (Ob.row .u8 _ _)
      have e1 : min [c].length n = 1 := by simp; omega
      have e2 : [c].take n = [c] := List.take_of_length_le (by simp; omega)
      rw [e1, e2]
      rfl
  rintro ⟨xs, bp⟩ ⟨hxl, h1, h2, hall⟩
  simp only at hxl h1 h2 hall
  rcases Nat.lt_or_ge bp n with hlt | hge
  · ((conv=>whnf);repeat'((first|(show(_=true→_)∧(_=false→_);first|refine gT ?_|refine gF ?_|refine gS ?_ ?_<;>(intro _h;try contradiction))|(show(_=false→_)∧(_=true→_);first|refine gU ?_|refine gV ?_|refine gZ ?_ ?_<;>(intro _h;try contradiction))|(intro _h;try contradiction)|(show _∧_;refine gA ?_)|fail);all_goals conv=>whnf))
    refine ⟨(xs.take bp ++ (xs.take bp).take (n - bp) ++ xs.drop (bp + min bp (n - bp)), bp + min bp (n - bp)), [0], ?_, ⟨?_, ?_, ?_, ?_⟩, rfl, ?_⟩
    · show n - (bp + min bp (n - bp)) < n - bp
      omega
    · simp [hxl]
      omega
    · show 1 ≤ bp + min bp (n - bp)
      omega
    · show bp + min bp (n - bp) ≤ n
      omega
    · have e : (List.replicate bp c ++ List.replicate (min (n - bp) bp) c).length = bp + min bp (n - bp) := by simp; omega
      show (xs.take bp ++ (xs.take bp).take (n - bp) ++ xs.drop (bp + min bp (n - bp))).take (bp + min bp (n - bp)) = List.replicate (bp + min bp (n - bp)) c
      rw [hall, List.take_replicate]
      conv => lhs; lhs; rw [← e]
      rw [List.take_left, List.replicate_append_replicate, Nat.min_comm]
    · (refine ⟨rfl, rfl, ?_, ?_⟩ <;> repeat' (first | exact True.intro | rfl | decide | (refine And.intro ?_ ?_)))
      · refine di ?_
        show IntKind.i64.wrap ((bp : Int) + ((min ((xs.drop (0 + 0)).take ((min (bp : Int) n).toNat - 0)).length (n - (bp : Int).toNat) : Nat) : Int)) = ((bp + min bp (n - bp) : Nat) : Int)
        rw [wrap_i64 (by omega) (by omega)]
        simp [hxl]
        omega
      · show some (Ob.row .u8 _ _) = some (Ob.row .u8 _ _)
        have e1 : (min (bp : Int) (n : Int)).toNat = bp := by omega
        have e2 : min bp xs.length = bp := by omega
        show some (Ob.row .u8 _ (xs.take (0 + (bp : Int).toNat) ++ ((xs.drop (0 + Int.toNat 0)).take ((min (bp : Int) (n : Int)).toNat - Int.toNat 0)).take ((n : Int).toNat - (bp : Int).toNat) ++
          xs.drop (0 + (bp : Int).toNat + min ((xs.drop (0 + Int.toNat 0)).take ((min (bp : Int) (n : Int)).toNat - Int.toNat 0)).length ((n : Int).toNat - (bp : Int).toNat)))) = some (Ob.row .u8 _ (xs.take bp ++ (xs.take bp).take (n - bp) ++ xs.drop (bp + min bp (n - bp))))
        rw [e1]
        simp only [Int.toNat_natCast, Int.toNat_zero, Nat.zero_add, Nat.sub_zero, List.drop_zero, List.length_take, e2]
  · have hbn : bp = n := by omega
    ((conv=>whnf);repeat'((first|(show(_=true→_)∧(_=false→_);first|refine gT ?_|refine gF ?_|refine gS ?_ ?_<;>(intro _h;try contradiction))|(show(_=false→_)∧(_=true→_);first|refine gU ?_|refine gV ?_|refine gZ ?_ ?_<;>(intro _h;try contradiction))|(intro _h;try contradiction)|(show _∧_;refine gA ?_)|fail);all_goals conv=>whnf))
    have hX : AW.frzV 0 (.ints .u8 xs) (.view 0 0 n) = .d (byt (List.replicate n c)) := by
      rw [hbn] at hall
      simp [AW.frzV, hxl, hall]
    change AW.forceV (AW.frzV 0 (.ints .u8 xs) (.view 0 0 n)) _
    rw [hX]
    ((conv=>whnf);repeat'((first|(show(_=true→_)∧(_=false→_);first|refine gT ?_|refine gF ?_|refine gS ?_ ?_<;>(intro _h;try contradiction))|(show(_=false→_)∧(_=true→_);first|refine gU ?_|refine gV ?_|refine gZ ?_ ?_<;>(intro _h;try contradiction))|(intro _h;try contradiction)|(show _∧_;refine gA ?_)|fail);all_goals conv=>whnf))
    exact Ends.imm rfl rfl

theorem b_size (alg : Int) : Imm Tryz.prog 15 [i64 alg] (fun r => r = i64 (sizeS alg)) := by
  (refine Imm.of_awp told0 [] Tryz.func15 rfl (by decide) (Nat.le_of_ble_eq_true rfl) ?_; intro _w0 _S0 _E0 _B0; ((conv=>whnf);repeat'((first|(show(_=true→_)∧(_=false→_);first|refine nTt ?_|refine nFf ?_|refine gS ?_ ?_<;>(intro _h;try contradiction))|(show(_=false→_)∧(_=true→_);first|refine nU ?_|refine nV ?_|refine gZ ?_ ?_<;>(intro _h;try contradiction))|(intro _h;try contradiction)|(show _∧_;refine gA ?_)|fail);all_goals conv=>whnf)))
  all_goals (refine Ends.imm rfl ?_; unfold sizeS; simp [*])

theorem b_refSize (alg : Int) : Imm Tryz.prog 7 [i64 alg] (fun r => r = i64 (sizeS alg)) := by
  (refine Imm.of_awp told0 [] Tryz.func7 rfl (by decide) (Nat.le_of_ble_eq_true rfl) ?_; intro _w0 _S0 _E0 _B0; ((conv=>whnf);repeat'((first|(show(_=true→_)∧(_=false→_);first|refine nTt ?_|refine nFf ?_|refine gS ?_ ?_<;>(intro _h;try contradiction))|(show(_=false→_)∧(_=true→_);first|refine nU ?_|refine nV ?_|refine gZ ?_ ?_<;>(intro _h;try contradiction))|(intro _h;try contradiction)|(show _∧_;refine gA ?_)|fail);all_goals conv=>whnf)))
  all_goals (refine Ends.imm rfl ?_; unfold sizeS; simp [*])

theorem b_head (alg : Int) : Imm Tryz.prog 63 [i64 alg] (fun r => r = .d (byt (headS alg))) := by
  (refine Imm.of_awp (⟨fun _ => false, fun r i => if r == 4 && i == 0 then [3] else [], fun _ => .done⟩ : AW.Told) [] Tryz.func63 rfl (by decide) (Nat.le_of_ble_eq_true rfl) ?_; intro _w0 _S0 _E0 _B0; ((conv=>whnf);repeat'((first|(show(_=true→_)∧(_=false→_);first|refine nTt ?_|refine nFf ?_|refine gS ?_ ?_<;>(intro _h;try contradiction))|(show(_=false→_)∧(_=true→_);first|refine nU ?_|refine nV ?_|refine gZ ?_ ?_<;>(intro _h;try contradiction))|(intro _h;try contradiction)|(show _∧_;refine gA ?_)|fail);all_goals conv=>whnf)))
  all_goals (refine Ends.imm rfl ?_; unfold headS; simp [*])

theorem b_refHead (alg : Int) (h : alg = 1 ∨ alg = 2) : Imm Tryz.prog 24 [i64 alg] (fun r => r = .d (.str (headS alg))) := by
  rcases h with rfl | rfl
  · (refine Imm.of_awp told0 [] Tryz.func24 rfl (by decide) (Nat.le_of_ble_eq_true rfl) ?_; intro _w0 _S0 _E0 _B0; ((conv=>whnf);repeat'((first|(show(_=true→_)∧(_=false→_);first|refine nTt ?_|refine nFf ?_|refine gS ?_ ?_<;>(intro _h;try contradiction))|(show(_=false→_)∧(_=true→_);first|refine nU ?_|refine nV ?_|refine gZ ?_ ?_<;>(intro _h;try contradiction))|(intro _h;try contradiction)|(show _∧_;refine gA ?_)|fail);all_goals conv=>whnf)))
    refine Ends.imm rfl ?_
    exact congrArg (fun l => AVal.d (.str l)) (by unfold headS; decide +kernel)
  · (refine Imm.of_awp told0 [] Tryz.func24 rfl (by decide) (Nat.le_of_ble_eq_true rfl) ?_; intro _w0 _S0 _E0 _B0; ((conv=>whnf);repeat'((first|(show(_=true→_)∧(_=false→_);first|refine nTt ?_|refine nFf ?_|refine gS ?_ ?_<;>(intro _h;try contradiction))|(show(_=false→_)∧(_=true→_);first|refine nU ?_|refine nV ?_|refine gZ ?_ ?_<;>(intro _h;try contradiction))|(intro _h;try contradiction)|(show _∧_;refine gA ?_)|fail);all_goals conv=>whnf)))
    refine Ends.imm rfl ?_
    exact congrArg (fun l => AVal.d (.str l)) (by unfold headS; decide +kernel)
def toldBl : AW.Told := ⟨fun _ => false, fun r i => if r == 5 && i == 4 then [20] else if r == 5 && i == 5 then [24] else if r == 8 && i == 6 then [36] else if r == 9 && i == 3 then [43] else if r == 9 && i == 4 then [46] else [], fun _ => .done⟩

theorem b_block (alg : Int) (d : List Int) (size : Int) (hd : wfd d) (hl : d.length ≤ LIM) : Imm Tryz.prog 40 [i64 alg, .d (byt d), i64 size] (fun r => r = blockV alg d size) := by
  have hs0 : ((sizeS alg : Nat) : Int) = 0 ↔ sizeS alg = 0 := by omega
  have hsz : sizeS alg ≤ 64 := by unfold sizeS; (repeat' split) <;> omega
  (refine Imm.of_awp toldBl [] Tryz.func40 rfl (by decide) (Nat.le_of_ble_eq_true rfl) ?_; intro _w0 _S0 _E0 _B0; ((conv=>whnf);repeat'((first|(show(_=true→_)∧(_=false→_);first|refine nTt ?_|refine nFf ?_|refine gS ?_ ?_<;>(intro _h;try contradiction))|(show(_=false→_)∧(_=true→_);first|refine nU ?_|refine nV ?_|refine gZ ?_ ?_<;>(intro _h;try contradiction))|(intro _h;try contradiction)|(show _∧_;refine gA ?_)|fail);all_goals conv=>whnf)))
  refine acallI (b_size alg) rfl fun r hr => ?_
  subst hr
  by_cases h0 : sizeS alg = 0
  · have h0' : ((sizeS alg : Nat) : Int) = 0 := by omega
    ((conv=>whnf);repeat'((first|(show(_=true→_)∧(_=false→_);first|refine gT ?_|refine gF ?_|refine gS ?_ ?_<;>(intro _h;try contradiction))|(show(_=false→_)∧(_=true→_);first|refine gU ?_|refine gV ?_|refine gZ ?_ ?_<;>(intro _h;try contradiction))|(intro _h;try contradiction)|(show _∧_;refine gA ?_)|fail);all_goals conv=>whnf))
    refine Ends.imm rfl ?_
    unfold blockV
    rw [if_pos h0]
  have h0' : ¬ ((sizeS alg : Nat) : Int) = 0 := by omega
  ((conv=>whnf);repeat'((first|(show(_=true→_)∧(_=false→_);first|refine gT ?_|refine gF ?_|refine gS ?_ ?_<;>(intro _h;try contradiction))|(show(_=false→_)∧(_=true→_);first|refine gU ?_|refine gV ?_|refine gZ ?_ ?_<;>(intro _h;try contradiction))|(intro _h;try contradiction)|(show _∧_;refine gA ?_)|fail);all_goals conv=>whnf))
  refine acallI (b_size alg) rfl fun r hr => ?_
  subst hr
  by_cases h1 : d.length = sizeS alg
  · have h1' : (d.length : Int) = ((sizeS alg : Nat) : Int) := by omega
    ((conv=>whnf);repeat'((first|(show(_=true→_)∧(_=false→_);first|refine gT ?_|refine gF ?_|refine gS ?_ ?_<;>(intro _h;try contradiction))|(show(_=false→_)∧(_=true→_);first|refine gU ?_|refine gV ?_|refine gZ ?_ ?_<;>(intro _h;try contradiction))|(intro _h;try contradiction)|(show _∧_;refine gA ?_)|fail);all_goals conv=>whnf))
    refine acallI (b_head alg) rfl fun r hr => ?_
    subst hr
    ((conv=>whnf);repeat'((first|(show(_=true→_)∧(_=false→_);first|refine gT ?_|refine gF ?_|refine gS ?_ ?_<;>(intro _h;try contradiction))|(show(_=false→_)∧(_=true→_);first|refine gU ?_|refine gV ?_|refine gZ ?_ ?_<;>(intro _h;try contradiction))|(intro _h;try contradiction)|(show _∧_;refine gA ?_)|fail);all_goals conv=>whnf))
    have hfl : [[0], headS alg, d].flatten.length = 20 + d.length := by simp [headS_len]; omega
    refine acallI (k_concat [[0], headS alg, d] (by omega) (by omega) (by simp)) rfl fun r hr => ?_
    subst hr
    obtain ⟨tl, htl⟩ : ∃ tl, tl = [[0], headS alg, d].flatten := ⟨_, rfl⟩
    rw [← htl] at hfl ⊢
    have e1 : IntKind.i64.wrap (IntKind.i64.wrap ((tl.length : Int) + 8) + 2) = 30 + d.length := by
      rw [wrap_i64 (n := (tl.length : Int) + 8) (by omega) (by omega), wrap_i64 (by omega) (by omega)]; omega
    ((conv=>whnf);repeat'((first|(show(_=true→_)∧(_=false→_);first|refine gT ?_|refine gF ?_|refine gS ?_ ?_<;>(intro _h;try contradiction))|(show(_=false→_)∧(_=true→_);first|refine gU ?_|refine gV ?_|refine gZ ?_ ?_<;>(intro _h;try contradiction))|(intro _h;try contradiction)|(show _∧_;refine gA ?_)|fail);all_goals conv=>whnf))
    · refine Ends.imm rfl ?_
      unfold blockV
      rw [if_neg h0, if_neg (by omega), if_pos (.inr (by omega))]
    · have e2 : IntKind.i64.wrap (IntKind.i64.wrap (size - 2) - (tl.length : Int)) = ((size.toNat - 22 - d.length : Nat) : Int) := by
        rw [wrap_i64 (n := size - 2) (by omega) (by omega), wrap_i64 (by omega) (by omega)]; omega
      refine acallI (s_repeat 255 (by omega) (size.toNat - 22 - d.length) (by omega)) (by rw [← e2]; rfl) fun r hr => ?_
      subst hr
      ((conv=>whnf);repeat'((first|(show(_=true→_)∧(_=false→_);first|refine gT ?_|refine gF ?_|refine gS ?_ ?_<;>(intro _h;try contradiction))|(show(_=false→_)∧(_=true→_);first|refine gU ?_|refine gV ?_|refine gZ ?_ ?_<;>(intro _h;try contradiction))|(intro _h;try contradiction)|(show _∧_;refine gA ?_)|fail);all_goals conv=>whnf))
      have hfl2 : [[0, 1], List.replicate (size.toNat - 22 - d.length) 255, tl].flatten.length = 2 + (size.toNat - 22 - d.length) + tl.length := by simp; omega
      refine acallI (k_concat [[0, 1], List.replicate (size.toNat - 22 - d.length) 255, tl] (by omega) (by omega) (by simp)) rfl fun r hr => ?_
      subst hr
      ((conv=>whnf);repeat'((first|(show(_=true→_)∧(_=false→_);first|refine gT ?_|refine gF ?_|refine gS ?_ ?_<;>(intro _h;try contradiction))|(show(_=false→_)∧(_=true→_);first|refine gU ?_|refine gV ?_|refine gZ ?_ ?_<;>(intro _h;try contradiction))|(intro _h;try contradiction)|(show _∧_;refine gA ?_)|fail);all_goals conv=>whnf))
      refine Ends.imm rfl ?_
      unfold blockV
      rw [if_neg h0, if_neg (by omega), if_neg (by omega), htl]
      unfold blockB
      simp
    · refine Ends.imm rfl ?_
      unfold blockV
      rw [if_neg h0, if_neg (by omega), if_pos (.inl (by omega))]
  · have h1' : ¬ (d.length : Int) = ((sizeS alg : Nat) : Int) := by omega
    ((conv=>whnf);repeat'((first|(show(_=true→_)∧(_=false→_);first|refine gT ?_|refine gF ?_|refine gS ?_ ?_<;>(intro _h;try contradiction))|(show(_=false→_)∧(_=true→_);first|refine gU ?_|refine gV ?_|refine gZ ?_ ?_<;>(intro _h;try contradiction))|(intro _h;try contradiction)|(show _∧_;refine gA ?_)|fail);all_goals conv=>whnf))
    refine Ends.imm rfl ?_
    unfold blockV
    rw [if_neg h0, if_pos h1]

/-- The four tables of numbers. -/
structure Tabs4 : Prop where
  rs : Globs.gl 4 = some ROUNDS
  fs : Globs.gl 2 = some FIRST
  rl : Globs.gl 3 = some L.ROUNDS
  fl : Globs.gl 1 = some L.FIRST

/-- What a digest comes to. -/
def digV (alg : Int) (salt all : List Int) : AVal :=
  if sizeS alg = 0 then .tup [.nls (byt []), i64 20] else if 64 < salt.length then .tup [.nls (byt []), i64 11] else .tup [.d (byt (digS alg (salt ++ all))), i64 0]

def toldDi : AW.Told := ⟨fun _ => false, fun r i => if r == 7 && i == 1 then [23] else if r == 8 && i == 1 then [25] else [], fun _ => .done⟩

theorem b_digest (hT : Tabs4) (alg : Int) (salt : List Int) (xss : List (List Int)) (hs : wfd salt) (hsl : salt.length ≤ LIM) (hw : ∀ x ∈ xss, wfd x) (hl : xss.flatten.length ≤ 1000000) (hx : xss.length ≤ 1000) :
    Imm Tryz.prog 11 [i64 alg, .d (byt salt), .d (.sl 1 (xss.map byt))] (fun r => r = digV alg salt xss.flatten) := by
  have hfc : (salt :: xss).flatten = salt ++ xss.flatten := by simp
  have hfl : (salt :: xss).flatten.length = salt.length + xss.flatten.length := by simp
  have hw' : ∀ x ∈ salt :: xss, wfd x := fun x hx => by
    rcases List.mem_cons.1 hx with rfl | h
    · exact hs
    · exact hw x h
  (refine Imm.of_awp toldDi [] Tryz.func11 rfl (by decide) (Nat.le_of_ble_eq_true rfl) ?_; intro _w0 _S0 _E0 _B0; ((conv=>whnf);repeat'((first|(show(_=true→_)∧(_=false→_);first|refine nTt ?_|refine nFf ?_|refine gS ?_ ?_<;>(intro _h;try contradiction))|(show(_=false→_)∧(_=true→_);first|refine nU ?_|refine nV ?_|refine gZ ?_ ?_<;>(intro _h;try contradiction))|(intro _h;try contradiction)|(show _∧_;refine gA ?_)|fail);all_goals conv=>whnf)))
  refine acallI (b_size alg) rfl fun r hr => ?_
  subst hr
  by_cases h0 : sizeS alg = 0
  · have h0' : ((sizeS alg : Nat) : Int) = 0 := by omega
    ((conv=>whnf);repeat'((first|(show(_=true→_)∧(_=false→_);first|refine gT ?_|refine gF ?_|refine gS ?_ ?_<;>(intro _h;try contradiction))|(show(_=false→_)∧(_=true→_);first|refine gU ?_|refine gV ?_|refine gZ ?_ ?_<;>(intro _h;try contradiction))|(intro _h;try contradiction)|(show _∧_;refine gA ?_)|fail);all_goals conv=>whnf))
    refine Ends.imm rfl ?_
    unfold digV
    rw [if_pos h0]
  have h0' : ¬ ((sizeS alg : Nat) : Int) = 0 := by omega
  have ha := sizeS_pos.1 h0
  by_cases h1 : 64 < salt.length
  · have h1' : 64 < (salt.length : Int) := by omega
    ((conv=>whnf);repeat'((first|(show(_=true→_)∧(_=false→_);first|refine gT ?_|refine gF ?_|refine gS ?_ ?_<;>(intro _h;try contradiction))|(show(_=false→_)∧(_=true→_);first|refine gU ?_|refine gV ?_|refine gZ ?_ ?_<;>(intro _h;try contradiction))|(intro _h;try contradiction)|(show _∧_;refine gA ?_)|fail);all_goals conv=>whnf))
    refine Ends.imm rfl ?_
    unfold digV
    rw [if_neg h0, if_pos h1]
  have h1' : ¬ 64 < (salt.length : Int) := by omega
  ((conv=>whnf);repeat'((first|(show(_=true→_)∧(_=false→_);first|refine gT ?_|refine gF ?_|refine gS ?_ ?_<;>(intro _h;try contradiction))|(show(_=false→_)∧(_=true→_);first|refine gU ?_|refine gV ?_|refine gZ ?_ ?_<;>(intro _h;try contradiction))|(intro _h;try contradiction)|(show _∧_;refine gA ?_)|fail);all_goals conv=>whnf))
  refine ⟨by simp [D.size], ?_⟩
  ((conv=>whnf);repeat'((first|(show(_=true→_)∧(_=false→_);first|refine gT ?_|refine gF ?_|refine gS ?_ ?_<;>(intro _h;try contradiction))|(show(_=false→_)∧(_=true→_);first|refine gU ?_|refine gV ?_|refine gZ ?_ ?_<;>(intro _h;try contradiction))|(intro _h;try contradiction)|(show _∧_;refine gA ?_)|fail);all_goals conv=>whnf))
  refine ⟨by show (1 + (xss.map byt).length) * 24 ≤ 140737488355328; rw [List.length_map]; omega, ?_⟩
  have hm : [D.ints .u8 salt] ++ xss.map byt = (salt :: xss).map byt := rfl
  rw [hm]
  ((conv=>whnf);repeat'((first|(show(_=true→_)∧(_=false→_);first|refine gT ?_|refine gF ?_|refine gS ?_ ?_<;>(intro _h;try contradiction))|(show(_=false→_)∧(_=true→_);first|refine gU ?_|refine gV ?_|refine gZ ?_ ?_<;>(intro _h;try contradiction))|(intro _h;try contradiction)|(show _∧_;refine gA ?_)|fail);all_goals conv=>whnf))
  · refine acallI (L.s_of hT.rl hT.fl (salt :: xss) hw' (by omega) (by simp; omega)) rfl fun r hr => ?_
    subst hr
    ((conv=>whnf);repeat'((first|(show(_=true→_)∧(_=false→_);first|refine gT ?_|refine gF ?_|refine gS ?_ ?_<;>(intro _h;try contradiction))|(show(_=false→_)∧(_=true→_);first|refine gU ?_|refine gV ?_|refine gZ ?_ ?_<;>(intro _h;try contradiction))|(intro _h;try contradiction)|(show _∧_;refine gA ?_)|fail);all_goals conv=>whnf))
    refine Ends.imm rfl ?_
    unfold digV digS
    rw [if_neg h0, if_neg h1, if_pos (by assumption), hfc]
  · refine acallI (s_of hT.rs hT.fs (salt :: xss) hw' (by omega) (by simp; omega)) rfl fun r hr => ?_
    subst hr
    ((conv=>whnf);repeat'((first|(show(_=true→_)∧(_=false→_);first|refine gT ?_|refine gF ?_|refine gS ?_ ?_<;>(intro _h;try contradiction))|(show(_=false→_)∧(_=true→_);first|refine gU ?_|refine gV ?_|refine gZ ?_ ?_<;>(intro _h;try contradiction))|(intro _h;try contradiction)|(show _∧_;refine gA ?_)|fail);all_goals conv=>whnf))
    refine Ends.imm rfl ?_
    unfold digV digS
    rw [if_neg h0, if_neg h1, if_neg (by assumption), hfc]
theorem b_digestN (hT : Tabs4) (alg : Int) (xss : List (List Int)) (hw : ∀ x ∈ xss, wfd x) (hl : xss.flatten.length ≤ 1000000) (hx : xss.length ≤ 1000) :
    Imm Tryz.prog 11 [i64 alg, .nls (byt []), .d (.sl 1 (xss.map byt))] (fun r => r = digV alg [] xss.flatten) :=
  CSpec.args (b_digest hT alg [] xss (fun x hx => by simp at hx) (Nat.zero_le _) hw hl hx) fun w β S vs h => by
    simp only [VAll] at h ⊢
    obtain ⟨v1, r1, e1, h1, v2, r2, e2, h2, h3⟩ := h
    exact ⟨v1, r1, e1, h1, v2, r2, e2, nls_d h2, h3⟩

theorem digV_nil {alg : Int} {t : List Int} (h : sizeS alg ≠ 0) : digV alg [] t = .tup [.d (byt (digS alg t)), i64 0] := by
  unfold digV
  rw [if_neg h, if_neg (by simp)]
  rfl

/-- What a text's block comes to. -/
def tblV (alg : Int) (text : List Int) (size : Int) : AVal := if sizeS alg = 0 then .tup [.nls (byt []), i64 20] else blockV alg (digS alg text) size
theorem digS_le (alg : Int) (t : List Int) : (digS alg t).length ≤ 64 := by
  unfold digS
  split
  · rw [L.sumS_len]; omega
  · rw [sumS_len]; omega

def toldBk : AW.Told := ⟨fun _ => false, fun r i => if r == 1 && i == 3 then [13] else [], fun _ => .done⟩

theorem blockV_form (alg : Int) (d : List Int) (size : Int) : (∃ e, e ≠ 0 ∧ blockV alg d size = .tup [.nls (byt []), i64 e]) ∨ blockV alg d size = .tup [.d (byt (blockB alg d size.toNat)), i64 0] := by
  unfold blockV
  repeat' split
  · exact .inl ⟨20, by omega, rfl⟩
  · exact .inl ⟨12, by omega, rfl⟩
  · exact .inl ⟨21, by omega, rfl⟩
  · exact .inr rfl

theorem b_tblock (hT : Tabs4) (alg : Int) (text : List Int) (size : Int) (ht : wfd text) (hl : text.length ≤ 1000000) :
    Imm Tryz.prog 20 [i64 alg, .d (byt text), i64 size] (fun r => r = tblV alg text size) := by
  (refine Imm.of_awp toldBk [] Tryz.func20 rfl (by decide) (Nat.le_of_ble_eq_true rfl) ?_; intro _w0 _S0 _E0 _B0; ((conv=>whnf);repeat'((first|(show(_=true→_)∧(_=false→_);first|refine nTt ?_|refine nFf ?_|refine gS ?_ ?_<;>(intro _h;try contradiction))|(show(_=false→_)∧(_=true→_);first|refine nU ?_|refine nV ?_|refine gZ ?_ ?_<;>(intro _h;try contradiction))|(intro _h;try contradiction)|(show _∧_;refine gA ?_)|fail);all_goals conv=>whnf)))
  refine acallI (b_digestN hT alg [text] (fun x hx => by simp at hx; subst hx; exact ht) (by simpa using hl) (by simp)) rfl fun r hr => ?_
  rw [List.flatten_cons, List.flatten_nil, List.append_nil] at hr
  by_cases h0 : sizeS alg = 0
  · unfold digV at hr
    rw [if_pos h0] at hr
    subst hr
    ((conv=>whnf);repeat'((first|(show(_=true→_)∧(_=false→_);first|refine gT ?_|refine gF ?_|refine gS ?_ ?_<;>(intro _h;try contradiction))|(show(_=false→_)∧(_=true→_);first|refine gU ?_|refine gV ?_|refine gZ ?_ ?_<;>(intro _h;try contradiction))|(intro _h;try contradiction)|(show _∧_;refine gA ?_)|fail);all_goals conv=>whnf))
    refine Ends.imm rfl ?_
    unfold tblV
    rw [if_pos h0]
  · rw [digV_nil h0] at hr
    subst hr
    have hdl := digS_le alg text
    obtain ⟨d, hd⟩ : ∃ d, d = digS alg text := ⟨_, rfl⟩
    have hdw : wfd d := by rw [hd]; exact digS_wfd _ _
    rw [← hd] at hdl ⊢
    ((conv=>whnf);repeat'((first|(show(_=true→_)∧(_=false→_);first|refine gT ?_|refine gF ?_|refine gS ?_ ?_<;>(intro _h;try contradiction))|(show(_=false→_)∧(_=true→_);first|refine gU ?_|refine gV ?_|refine gZ ?_ ?_<;>(intro _h;try contradiction))|(intro _h;try contradiction)|(show _∧_;refine gA ?_)|fail);all_goals conv=>whnf))
    refine acallI (b_block alg d size hdw (by unfold LIM; omega)) rfl fun r hr => ?_
    rcases blockV_form alg d size with ⟨e, _, he⟩ | he
    · rw [he] at hr
      subst hr
      ((conv=>whnf);repeat'((first|(show(_=true→_)∧(_=false→_);first|refine gT ?_|refine gF ?_|refine gS ?_ ?_<;>(intro _h;try contradiction))|(show(_=false→_)∧(_=true→_);first|refine gU ?_|refine gV ?_|refine gZ ?_ ?_<;>(intro _h;try contradiction))|(intro _h;try contradiction)|(show _∧_;refine gA ?_)|fail);all_goals conv=>whnf))
      refine Ends.imm rfl ?_
      unfold tblV
      rw [if_neg h0, ← hd, he]
    · rw [he] at hr
      subst hr
      ((conv=>whnf);repeat'((first|(show(_=true→_)∧(_=false→_);first|refine gT ?_|refine gF ?_|refine gS ?_ ?_<;>(intro _h;try contradiction))|(show(_=false→_)∧(_=true→_);first|refine gU ?_|refine gV ?_|refine gZ ?_ ?_<;>(intro _h;try contradiction))|(intro _h;try contradiction)|(show _∧_;refine gA ?_)|fail);all_goals conv=>whnf))
      refine Ends.imm rfl ?_
      unfold tblV
      rw [if_neg h0, ← hd, he]

theorem tblV_form (alg : Int) (text : List Int) (size : Int) : (∃ e, e ≠ 0 ∧ tblV alg text size = .tup [.nls (byt []), i64 e]) ∨ (sizeS alg ≠ 0 ∧ tblV alg text size = .tup [.d (byt (blockB alg (digS alg text) size.toNat)), i64 0]) := by
  unfold tblV
  split
  · exact .inl ⟨20, by omega, rfl⟩
  · rename_i h
    rcases blockV_form alg (digS alg text) size with h1 | h1
    · exact .inl h1
    · exact .inr ⟨h, h1⟩

theorem openB_powV (m sig : List Int) : (∃ e, e ≠ 0 ∧ powV m sig [1, 0, 1] = .tup [.nls (byt []), i64 e] ∧ openB m sig = none) ∨ ∃ zs, powV m sig [1, 0, 1] = .tup [.d (byt zs), i64 0] ∧ openB m sig = some zs := by
  have ev0 : ev [1, 0, 1] = 65537 := by decide
  unfold powV openB
  rw [ev0]
  by_cases h1 : sig.length = m.length
  · by_cases h2 : bn m ≤ bn sig
    · exact .inl ⟨13, by omega, by rw [if_neg (by omega), if_pos h2], by rw [if_neg (by omega)]⟩
    · exact .inr ⟨_, by rw [if_neg (by omega), if_neg h2, if_neg (by simp)], by rw [if_pos ⟨h1, by omega⟩]⟩
  · exact .inl ⟨24, by omega, by rw [if_pos h1], by rw [if_neg (fun h => h1 h.1)]⟩

theorem tblV_eq (alg : Int) (text : List Int) (m : List Int) : (∃ e, e ≠ 0 ∧ tblV alg text m.length = .tup [.nls (byt []), i64 e] ∧ ∀ sig, verV m alg text sig = e) ∨
    (tblV alg text m.length = .tup [.d (byt (blockB alg (digS alg text) m.length)), i64 0] ∧ ∀ sig, verV m alg text sig = if openB m sig = some (blockB alg (digS alg text) m.length) then 0 else 23) := by
  unfold tblV verV blockV
  by_cases h0 : sizeS alg = 0
  · exact .inl ⟨20, by omega, by rw [if_pos h0], fun _ => by rw [if_pos h0]⟩
  have hd := digS_len alg text (sizeS_pos.1 h0)
  by_cases h1 : 512 < (m.length : Int) ∨ (m.length : Int) < 30 + (sizeS alg : Int)
  · exact .inl ⟨21, by omega, by rw [if_neg h0, if_neg h0, if_neg (by omega), hd, if_pos h1], fun _ => by rw [if_neg h0, if_pos h1]⟩
  · exact .inr ⟨by rw [if_neg h0, if_neg h0, if_neg (by omega), hd, if_neg h1, Int.toNat_natCast], fun _ => by rw [if_neg h0, if_neg h1]⟩

theorem b_verify (hT : Tabs4) (hE : Globs.gl 0 = some EXP) (m n : List Int) (n0 : Int) (rr : List Int) (h : Key m n n0 rr) (alg : Int) (text sig : List Int) (ht : wfd text) (hl : text.length ≤ 1000000) (hs : wfd sig) :
    Imm Tryz.prog 6 [.d (keyD m n n0 rr), i64 alg, .d (byt text), .d (byt sig)] (fun r => r = i64 (verV m alg text sig)) := by
  (refine Imm.of_awp told0 [] Tryz.func6 rfl (by decide) (Nat.le_of_ble_eq_true rfl) ?_; intro _w0 _S0 _E0 _B0; ((conv=>whnf);repeat'((first|(show(_=true→_)∧(_=false→_);first|refine nTt ?_|refine nFf ?_|refine gS ?_ ?_<;>(intro _h;try contradiction))|(show(_=false→_)∧(_=true→_);first|refine nU ?_|refine nV ?_|refine gZ ?_ ?_<;>(intro _h;try contradiction))|(intro _h;try contradiction)|(show _∧_;refine gA ?_)|fail);all_goals conv=>whnf)))
  refine acallI (k_size m n n0 rr) rfl fun r hr => ?_
  subst hr
  ((conv=>whnf);repeat'((first|(show(_=true→_)∧(_=false→_);first|refine gT ?_|refine gF ?_|refine gS ?_ ?_<;>(intro _h;try contradiction))|(show(_=false→_)∧(_=true→_);first|refine gU ?_|refine gV ?_|refine gZ ?_ ?_<;>(intro _h;try contradiction))|(intro _h;try contradiction)|(show _∧_;refine gA ?_)|fail);all_goals conv=>whnf))
  refine acallI (b_tblock hT alg text m.length ht hl) rfl fun r hr => ?_
  rcases tblV_eq alg text m with ⟨e, he0, he, hv⟩ | ⟨he, hv⟩
  · rw [he] at hr
    subst hr
    ((conv=>whnf);repeat'((first|(show(_=true→_)∧(_=false→_);first|refine gT ?_|refine gF ?_|refine gS ?_ ?_<;>(intro _h;try contradiction))|(show(_=false→_)∧(_=true→_);first|refine gU ?_|refine gV ?_|refine gZ ?_ ?_<;>(intro _h;try contradiction))|(intro _h;try contradiction)|(show _∧_;refine gA ?_)|fail);all_goals conv=>whnf))
    exact Ends.imm rfl (by rw [hv])
  · rw [he] at hr
    subst hr
    obtain ⟨B, hB⟩ : ∃ B, B = blockB alg (digS alg text) m.length := ⟨_, rfl⟩
    rw [← hB] at hv ⊢
    ((conv=>whnf);repeat'((first|(show(_=true→_)∧(_=false→_);first|refine gT ?_|refine gF ?_|refine gS ?_ ?_<;>(intro _h;try contradiction))|(show(_=false→_)∧(_=true→_);first|refine gU ?_|refine gV ?_|refine gZ ?_ ?_<;>(intro _h;try contradiction))|(intro _h;try contradiction)|(show _∧_;refine gA ?_)|fail);all_goals conv=>whnf))
    refine acallI (k_open hE m n n0 rr h sig hs) rfl fun r hr => ?_
    rcases openB_powV m sig with ⟨e, he0, hp, ho⟩ | ⟨zs, hp, ho⟩
    · rw [hp] at hr
      subst hr
      ((conv=>whnf);repeat'((first|(show(_=true→_)∧(_=false→_);first|refine gT ?_|refine gF ?_|refine gS ?_ ?_<;>(intro _h;try contradiction))|(show(_=false→_)∧(_=true→_);first|refine gU ?_|refine gV ?_|refine gZ ?_ ?_<;>(intro _h;try contradiction))|(intro _h;try contradiction)|(show _∧_;refine gA ?_)|fail);all_goals conv=>whnf))
      refine Ends.imm rfl ?_
      rw [hv, ho, if_neg (by simp)]
    · rw [hp] at hr
      subst hr
      ((conv=>whnf);repeat'((first|(show(_=true→_)∧(_=false→_);first|refine gT ?_|refine gF ?_|refine gS ?_ ?_<;>(intro _h;try contradiction))|(show(_=false→_)∧(_=true→_);first|refine gU ?_|refine gV ?_|refine gZ ?_ ?_<;>(intro _h;try contradiction))|(intro _h;try contradiction)|(show _∧_;refine gA ?_)|fail);all_goals conv=>whnf))
      refine acallI (k_equal zs B) rfl fun r hr => ?_
      subst hr
      by_cases hz : zs = B
      · have hz' : decide (zs = B) = true := decide_eq_true hz
        rw [hz']
        ((conv=>whnf);repeat'((first|(show(_=true→_)∧(_=false→_);first|refine gT ?_|refine gF ?_|refine gS ?_ ?_<;>(intro _h;try contradiction))|(show(_=false→_)∧(_=true→_);first|refine gU ?_|refine gV ?_|refine gZ ?_ ?_<;>(intro _h;try contradiction))|(intro _h;try contradiction)|(show _∧_;refine gA ?_)|fail);all_goals conv=>whnf))
        refine Ends.imm rfl ?_
        rw [hv, ho, hz, if_pos rfl]
      · have hz' : decide (zs = B) = false := decide_eq_false hz
        rw [hz']
        ((conv=>whnf);repeat'((first|(show(_=true→_)∧(_=false→_);first|refine gT ?_|refine gF ?_|refine gS ?_ ?_<;>(intro _h;try contradiction))|(show(_=false→_)∧(_=true→_);first|refine gU ?_|refine gV ?_|refine gZ ?_ ?_<;>(intro _h;try contradiction))|(intro _h;try contradiction)|(show _∧_;refine gA ?_)|fail);all_goals conv=>whnf))
        refine Ends.imm rfl ?_
        rw [hv, ho, if_neg (by simpa using hz)]

/-- What a signature comes to. -/
def sgnV (m secret : List Int) (alg : Int) (text : List Int) : AVal :=
  if sizeS alg = 0 then .tup [.nls (byt []), i64 20]
  else if notMod m ≠ 0 then .tup [.nls (byt []), i64 (notMod m)]
  else if (m.length : Int) < 30 + (sizeS alg : Int) then .tup [.nls (byt []), i64 21]
  else powV m (blockB alg (digS alg text) m.length) secret

theorem b_sign (hT : Tabs4) (m secret : List Int) (alg : Int) (text : List Int) (hm : wfd m) (hml : m.length ≤ LIM) (hs : wfd secret) (ht : wfd text) (hl : text.length ≤ 1000000) :
    Imm Tryz.prog 12 [.d (byt m), .d (byt secret), i64 alg, .d (byt text)] (fun r => r = sgnV m secret alg text) := by
  (refine Imm.of_awp told0 [] Tryz.func12 rfl (by decide) (Nat.le_of_ble_eq_true rfl) ?_; intro _w0 _S0 _E0 _B0; ((conv=>whnf);repeat'((first|(show(_=true→_)∧(_=false→_);first|refine nTt ?_|refine nFf ?_|refine gS ?_ ?_<;>(intro _h;try contradiction))|(show(_=false→_)∧(_=true→_);first|refine nU ?_|refine nV ?_|refine gZ ?_ ?_<;>(intro _h;try contradiction))|(intro _h;try contradiction)|(show _∧_;refine gA ?_)|fail);all_goals conv=>whnf)))
  refine acallI (b_size alg) rfl fun r hr => ?_
  subst hr
  by_cases h0 : sizeS alg = 0
  · have h0' : ((sizeS alg : Nat) : Int) = 0 := by omega
    ((conv=>whnf);repeat'((first|(show(_=true→_)∧(_=false→_);first|refine gT ?_|refine gF ?_|refine gS ?_ ?_<;>(intro _h;try contradiction))|(show(_=false→_)∧(_=true→_);first|refine gU ?_|refine gV ?_|refine gZ ?_ ?_<;>(intro _h;try contradiction))|(intro _h;try contradiction)|(show _∧_;refine gA ?_)|fail);all_goals conv=>whnf))
    refine Ends.imm rfl ?_
    unfold sgnV
    rw [if_pos h0]
  have h0' : ¬ ((sizeS alg : Nat) : Int) = 0 := by omega
  ((conv=>whnf);repeat'((first|(show(_=true→_)∧(_=false→_);first|refine gT ?_|refine gF ?_|refine gS ?_ ?_<;>(intro _h;try contradiction))|(show(_=false→_)∧(_=true→_);first|refine gU ?_|refine gV ?_|refine gZ ?_ ?_<;>(intro _h;try contradiction))|(intro _h;try contradiction)|(show _∧_;refine gA ?_)|fail);all_goals conv=>whnf))
  refine acallI (k_make m hm hml) rfl fun r hr => ?_
  by_cases hn : notMod m ≠ 0
  · rw [if_pos hn] at hr
    subst hr
    ((conv=>whnf);repeat'((first|(show(_=true→_)∧(_=false→_);first|refine gT ?_|refine gF ?_|refine gS ?_ ?_<;>(intro _h;try contradiction))|(show(_=false→_)∧(_=true→_);first|refine gU ?_|refine gV ?_|refine gZ ?_ ?_<;>(intro _h;try contradiction))|(intro _h;try contradiction)|(show _∧_;refine gA ?_)|fail);all_goals conv=>whnf))
    refine Ends.imm rfl ?_
    unfold sgnV
    rw [if_neg h0, if_pos hn]
  · rw [if_neg hn] at hr
    obtain ⟨n, n0, rr, rfl, hk⟩ := hr
    obtain ⟨k1, k2, k3, k4⟩ := hk.pos
    have k5 := sized_spec.1 k4
    ((conv=>whnf);repeat'((first|(show(_=true→_)∧(_=false→_);first|refine gT ?_|refine gF ?_|refine gS ?_ ?_<;>(intro _h;try contradiction))|(show(_=false→_)∧(_=true→_);first|refine gU ?_|refine gV ?_|refine gZ ?_ ?_<;>(intro _h;try contradiction))|(intro _h;try contradiction)|(show _∧_;refine gA ?_)|fail);all_goals conv=>whnf))
    refine acallI (b_tblock hT alg text m.length ht hl) rfl fun r hr => ?_
    have hdl := digS_len alg text (sizeS_pos.1 h0)
    by_cases h1 : (m.length : Int) < 30 + (sizeS alg : Int)
    · have e : tblV alg text m.length = .tup [.nls (byt []), i64 21] := by
        unfold tblV blockV
        rw [if_neg h0, if_neg h0, if_neg (by omega), hdl, if_pos (.inr h1)]
      rw [e] at hr
      subst hr
      ((conv=>whnf);repeat'((first|(show(_=true→_)∧(_=false→_);first|refine gT ?_|refine gF ?_|refine gS ?_ ?_<;>(intro _h;try contradiction))|(show(_=false→_)∧(_=true→_);first|refine gU ?_|refine gV ?_|refine gZ ?_ ?_<;>(intro _h;try contradiction))|(intro _h;try contradiction)|(show _∧_;refine gA ?_)|fail);all_goals conv=>whnf))
      refine Ends.imm rfl ?_
      unfold sgnV
      rw [if_neg h0, if_neg hn, if_pos h1]
    · have e : tblV alg text m.length = .tup [.d (byt (blockB alg (digS alg text) m.length)), i64 0] := by
        unfold tblV blockV
        rw [if_neg h0, if_neg h0, if_neg (by omega), hdl, if_neg (by omega), Int.toNat_natCast]
      rw [e] at hr
      subst hr
      obtain ⟨B, hB⟩ : ∃ B, B = blockB alg (digS alg text) m.length := ⟨_, rfl⟩
      have hBw : wfd B := by rw [hB]; exact blockB_wfd (digS_wfd _ _)
      rw [← hB]
      ((conv=>whnf);repeat'((first|(show(_=true→_)∧(_=false→_);first|refine gT ?_|refine gF ?_|refine gS ?_ ?_<;>(intro _h;try contradiction))|(show(_=false→_)∧(_=true→_);first|refine gU ?_|refine gV ?_|refine gZ ?_ ?_<;>(intro _h;try contradiction))|(intro _h;try contradiction)|(show _∧_;refine gA ?_)|fail);all_goals conv=>whnf))
      refine acallI (k_close m secret B hm hs hBw hml) rfl fun r hr => ?_
      rw [if_neg hn] at hr
      have hres : sgnV m secret alg text = powV m B secret := by
        unfold sgnV
        rw [if_neg h0, if_neg hn, if_neg h1, ← hB]
      rcases powV_form m B secret with ⟨e, he⟩ | ⟨zs, he⟩ <;> rw [he] at hr hres <;> subst hr
      · ((conv=>whnf);repeat'((first|(show(_=true→_)∧(_=false→_);first|refine gT ?_|refine gF ?_|refine gS ?_ ?_<;>(intro _h;try contradiction))|(show(_=false→_)∧(_=true→_);first|refine gU ?_|refine gV ?_|refine gZ ?_ ?_<;>(intro _h;try contradiction))|(intro _h;try contradiction)|(show _∧_;refine gA ?_)|fail);all_goals conv=>whnf))
        exact Ends.imm rfl hres.symm
      · ((conv=>whnf);repeat'((first|(show(_=true→_)∧(_=false→_);first|refine gT ?_|refine gF ?_|refine gS ?_ ?_<;>(intro _h;try contradiction))|(show(_=false→_)∧(_=true→_);first|refine gU ?_|refine gV ?_|refine gZ ?_ ?_<;>(intro _h;try contradiction))|(intro _h;try contradiction)|(show _∧_;refine gA ?_)|fail);all_goals conv=>whnf))
        exact Ends.imm rfl hres.symm

def toldRD : AW.Told := ⟨fun _ => false, fun r i => if (r == 4 || r == 5) && i == 1 then [7] else [], fun _ => .done⟩

theorem b_refDigest (alg : Int) (salt text : List Int) (ha : alg = 1 ∨ alg = 2) (hs : wfd salt) (ht : wfd text) (hsl : salt.length ≤ 1000000) (hl : text.length ≤ 1000000) :
    Imm Tryz.prog 9 [i64 alg, .d (byt salt), .d (byt text)] (fun r => r = .d (byt (digS alg (salt ++ text)))) := by
  (refine Imm.of_awp toldRD [] Tryz.func9 rfl (by decide) (Nat.le_of_ble_eq_true rfl) ?_; intro _w0 _S0 _E0 _B0; ((conv=>whnf);repeat'((first|(show(_=true→_)∧(_=false→_);first|refine nTt ?_|refine nFf ?_|refine gS ?_ ?_<;>(intro _h;try contradiction))|(show(_=false→_)∧(_=true→_);first|refine nU ?_|refine nV ?_|refine gZ ?_ ?_<;>(intro _h;try contradiction))|(intro _h;try contradiction)|(show _∧_;refine gA ?_)|fail);all_goals conv=>whnf)))
  refine ⟨by show (0 + salt.length) * 1 ≤ 140737488355328; omega, ?_⟩
  ((conv=>whnf);repeat'((first|(show(_=true→_)∧(_=false→_);first|refine gT ?_|refine gF ?_|refine gS ?_ ?_<;>(intro _h;try contradiction))|(show(_=false→_)∧(_=true→_);first|refine gU ?_|refine gV ?_|refine gZ ?_ ?_<;>(intro _h;try contradiction))|(intro _h;try contradiction)|(show _∧_;refine gA ?_)|fail);all_goals conv=>whnf))
  refine ⟨by show (salt.length + text.length) * 1 ≤ 140737488355328; omega, ?_⟩
  obtain ⟨all, hall⟩ : ∃ all, all = [] ++ salt ++ text := ⟨_, rfl⟩
  have hal : all.length = salt.length + text.length := by rw [hall, List.nil_append, List.length_append]
  have haw : wfd all := by rw [hall, List.nil_append]; exact hs.append ht
  rw [← hall]
  ((conv=>whnf);repeat'((first|(show(_=true→_)∧(_=false→_);first|refine gT ?_|refine gF ?_|refine gS ?_ ?_<;>(intro _h;try contradiction))|(show(_=false→_)∧(_=true→_);first|refine gU ?_|refine gV ?_|refine gZ ?_ ?_<;>(intro _h;try contradiction))|(intro _h;try contradiction)|(show _∧_;refine gA ?_)|fail);all_goals conv=>whnf))
  · refine acallI (s_refSum all haw (by omega)) rfl fun r hr => ?_
    subst hr
    ((conv=>whnf);repeat'((first|(show(_=true→_)∧(_=false→_);first|refine gT ?_|refine gF ?_|refine gS ?_ ?_<;>(intro _h;try contradiction))|(show(_=false→_)∧(_=true→_);first|refine gU ?_|refine gV ?_|refine gZ ?_ ?_<;>(intro _h;try contradiction))|(intro _h;try contradiction)|(show _∧_;refine gA ?_)|fail);all_goals conv=>whnf))
    refine Ends.imm rfl ?_
    unfold digS
    rw [if_neg (by omega), hall, List.nil_append]
  · refine acallI (L.s_refSum all haw (by omega)) rfl fun r hr => ?_
    subst hr
    ((conv=>whnf);repeat'((first|(show(_=true→_)∧(_=false→_);first|refine gT ?_|refine gF ?_|refine gS ?_ ?_<;>(intro _h;try contradiction))|(show(_=false→_)∧(_=true→_);first|refine gU ?_|refine gV ?_|refine gZ ?_ ?_<;>(intro _h;try contradiction))|(intro _h;try contradiction)|(show _∧_;refine gA ?_)|fail);all_goals conv=>whnf))
    refine Ends.imm rfl ?_
    unfold digS
    rw [if_pos (by omega), hall, List.nil_append]

theorem b_refDigestN (alg : Int) (text : List Int) (ha : alg = 1 ∨ alg = 2) (ht : wfd text) (hl : text.length ≤ 1000000) :
    Imm Tryz.prog 9 [i64 alg, .nls (byt []), .d (byt text)] (fun r => r = .d (byt (digS alg text))) :=
  CSpec.args (b_refDigest alg [] text ha (fun x hx => by simp at hx) ht (Nat.zero_le _) hl) fun w β S vs h => by
    simp only [VAll] at h ⊢
    obtain ⟨v1, r1, e1, h1, v2, r2, e2, h2, h3⟩ := h
    exact ⟨v1, r1, e1, h1, v2, r2, e2, nls_d h2, h3⟩

def toldRB : AW.Told := ⟨fun f => f == 1008003, fun _ _ => [], fun _ => .done⟩

theorem b_refBlock (alg : Int) (d : List Int) (size : Int) (ha : alg = 1 ∨ alg = 2) (hd : wfd d) (hl : d.length = sizeS alg) :
    Imm Tryz.prog 8 [i64 alg, .d (byt d), i64 size] (fun r => r = if 512 < size ∨ size < 30 + (d.length : Int) then .tup [.nls (byt []), i64 21] else .tup [.d (byt (blockB alg d size.toNat)), i64 0]) := by
  have hsz : sizeS alg ≤ 64 := by unfold sizeS; (repeat' split) <;> omega
  have hhl := headS_len alg
  obtain ⟨hd0, hhd0⟩ : ∃ hd0, hd0 = headS alg := ⟨_, rfl⟩
  have hrh := b_refHead alg ha
  rw [← hhd0] at hrh hhl
  (refine Imm.of_awp toldRB [6] Tryz.func8 rfl (by decide) (Nat.le_of_ble_eq_true rfl) ?_; intro _w0 _S0 _E0 _B0; ((conv=>whnf);repeat'((first|(show(_=true→_)∧(_=false→_);first|refine nTt ?_|refine nFf ?_|refine gS ?_ ?_<;>(intro _h;try contradiction))|(show(_=false→_)∧(_=true→_);first|refine nU ?_|refine nV ?_|refine gZ ?_ ?_<;>(intro _h;try contradiction))|(intro _h;try contradiction)|(show _∧_;refine gA ?_)|fail);all_goals conv=>whnf)))
  refine acallI hrh rfl fun r hr => ?_
  subst hr
  have e1 : IntKind.i64.wrap (IntKind.i64.wrap (3 + (hd0.length : Int)) + (d.length : Int)) = 22 + d.length := by
    rw [wrap_i64 (n := 3 + (hd0.length : Int)) (by omega) (by omega), wrap_i64 (by omega) (by omega)]; omega
  have e2 : IntKind.i64.wrap (22 + (d.length : Int) + 8) = 30 + d.length := by rw [wrap_i64 (by omega) (by omega)]; omega
  ((conv=>whnf);repeat'((first|(show(_=true→_)∧(_=false→_);first|refine gT ?_|refine gF ?_|refine gS ?_ ?_<;>(intro _h;try contradiction))|(show(_=false→_)∧(_=true→_);first|refine gU ?_|refine gV ?_|refine gZ ?_ ?_<;>(intro _h;try contradiction))|(intro _h;try contradiction)|(show _∧_;refine gA ?_)|fail);all_goals conv=>whnf))
  · refine Ends.imm rfl ?_
    rw [e1] at *
    rw [if_pos (.inr (by omega))]
  · obtain ⟨N, hN⟩ : ∃ N : Nat, N = size.toNat - 22 - d.length := ⟨_, rfl⟩
    have e3 : IntKind.i64.wrap (IntKind.i64.wrap (size - (22 + (d.length : Int))) + 2) = ((2 + N : Nat) : Int) := by
      rw [e1] at *
      rw [wrap_i64 (n := size - (22 + (d.length : Int))) (by omega) (by omega), wrap_i64 (by omega) (by omega)]; omega
    refine aloop (T := toldRB) (ι := Nat) (fun k => [(0, i64 alg), (1, .d (byt d)), (2, i64 size), (8, i64 (22 + (d.length : Int))), (9, .own 0)]) (fun k => [(0, .row .u8 5 ([0, 1] ++ List.replicate k 255))]) 46 1
      (fun k => N - k) (fun k => k ≤ N)
      ⟨0, [0], rfl, by omega, ?_⟩ ?_
    · (refine ⟨rfl, rfl, ?_, ?_⟩ <;> repeat' (first | exact True.intro | rfl | decide | (refine And.intro ?_ ?_)))
      exact di e1
    intro k hk
    have hrl : ([0, 1] ++ List.replicate k 255 : List Int).length = 2 + k := by simp; omega
    rcases Nat.lt_or_ge k N with hkN | hkN
    · have hc : (([0, 1] ++ List.replicate k 255 : List Int).length : Int) < IntKind.i64.wrap (IntKind.i64.wrap (size - (22 + (d.length : Int))) + 2) := by rw [e3, hrl]; omega
      ((conv=>whnf);repeat'((first|(show(_=true→_)∧(_=false→_);first|refine gT ?_|refine gF ?_|refine gS ?_ ?_<;>(intro _h;try contradiction))|(show(_=false→_)∧(_=true→_);first|refine gU ?_|refine gV ?_|refine gZ ?_ ?_<;>(intro _h;try contradiction))|(intro _h;try contradiction)|(show _∧_;refine gA ?_)|fail);all_goals conv=>whnf))
      refine ⟨by rw [hrl]; show (2 + k + 1) * 1 ≤ 140737488355328; rw [e1] at *; omega, ?_⟩
      ((conv=>whnf);repeat'((first|(show(_=true→_)∧(_=false→_);first|refine gT ?_|refine gF ?_|refine gS ?_ ?_<;>(intro _h;try contradiction))|(show(_=false→_)∧(_=true→_);first|refine gU ?_|refine gV ?_|refine gZ ?_ ?_<;>(intro _h;try contradiction))|(intro _h;try contradiction)|(show _∧_;refine gA ?_)|fail);all_goals conv=>whnf))
      refine ⟨k + 1, [0], by omega, by omega, rfl, ?_⟩
      (refine ⟨rfl, rfl, ?_, ?_⟩ <;> repeat' (first | exact True.intro | rfl | decide | (refine And.intro ?_ ?_)))
      show some (Ob.row .u8 _ _) = some (Ob.row .u8 _ _)
      rw [List.replicate_succ', ← List.append_assoc]
    · have hkN' : k = N := by omega
      have hc : ¬ (([0, 1] ++ List.replicate k 255 : List Int).length : Int) < IntKind.i64.wrap (IntKind.i64.wrap (size - (22 + (d.length : Int))) + 2) := by rw [e3, hrl]; omega
      ((conv=>whnf);repeat'((first|(show(_=true→_)∧(_=false→_);first|refine gT ?_|refine gF ?_|refine gS ?_ ?_<;>(intro _h;try contradiction))|(show(_=false→_)∧(_=true→_);first|refine gU ?_|refine gV ?_|refine gZ ?_ ?_<;>(intro _h;try contradiction))|(intro _h;try contradiction)|(show _∧_;refine gA ?_)|fail);all_goals conv=>whnf))
      rw [e1] at *
      refine ⟨by rw [hrl]; show (2 + k + 1) * 1 ≤ 140737488355328; omega, ?_⟩
      ((conv=>whnf);repeat'((first|(show(_=true→_)∧(_=false→_);first|refine gT ?_|refine gF ?_|refine gS ?_ ?_<;>(intro _h;try contradiction))|(show(_=false→_)∧(_=true→_);first|refine gU ?_|refine gV ?_|refine gZ ?_ ?_<;>(intro _h;try contradiction))|(intro _h;try contradiction)|(show _∧_;refine gA ?_)|fail);all_goals conv=>whnf))
      refine acallI hrh rfl fun r hr => ?_
      subst hr
      ((conv=>whnf);repeat'((first|(show(_=true→_)∧(_=false→_);first|refine gT ?_|refine gF ?_|refine gS ?_ ?_<;>(intro _h;try contradiction))|(show(_=false→_)∧(_=true→_);first|refine gU ?_|refine gV ?_|refine gZ ?_ ?_<;>(intro _h;try contradiction))|(intro _h;try contradiction)|(show _∧_;refine gA ?_)|fail);all_goals conv=>whnf))
      refine ao_appS (ys := hd0) rfl rfl rfl rfl rfl rfl rfl rfl rfl rfl (by decide) (by omega) rfl (Nat.zero_le _) (fun h => Bool.noConfusion h) (by rw [List.length_append, hrl]; show (2 + k + 1 + hd0.length) * 1 ≤ 140737488355328; omega) ?_
      ((conv=>whnf);repeat'((first|(show(_=true→_)∧(_=false→_);first|refine gT ?_|refine gF ?_|refine gS ?_ ?_<;>(intro _h;try contradiction))|(show(_=false→_)∧(_=true→_);first|refine gU ?_|refine gV ?_|refine gZ ?_ ?_<;>(intro _h;try contradiction))|(intro _h;try contradiction)|(show _∧_;refine gA ?_)|fail);all_goals conv=>whnf))
      refine ⟨by show (([0, 1] ++ List.replicate k 255 ++ [0] ++ hd0 : List Int).length + d.length) * 1 ≤ 140737488355328; rw [List.length_append, List.length_append, hrl]; show (2 + k + 1 + hd0.length + d.length) * 1 ≤ 140737488355328; omega, ?_⟩
      ((conv=>whnf);repeat'((first|(show(_=true→_)∧(_=false→_);first|refine gT ?_|refine gF ?_|refine gS ?_ ?_<;>(intro _h;try contradiction))|(show(_=false→_)∧(_=true→_);first|refine gU ?_|refine gV ?_|refine gZ ?_ ?_<;>(intro _h;try contradiction))|(intro _h;try contradiction)|(show _∧_;refine gA ?_)|fail);all_goals conv=>whnf))
      refine Ends.imm rfl ?_
      rw [if_neg (by omega)]
      unfold blockB
      rw [hkN', hN, hhd0]
      simp
  · refine Ends.imm rfl ?_
    rw [if_pos (.inl (by omega))]

theorem b_signN (hT : Tabs4) (m secret : List Int) (alg : Int) (hm : wfd m) (hml : m.length ≤ LIM) (hs : wfd secret) :
    Imm Tryz.prog 12 [.d (byt m), .d (byt secret), i64 alg, .nls (byt [])] (fun r => r = sgnV m secret alg []) :=
  CSpec.args (b_sign hT m secret alg [] hm hml hs (fun x hx => by simp at hx) (by simp)) fun w β S vs h => by
    simp only [VAll] at h ⊢
    obtain ⟨v1, r1, e1, h1, v2, r2, e2, h2, v3, r3, e3, h3, v4, r4, e4, h4, h5⟩ := h
    exact ⟨v1, r1, e1, h1, v2, r2, e2, h2, v3, r3, e3, h3, v4, r4, e4, nls_d h4, h5⟩

def toldAn7 : AW.Told := ⟨fun f => f == 1001001 || f == 1001003 || f == 1001005 || f == 1003006 || f == 2000000, fun r i => if r == 1 && i == 7 then [12] else [], fun r => if r == 3 then .take 0 (.take 1 (.take 2 (.take 3 (.two 4 (.one 5 (.one 6 (.one 7 (.take 8 (.take 9 (.take 10 (.take 11 (.take 12 (.take 13 (.take 14 (.take 15 (.one 16 (.take 17 (.take 18 (.take 19 .done))))))))))))))) 5 (.two 4 (.one 6 (.one 7 (.take 8 (.take 9 (.take 10 (.take 11 (.take 12 (.take 13 (.take 14 (.take 15 (.one 16 (.take 17 (.take 18 (.take 19 .done)))))))))))))) 6 (.take 4 (.one 7 (.take 8 (.take 9 (.take 10 (.take 11 (.take 12 (.take 13 (.take 14 (.take 15 (.one 16 (.take 17 (.take 18 (.take 19 .done))))))))))))))))))) else .done⟩

theorem b_anchor (hT : Tabs4) : Imm Tryz.prog 4 [] (fun r => r = bool true) := by
  obtain ⟨dg, hdg⟩ : ∃ dg, dg = digS 1 [97, 98, 99] := ⟨_, rfl⟩
  have hd1 := b_digest hT 1 [97] [[98], [99]] (fun x hx => by simp at hx; omega) (by simp; unfold LIM; omega) (fun x hx => by simp at hx; rcases hx with rfl | rfl <;> (intro y hy; simp at hy; omega)) (by simp) (by simp)
  have hv1 : digV 1 [97] [[98], [99]].flatten = .tup [.d (byt dg), i64 0] := by rw [hdg]; rfl
  rw [hv1] at hd1
  have hd2 := b_refDigestN 1 [97, 98, 99] (.inl rfl) (fun x hx => by simp at hx; omega) (by simp)
  rw [← hdg] at hd2
  (refine Imm.of_awp toldAn7 [] Tryz.func4 rfl (by decide) (Nat.le_of_ble_eq_true rfl) ?_; intro _w0 _S0 _E0 _B0; ((conv=>whnf);repeat'((first|(show(_=true→_)∧(_=false→_);first|refine nTt ?_|refine nFf ?_|refine gS ?_ ?_<;>(intro _h;try contradiction))|(show(_=false→_)∧(_=true→_);first|refine nU ?_|refine nV ?_|refine gZ ?_ ?_<;>(intro _h;try contradiction))|(intro _h;try contradiction)|(show _∧_;refine gA ?_)|fail);all_goals conv=>whnf)))
  refine ao_convB rfl rfl rfl rfl rfl rfl (Nat.zero_le _) (by decide) (fun h => Bool.noConfusion h) ?_
  ((conv=>whnf);repeat'((first|(show(_=true→_)∧(_=false→_);first|refine gT ?_|refine gF ?_|refine gS ?_ ?_<;>(intro _h;try contradiction))|(show(_=false→_)∧(_=true→_);first|refine gU ?_|refine gV ?_|refine gZ ?_ ?_<;>(intro _h;try contradiction))|(intro _h;try contradiction)|(show _∧_;refine gA ?_)|fail);all_goals conv=>whnf))
  refine ao_convB rfl rfl rfl rfl rfl rfl (Nat.zero_le _) (by decide) (fun h => Bool.noConfusion h) ?_
  ((conv=>whnf);repeat'((first|(show(_=true→_)∧(_=false→_);first|refine gT ?_|refine gF ?_|refine gS ?_ ?_<;>(intro _h;try contradiction))|(show(_=false→_)∧(_=true→_);first|refine gU ?_|refine gV ?_|refine gZ ?_ ?_<;>(intro _h;try contradiction))|(intro _h;try contradiction)|(show _∧_;refine gA ?_)|fail);all_goals conv=>whnf))
  refine ao_convB rfl rfl rfl rfl rfl rfl (Nat.zero_le _) (by decide) (fun h => Bool.noConfusion h) ?_
  ((conv=>whnf);repeat'((first|(show(_=true→_)∧(_=false→_);first|refine gT ?_|refine gF ?_|refine gS ?_ ?_<;>(intro _h;try contradiction))|(show(_=false→_)∧(_=true→_);first|refine gU ?_|refine gV ?_|refine gZ ?_ ?_<;>(intro _h;try contradiction))|(intro _h;try contradiction)|(show _∧_;refine gA ?_)|fail);all_goals conv=>whnf))
  refine acallI hd1 rfl fun r hr => ?_
  subst hr
  ((conv=>whnf);repeat'((first|(show(_=true→_)∧(_=false→_);first|refine gT ?_|refine gF ?_|refine gS ?_ ?_<;>(intro _h;try contradiction))|(show(_=false→_)∧(_=true→_);first|refine gU ?_|refine gV ?_|refine gZ ?_ ?_<;>(intro _h;try contradiction))|(intro _h;try contradiction)|(show _∧_;refine gA ?_)|fail);all_goals conv=>whnf))
  refine acallI (k_modulus 0) rfl fun r hr => ?_
  subst hr
  ((conv=>whnf);repeat'((first|(show(_=true→_)∧(_=false→_);first|refine gT ?_|refine gF ?_|refine gS ?_ ?_<;>(intro _h;try contradiction))|(show(_=false→_)∧(_=true→_);first|refine gU ?_|refine gV ?_|refine gZ ?_ ?_<;>(intro _h;try contradiction))|(intro _h;try contradiction)|(show _∧_;refine gA ?_)|fail);all_goals conv=>whnf))
  refine acallI (k_secret 0) rfl fun r hr => ?_
  subst hr
  obtain ⟨m, hm⟩ : ∃ m, m = modB (idx 0) := ⟨_, rfl⟩
  obtain ⟨sc, hsc⟩ : ∃ sc, sc = secB (idx 0) := ⟨_, rfl⟩
  have hsg : sgnV m sc 2 [] = .tup [.nls (byt []), i64 21] := by
    have e : idx 0 = 0 := rfl
    have hn : notMod m = 0 := by rw [hm, e]; decide +kernel
    have hl : m.length = 64 := by rw [hm, e]; decide +kernel
    unfold sgnV
    rw [if_neg (by decide), if_neg (by simp [hn]), if_pos (by rw [hl]; decide)]
  have hb := b_signN hT m sc 2 (by rw [hm]; exact be_wfd _ _) (by rw [hm]; unfold modB; rw [be_length]; decide) (by rw [hsc]; exact be_wfd _ _)
  rw [hsg] at hb
  rw [← hm, ← hsc]
  ((conv=>whnf);repeat'((first|(show(_=true→_)∧(_=false→_);first|refine gT ?_|refine gF ?_|refine gS ?_ ?_<;>(intro _h;try contradiction))|(show(_=false→_)∧(_=true→_);first|refine gU ?_|refine gV ?_|refine gZ ?_ ?_<;>(intro _h;try contradiction))|(intro _h;try contradiction)|(show _∧_;refine gA ?_)|fail);all_goals conv=>whnf))
  refine acallI hb rfl fun r hr => ?_
  subst hr
  ((conv=>whnf);repeat'((first|(show(_=true→_)∧(_=false→_);first|refine gT ?_|refine gF ?_|refine gS ?_ ?_<;>(intro _h;try contradiction))|(show(_=false→_)∧(_=true→_);first|refine gU ?_|refine gV ?_|refine gZ ?_ ?_<;>(intro _h;try contradiction))|(intro _h;try contradiction)|(show _∧_;refine gA ?_)|fail);all_goals conv=>whnf))
  repeat' (first
    | (refine ao_convB rfl rfl rfl rfl rfl rfl (Nat.zero_le _) (by decide) (fun h => Bool.noConfusion h) ?_; ((conv=>whnf);repeat'((first|(show(_=true→_)∧(_=false→_);first|refine gT ?_|refine gF ?_|refine gS ?_ ?_<;>(intro _h;try contradiction))|(show(_=false→_)∧(_=true→_);first|refine gU ?_|refine gV ?_|refine gZ ?_ ?_<;>(intro _h;try contradiction))|(intro _h;try contradiction)|(show _∧_;refine gA ?_)|fail);all_goals conv=>whnf)))
    | (refine acallI hd2 rfl fun r hr => ?_; subst hr; ((conv=>whnf);repeat'((first|(show(_=true→_)∧(_=false→_);first|refine gT ?_|refine gF ?_|refine gS ?_ ?_<;>(intro _h;try contradiction))|(show(_=false→_)∧(_=true→_);first|refine gU ?_|refine gV ?_|refine gZ ?_ ?_<;>(intro _h;try contradiction))|(intro _h;try contradiction)|(show _∧_;refine gA ?_)|fail);all_goals conv=>whnf)))
    | (refine acallI (b_size 2) rfl fun r hr => ?_; subst hr; ((conv=>whnf);repeat'((first|(show(_=true→_)∧(_=false→_);first|refine gT ?_|refine gF ?_|refine gS ?_ ?_<;>(intro _h;try contradiction))|(show(_=false→_)∧(_=true→_);first|refine gU ?_|refine gV ?_|refine gZ ?_ ?_<;>(intro _h;try contradiction))|(intro _h;try contradiction)|(show _∧_;refine gA ?_)|fail);all_goals conv=>whnf)))
    | (refine And.intro ?_ ?_ <;> ((conv=>whnf);repeat'((first|(show(_=true→_)∧(_=false→_);first|refine gT ?_|refine gF ?_|refine gS ?_ ?_<;>(intro _h;try contradiction))|(show(_=false→_)∧(_=true→_);first|refine gU ?_|refine gV ?_|refine gZ ?_ ?_<;>(intro _h;try contradiction))|(intro _h;try contradiction)|(show _∧_;refine gA ?_)|fail);all_goals conv=>whnf))))
  all_goals exact Ends.imm rfl rfl

theorem l_sealHolds (hT : Tabs4) (hE : Globs.gl 0 = some EXP) (m : List Int) (alg : Int) (text sig : List Int) (hm : wfd m) (hml : m.length ≤ LIM) (ht : wfd text) (hs : wfd sig) :
    Imm Tryz.prog 3 [.d (byt m), i64 alg, .d (byt text), .d (byt sig)] (fun r => r = bool true) := by
  (refine Imm.of_awp told0 [] Tryz.func3 rfl (by decide) (Nat.le_of_ble_eq_true rfl) ?_; intro _w0 _S0 _E0 _B0; ((conv=>whnf);repeat'((first|(show(_=true→_)∧(_=false→_);first|refine nTt ?_|refine nFf ?_|refine gS ?_ ?_<;>(intro _h;try contradiction))|(show(_=false→_)∧(_=true→_);first|refine nU ?_|refine nV ?_|refine gZ ?_ ?_<;>(intro _h;try contradiction))|(intro _h;try contradiction)|(show _∧_;refine gA ?_)|fail);all_goals conv=>whnf)))
  refine acallI (b_anchor hT) rfl fun r hr => ?_
  subst hr
  ((conv=>whnf);repeat'((first|(show(_=true→_)∧(_=false→_);first|refine gT ?_|refine gF ?_|refine gS ?_ ?_<;>(intro _h;try contradiction))|(show(_=false→_)∧(_=true→_);first|refine gU ?_|refine gV ?_|refine gZ ?_ ?_<;>(intro _h;try contradiction))|(intro _h;try contradiction)|(show _∧_;refine gA ?_)|fail);all_goals conv=>whnf))
  all_goals first
    | exact Ends.imm rfl rfl
    | skip
  refine acallI (k_make m hm hml) rfl fun r hr => ?_
  by_cases hn : notMod m ≠ 0
  · rw [if_pos hn] at hr
    subst hr
    ((conv=>whnf);repeat'((first|(show(_=true→_)∧(_=false→_);first|refine gT ?_|refine gF ?_|refine gS ?_ ?_<;>(intro _h;try contradiction))|(show(_=false→_)∧(_=true→_);first|refine gU ?_|refine gV ?_|refine gZ ?_ ?_<;>(intro _h;try contradiction))|(intro _h;try contradiction)|(show _∧_;refine gA ?_)|fail);all_goals conv=>whnf))
    exact Ends.imm rfl rfl
  rw [if_neg hn] at hr
  obtain ⟨n, n0, rr, rfl, hk⟩ := hr
  obtain ⟨h1, h2, h3, hsz⟩ := hk.pos
  have hl4 := hk.len
  have hsz2 := sized_spec.1 hsz
  have hbn : 0 < bn m := by omega
  ((conv=>whnf);repeat'((first|(show(_=true→_)∧(_=false→_);first|refine gT ?_|refine gF ?_|refine gS ?_ ?_<;>(intro _h;try contradiction))|(show(_=false→_)∧(_=true→_);first|refine gU ?_|refine gV ?_|refine gZ ?_ ?_<;>(intro _h;try contradiction))|(intro _h;try contradiction)|(show _∧_;refine gA ?_)|fail);all_goals conv=>whnf))
  refine acallI (b_verify hT hE m n n0 rr hk alg text sig ht (by omega) hs) rfl fun r hr => ?_
  subst hr
  ((conv=>whnf);repeat'((first|(show(_=true→_)∧(_=false→_);first|refine gT ?_|refine gF ?_|refine gS ?_ ?_<;>(intro _h;try contradiction))|(show(_=false→_)∧(_=true→_);first|refine gU ?_|refine gV ?_|refine gZ ?_ ?_<;>(intro _h;try contradiction))|(intro _h;try contradiction)|(show _∧_;refine gA ?_)|fail);all_goals conv=>whnf))
  refine acallI (b_refSize alg) rfl fun r hr => ?_
  subst hr
  by_cases h0 : sizeS alg = 0
  · have h0' : ((sizeS alg : Nat) : Int) = 0 := by omega
    have hv : verV m alg text sig = 20 := by unfold verV; rw [if_pos h0]
    rw [hv]
    ((conv=>whnf);repeat'((first|(show(_=true→_)∧(_=false→_);first|refine gT ?_|refine gF ?_|refine gS ?_ ?_<;>(intro _h;try contradiction))|(show(_=false→_)∧(_=true→_);first|refine gU ?_|refine gV ?_|refine gZ ?_ ?_<;>(intro _h;try contradiction))|(intro _h;try contradiction)|(show _∧_;refine gA ?_)|fail);all_goals conv=>whnf))
    exact Ends.imm rfl rfl
  have h0' : ¬ ((sizeS alg : Nat) : Int) = 0 := by omega
  have ha := sizeS_pos.1 h0
  have hdl := digS_len alg text ha
  ((conv=>whnf);repeat'((first|(show(_=true→_)∧(_=false→_);first|refine gT ?_|refine gF ?_|refine gS ?_ ?_<;>(intro _h;try contradiction))|(show(_=false→_)∧(_=true→_);first|refine gU ?_|refine gV ?_|refine gZ ?_ ?_<;>(intro _h;try contradiction))|(intro _h;try contradiction)|(show _∧_;refine gA ?_)|fail);all_goals conv=>whnf))
  refine acallI (b_refDigestN alg text ha ht (by omega)) rfl fun r hr => ?_
  subst hr
  ((conv=>whnf);repeat'((first|(show(_=true→_)∧(_=false→_);first|refine gT ?_|refine gF ?_|refine gS ?_ ?_<;>(intro _h;try contradiction))|(show(_=false→_)∧(_=true→_);first|refine gU ?_|refine gV ?_|refine gZ ?_ ?_<;>(intro _h;try contradiction))|(intro _h;try contradiction)|(show _∧_;refine gA ?_)|fail);all_goals conv=>whnf))
  refine acallI (b_refBlock alg (digS alg text) m.length ha (digS_wfd _ _) hdl) rfl fun r hr => ?_
  rw [hdl] at hr
  by_cases hb : (m.length : Int) < 30 + (sizeS alg : Int)
  · rw [if_pos (.inr hb)] at hr
    subst hr
    have hv : verV m alg text sig = 21 := by unfold verV; rw [if_neg h0, if_pos (.inr hb)]
    rw [hv]
    ((conv=>whnf);repeat'((first|(show(_=true→_)∧(_=false→_);first|refine gT ?_|refine gF ?_|refine gS ?_ ?_<;>(intro _h;try contradiction))|(show(_=false→_)∧(_=true→_);first|refine gU ?_|refine gV ?_|refine gZ ?_ ?_<;>(intro _h;try contradiction))|(intro _h;try contradiction)|(show _∧_;refine gA ?_)|fail);all_goals conv=>whnf))
    exact Ends.imm rfl rfl
  rw [if_neg (by omega), Int.toNat_natCast] at hr
  subst hr
  have hv : verV m alg text sig = if openB m sig = some (blockB alg (digS alg text) m.length) then 0 else 23 := by unfold verV; rw [if_neg h0, if_neg (by omega)]
  obtain ⟨B, hB⟩ : ∃ B, B = blockB alg (digS alg text) m.length := ⟨_, rfl⟩
  rw [hv, ← hB]
  ((conv=>whnf);repeat'((first|(show(_=true→_)∧(_=false→_);first|refine gT ?_|refine gF ?_|refine gS ?_ ?_<;>(intro _h;try contradiction))|(show(_=false→_)∧(_=true→_);first|refine gU ?_|refine gV ?_|refine gZ ?_ ?_<;>(intro _h;try contradiction))|(intro _h;try contradiction)|(show _∧_;refine gA ?_)|fail);all_goals conv=>whnf))
  refine acallI (k_refOpen m sig hm hs hbn (by omega) (by omega) (by omega)) rfl fun r hr => ?_
  by_cases h5 : sig.length = m.length
  · rw [if_neg (by omega)] at hr
    by_cases h6 : bn m ≤ bn sig
    · rw [if_pos h6] at hr
      subst hr
      have ho : openB m sig = none := by unfold openB; rw [if_neg (by omega)]
      rw [ho, if_neg (by simp)]
      ((conv=>whnf);repeat'((first|(show(_=true→_)∧(_=false→_);first|refine gT ?_|refine gF ?_|refine gS ?_ ?_<;>(intro _h;try contradiction))|(show(_=false→_)∧(_=true→_);first|refine gU ?_|refine gV ?_|refine gZ ?_ ?_<;>(intro _h;try contradiction))|(intro _h;try contradiction)|(show _∧_;refine gA ?_)|fail);all_goals conv=>whnf))
      exact Ends.imm rfl rfl
    · rw [if_neg h6] at hr
      subst hr
      have ho : openB m sig = some (be m.length (bn sig ^ 65537 % bn m).toNat) := by unfold openB; rw [if_pos ⟨h5, by omega⟩]
      rw [ho]
      obtain ⟨zs, hz⟩ : ∃ zs, zs = be m.length (bn sig ^ 65537 % bn m).toNat := ⟨_, rfl⟩
      rw [← hz]
      by_cases h7 : zs = B
      · rw [if_pos (by rw [h7])]
        have h7' : B = zs := h7.symm
        ((conv=>whnf);repeat'((first|(show(_=true→_)∧(_=false→_);first|refine gT ?_|refine gF ?_|refine gS ?_ ?_<;>(intro _h;try contradiction))|(show(_=false→_)∧(_=true→_);first|refine gU ?_|refine gV ?_|refine gZ ?_ ?_<;>(intro _h;try contradiction))|(intro _h;try contradiction)|(show _∧_;refine gA ?_)|fail);all_goals conv=>whnf))
        exact Ends.imm rfl rfl
      · rw [if_neg (by simpa using h7)]
        have h7' : ¬ B = zs := fun e => h7 e.symm
        ((conv=>whnf);repeat'((first|(show(_=true→_)∧(_=false→_);first|refine gT ?_|refine gF ?_|refine gS ?_ ?_<;>(intro _h;try contradiction))|(show(_=false→_)∧(_=true→_);first|refine gU ?_|refine gV ?_|refine gZ ?_ ?_<;>(intro _h;try contradiction))|(intro _h;try contradiction)|(show _∧_;refine gA ?_)|fail);all_goals conv=>whnf))
        exact Ends.imm rfl rfl
  · rw [if_pos h5] at hr
    subst hr
    have ho : openB m sig = none := by unfold openB; rw [if_neg (by omega)]
    rw [ho, if_neg (by simp)]
    ((conv=>whnf);repeat'((first|(show(_=true→_)∧(_=false→_);first|refine gT ?_|refine gF ?_|refine gS ?_ ?_<;>(intro _h;try contradiction))|(show(_=false→_)∧(_=true→_);first|refine gU ?_|refine gV ?_|refine gZ ?_ ?_<;>(intro _h;try contradiction))|(intro _h;try contradiction)|(show _∧_;refine gA ?_)|fail);all_goals conv=>whnf))
    exact Ends.imm rfl rfl
end Go.Proofs.YtniaeiikdgbnfaaGreatDoor.R
