/- The ring's code, part 13: from the end to the beginning; how many bits a number has. -/
import Derived.Test.YtniaeiikdgbnfaaR12
import Derived.Test.YtniaeiikdgbnfaaAW27
import Derived.Shelf.RegionOpen
import Derived.WalkKit
import Derived.TacticsInMore
import Derived.LoopIn
import Derived.OwnWalkIn
namespace Go.Proofs.Ytniaeiikdgbnfaa.R
open Go Go.RowKit Go.Proofs Go.Proofs.Ytniaeiikdgbnfaa.AW
attribute [local go_sem] Oper.semAt_some
set_option maxRecDepth 100000
set_option linter.unusedSimpArgs false
set_option linter.unusedVariables false
set_option maxHeartbeats 4000000

theorem it49 (l b o b2 o2 c : Nat) (A : Option Addr) (xs : List Int) (J : Nat → World → Prop) (Jx : World → Prop) (W : World) (hl : xs.length ≤ LIM) (hA : 0 < xs.length → A = some ⟨b2, o2, none⟩)
   (hG : ∀ k W, J k W → W.cell? ⟨b, o, none⟩ = some (.slice A xs.length c) ∧ ∀ i, i < xs.length → W.cell? ⟨b2, o2 + i, none⟩ = some (.int .u32 (xs.getD i 0)))
   (hY : ∀ k W, k < xs.length → J k W → YieldAt (fence none) 0 Try.prog l #[.int .i64 ((xs.length : Int) - 1 - k), .int .u32 (xs.getD (xs.length - 1 - k) 0)] W fun e W' => (e = .returned (.bool true) ∧ J (k + 1) W') ∨ (e = .returned (.bool false) ∧ Jx W'))
   (h0 : J 0 W) : CallsIn Fence.wide 0 Try.prog 49 #[.func (.yield l) #[] #[], .pointer (some ⟨b, o, none⟩)] W fun e W' => (∃ v, e = .returned v) ∧ (J xs.length W' ∨ Jx W') := by
  unfold LIM at hl
  have hc := (hG 0 W h0).1
  refine callsIn_of_wp Try.func49 rfl trivial ?_ rfl
  simp only [Try.ntmps49, List.size_toArray, List.length_cons, List.length_nil, Nat.reduceAdd, Nat.reduceSub, Array.replicate_succ, Array.replicate_zero, List.push_toArray, List.append_toArray, List.nil_append, List.cons_append]
  gi_wp2
  clear hc
  gi_loopw [3] (fun i wr => ∃ k : Nat, k ≤ xs.length ∧ i = .int .i64 ((xs.length : Int) - 1 - k) ∧ J k wr) (fun i _ => (intOf i + 1).toNat)
  case atStart => exact ⟨0, Nat.zero_le _, by simp, h0⟩
  case round =>
    obtain ⟨k, hk, rfl, hJ⟩ := hrel
    by_cases hlt : k < xs.length
    · have hA' := hA (by omega)
      subst hA'
      have hc := (hG k _ hJ).1
      have hc2 := (hG k _ hJ).2 (xs.length - 1 - k) (by omega)
      obtain ⟨fn, tmps, assign, body, hy, hR⟩ := hY k _ hlt hJ
      have hn : ((xs.length : Int) - 1 - k).toNat = xs.length - 1 - k := by omega
      clear hG hY hA
      rw [List.getD_eq_getElem?_getD] at hc2 hy
      gi_wp2
      refine ⟨rfl, RoundIn.mono hR ?_⟩
      rintro e W' (⟨rfl, hJ'⟩ | ⟨rfl, hJ'⟩)
      · gi_wp2
        go_roundw
        case rel => exact ⟨k + 1, by omega, by simp; omega, hJ'⟩
        case measure => simp [intOf]; omega
      · gi_wp2
        exact bodyPost_ret (results_none rfl _ _ _) rfl ⟨⟨_, rfl⟩, .inr hJ'⟩
    · have : k = xs.length := by omega
      subst this
      gi_wp2
      go_end0
      exact ⟨⟨_, rfl⟩, .inl hJ⟩

/-- A range from the end to the beginning. -/
theorem ai49 (xs : List Int) : AIter Try.prog 49 [.ptr (nat xs)] xs.length (fun k => [.int .i64 ((xs.length : Int) - 1 - k), .int .u32 (xs.getD (xs.length - 1 - k) 0)]) := by
  refine ⟨⟨_, Try.func49, rfl, by decide⟩, fun w S lb h => ?_⟩
  simp only [RepAll, Rep] at h
  obtain ⟨c1, c2, e, ⟨b, o, rfl, hSb, vs, hcb, A, c, rfl, hle, hL, hwf, hne⟩, rfl⟩ := h
  have hlb : lb = #[.pointer (some ⟨b, o, none⟩)] := by apply Array.ext'; simpa using e
  subst hlb
  refine ⟨fun k => #[.int .i64 ((xs.length : Int) - 1 - k), .int .u32 (xs.getD (xs.length - 1 - k) 0)], fun k hk => ?_, fun l J Jx W hJg hJxg hG hY h0 => ?_⟩
  · have hm : xs.getD (xs.length - 1 - k) 0 ∈ xs := by
      rw [List.getD_eq_getElem?_getD, List.getElem?_eq_getElem (by omega)]
      exact List.getElem_mem _
    unfold LIM at hL
    simp only [List.map_cons, List.map_nil, VAll, VRel, Rep]
    exact ⟨_, _, rfl, ⟨_, ⟨rfl, wrap_i64 (by omega) (by omega)⟩, rfl⟩, _, _, rfl, ⟨_, ⟨rfl, hwf _ hm⟩, rfl⟩, rfl⟩
  · have hcell : ∀ W : World, (∀ b, S b → W.heap[b]? = w.heap[b]?) → W.cell? ⟨b, o, none⟩ = some (.slice A xs.length c) := fun W hW => by
      have := (Cells.keep hcb (hW b hSb)) 0 _ rfl
      simpa using this
    refine callsIn_fence.1 (?_ : CallsIn Fence.wide 0 _ _ _ _ _)
    by_cases h0' : xs = []
    · subst h0'
      exact it49 l b o 0 0 c A [] J Jx W (Nat.zero_le _) (fun h => by simp at h) (fun k W hJ => ⟨hcell W (hG k W hJ), fun i hi => by simp at hi⟩) hY h0
    · obtain ⟨b2, o2, rfl, hS2, hc2⟩ := hne h0'
      exact it49 l b o b2 o2 c _ xs J Jx W hL (fun _ => rfl) (fun k W hJ => ⟨hcell W (hG k W hJ), fun i hi => by
        refine (Cells.keep hc2 (hG k W hJ b2 hS2)) i _ ?_
        rw [List.getElem?_map, List.getElem?_eq_getElem hi, List.getD_eq_getElem?_getD, List.getElem?_eq_getElem hi]; rfl⟩) hY h0

theorem f38 (xs : List Int) : Imm Try.prog 38 [.d (nat xs)] (fun r => r = .d (.fn 49 [.ptr (nat xs)])) := by
  (refine Imm.of_awp (⟨fun _ => false, fun r i => if r == 1 && i == 0 then [1] else [], fun _ => .done⟩ : AW.Told) [] Try.func38 rfl (by decide) (Nat.le_of_ble_eq_true rfl) ?_; intro _w0 _S0 _E0 _B0; ((conv => whnf); repeat' (first | (refine And.intro ?_ ?_; (focus (first | rfl | decide | assumption | omega | decide +kernel | exact ⟨rfl, rfl⟩ | exact ⟨rfl, rfl, rfl, rfl⟩ | exact fun h => Bool.noConfusion h | exact fun _ => rfl | exact Nat.le_of_ble_eq_true rfl | (simp only [List.length_map, List.length_append, List.length_replicate, List.length_take, List.length_drop, List.length_set, List.length_cons, List.length_nil]; omega))); (conv => whnf)) | ((refine And.intro ?_ ?_ <;> intro _h); all_goals ((first | replace _h := of_decide_eq_true _h | replace _h := of_decide_eq_false _h | skip); (try simp only [Bool.not_eq_true', Bool.not_eq_false', Bool.not_true, Bool.not_false, decide_eq_true_eq, decide_eq_false_iff_not] at _h); (try (guard_hyp _h : True; clear _h)); first | done | contradiction | exact absurd ((Eq.symm _h).trans (show _ = true by assumption)) (by decide) | exact absurd ((Eq.symm _h).trans (show _ = false by assumption)) (by decide) | (conv => whnf))) | (intro _h; ((first | replace _h := of_decide_eq_true _h | replace _h := of_decide_eq_false _h | skip); (try simp only [Bool.not_eq_true', Bool.not_eq_false', Bool.not_true, Bool.not_false, decide_eq_true_eq, decide_eq_false_iff_not] at _h); (try (guard_hyp _h : True; clear _h)); first | done | contradiction | exact absurd ((Eq.symm _h).trans (show _ = true by assumption)) (by decide) | exact absurd ((Eq.symm _h).trans (show _ = false by assumption)) (by decide) | (conv => whnf))))))
  exact Ends.imm rfl rfl

/-- How many bits a number has. -/
def blen (v : Nat) : Nat := if v = 0 then 0 else Nat.log2 v + 1

theorem blen_le (v k : Nat) : blen v ≤ k ↔ v < 2 ^ k := by
  unfold blen
  split
  · rename_i h; subst h; simp; exact Nat.pow_pos (by omega)
  · rename_i h
    rw [Nat.add_one_le_iff]
    exact Nat.log2_lt h

theorem blen_eq {v k : Nat} (h1 : v < 2 ^ k) (h2 : ∀ j, k = j + 1 → 2 ^ j ≤ v) : blen v = k := by
  have := (blen_le v k).2 h1
  cases k with
  | zero => omega
  | succ j =>
    have h4 := h2 j rfl
    have : ¬ blen v ≤ j := fun h => by have := (blen_le v j).1 h; omega
    omega

theorem blen_spec {v : Nat} (h : 0 < v) : v < 2 ^ blen v ∧ 2 ^ (blen v - 1) ≤ v := by
  refine ⟨(blen_le v _).1 (Nat.le_refl _), ?_⟩
  have h1 : ¬ blen v = 0 := fun e => by have := (blen_le v 0).1 (by omega); simp at this; omega
  have h2 : ¬ blen v ≤ blen v - 1 := by omega
  rw [blen_le] at h2
  omega

theorem blen_div {v k : Nat} (h : 2 ^ k ≤ v) : blen v = blen (v / 2 ^ k) + k := by
  have hp : 0 < 2 ^ k := Nat.pow_pos (by omega)
  have hu : 0 < v / 2 ^ k := Nat.div_pos h hp
  obtain ⟨h1, h2⟩ := blen_spec hu
  have hb : blen (v / 2 ^ k) ≠ 0 := fun e => by rw [e] at h1; simp at h1; omega
  refine blen_eq ?_ fun j hj => ?_
  · rw [Nat.pow_add]
    exact (Nat.div_lt_iff_lt_mul hp).1 h1
  · have e : j = (blen (v / 2 ^ k) - 1) + k := by omega
    rw [e, Nat.pow_add]
    exact (Nat.le_div_iff_mul_le hp).1 h2

def tab8 : List Int := (List.range 256).map fun v => (blen v : Int)
theorem tab8_get {x : Int} (h0 : 0 ≤ x) (h1 : x < 256) : tab8.getD x.toNat 0 = blen x.toNat := by
  unfold tab8
  rw [List.getD_eq_getElem?_getD, List.getElem?_map, List.getElem?_range (by omega)]; rfl

theorem shr_at (x : Int) (h0 : 0 ≤ x) (h1 : x < 4294967296) (m : Int) (k : Nat) (hm : m = k) (hk : k ≤ 32) : x / 2 ^ min m.toNat (IntKind.bits .u32) = ((x.toNat / 2 ^ k : Nat) : Int) := by
  subst hm
  obtain ⟨n, rfl⟩ : ∃ n : Nat, x = n := ⟨x.toNat, by omega⟩
  rw [Int.toNat_natCast, Int.toNat_natCast, Nat.min_eq_left (by simp [IntKind.bits]; omega)]
  simp

theorem f39 (x : Int) (h0 : 0 ≤ x) (h1 : x < 4294967296) : Imm Try.prog 39 [u32 x] (fun r => r = i64 (blen x.toNat)) := by
  have e16 := shr_at x h0 h1 16 16 rfl (by omega)
  have e8 := shr_at x h0 h1 8 8 rfl (by omega)
  have e24 := shr_at (x.toNat / 2 ^ 16 : Nat) (by omega) (by omega) 8 8 rfl (by omega)
  have e0 : x = (x.toNat : Int) := by omega
  have fin : ∀ (y : Nat) (s : Int) (n : Nat) (T : List Int), T = tab8 → y < 256 → s = n → n ≤ 24 → blen x.toNat = blen y + n →
      IntKind.i64.wrap (s + IntKind.i64.wrap (T.getD (IntKind.u8.wrap (y : Int)).toNat 0)) = blen x.toNat := fun y s n T hT hy hs hn he => by
    have hw : IntKind.u8.wrap (y : Int) = y := wrap_in.2 ⟨by simp [loK], by simp [hiK]; omega⟩
    have hb := (blen_le y 8).2 (by omega)
    rw [hw, hT, tab8_get (by omega) (by omega), Int.toNat_natCast, wrap_i64 (n := (blen y : Int)) (by omega) (by omega), wrap_i64 (by omega) (by omega), he]
    omega
  have hw : ∀ y : Nat, y < 256 → IntKind.u8.wrap (y : Int) = y := fun y hy => wrap_in.2 ⟨by simp [loK], by simp [hiK]; omega⟩
  (refine Imm.of_awp told0 [] Try.func39 rfl (by decide) (Nat.le_of_ble_eq_true rfl) ?_; intro _w0 _S0 _E0 _B0; ((conv => whnf); repeat' (first | (refine And.intro ?_ ?_; (focus (first | rfl | decide | assumption | omega | decide +kernel | exact ⟨rfl, rfl⟩ | exact ⟨rfl, rfl, rfl, rfl⟩ | exact fun h => Bool.noConfusion h | exact fun _ => rfl | exact Nat.le_of_ble_eq_true rfl | (simp only [List.length_map, List.length_append, List.length_replicate, List.length_take, List.length_drop, List.length_set, List.length_cons, List.length_nil]; omega))); (conv => whnf)) | ((refine And.intro ?_ ?_ <;> intro _h); all_goals ((first | replace _h := of_decide_eq_true _h | replace _h := of_decide_eq_false _h | skip); (try simp only [Bool.not_eq_true', Bool.not_eq_false', Bool.not_true, Bool.not_false, decide_eq_true_eq, decide_eq_false_iff_not] at _h); (try (guard_hyp _h : True; clear _h)); first | done | contradiction | exact absurd ((Eq.symm _h).trans (show _ = true by assumption)) (by decide) | exact absurd ((Eq.symm _h).trans (show _ = false by assumption)) (by decide) | (conv => whnf))) | (intro _h; ((first | replace _h := of_decide_eq_true _h | replace _h := of_decide_eq_false _h | skip); (try simp only [Bool.not_eq_true', Bool.not_eq_false', Bool.not_true, Bool.not_false, decide_eq_true_eq, decide_eq_false_iff_not] at _h); (try (guard_hyp _h : True; clear _h)); first | done | contradiction | exact absurd ((Eq.symm _h).trans (show _ = true by assumption)) (by decide) | exact absurd ((Eq.symm _h).trans (show _ = false by assumption)) (by decide) | (conv => whnf))))))
  all_goals
    generalize hT : bytesOf _ = T
    have hT2 : T = tab8 := by rw [← hT]; decide +kernel
    clear hT
    have hTl : T.length = 256 := by rw [hT2]; decide +kernel
    have w1 : IntKind.i64.wrap (16 + 8) = 24 := by decide
    have w2 : IntKind.i64.wrap (0 + 8) = 8 := by decide
    rw [hTl]
  · rename_i h16
    simp only [e16, e24, Int.toNat_natCast] at _h ⊢
    have hy : x.toNat / 2 ^ 16 / 2 ^ 8 < 256 := by omega
    refine ⟨by rw [hw _ hy]; omega, by rw [hw _ hy]; omega, ?_⟩
    ((conv => whnf); repeat' (first | (refine And.intro ?_ ?_; (focus (first | rfl | decide | assumption | omega | decide +kernel | exact ⟨rfl, rfl⟩ | exact ⟨rfl, rfl, rfl, rfl⟩ | exact fun h => Bool.noConfusion h | exact fun _ => rfl | exact Nat.le_of_ble_eq_true rfl | (simp only [List.length_map, List.length_append, List.length_replicate, List.length_take, List.length_drop, List.length_set, List.length_cons, List.length_nil]; omega))); (conv => whnf)) | ((refine And.intro ?_ ?_ <;> intro _h); all_goals ((first | replace _h := of_decide_eq_true _h | replace _h := of_decide_eq_false _h | skip); (try simp only [Bool.not_eq_true', Bool.not_eq_false', Bool.not_true, Bool.not_false, decide_eq_true_eq, decide_eq_false_iff_not] at _h); (try (guard_hyp _h : True; clear _h)); first | done | contradiction | exact absurd ((Eq.symm _h).trans (show _ = true by assumption)) (by decide) | exact absurd ((Eq.symm _h).trans (show _ = false by assumption)) (by decide) | (conv => whnf))) | (intro _h; ((first | replace _h := of_decide_eq_true _h | replace _h := of_decide_eq_false _h | skip); (try simp only [Bool.not_eq_true', Bool.not_eq_false', Bool.not_true, Bool.not_false, decide_eq_true_eq, decide_eq_false_iff_not] at _h); (try (guard_hyp _h : True; clear _h)); first | done | contradiction | exact absurd ((Eq.symm _h).trans (show _ = true by assumption)) (by decide) | exact absurd ((Eq.symm _h).trans (show _ = false by assumption)) (by decide) | (conv => whnf)))))
    refine Ends.imm rfl (di (fin _ _ 24 T hT2 hy w1 (by omega) ?_))
    rw [blen_div (k := 16) (by omega), blen_div (k := 8) (v := x.toNat / 2 ^ 16) (by omega)]
  · rename_i h16
    simp only [e16, e24, Int.toNat_natCast] at _h ⊢
    have hy : x.toNat / 2 ^ 16 < 256 := by omega
    refine ⟨by rw [hw _ hy]; omega, by rw [hw _ hy]; omega, ?_⟩
    ((conv => whnf); repeat' (first | (refine And.intro ?_ ?_; (focus (first | rfl | decide | assumption | omega | decide +kernel | exact ⟨rfl, rfl⟩ | exact ⟨rfl, rfl, rfl, rfl⟩ | exact fun h => Bool.noConfusion h | exact fun _ => rfl | exact Nat.le_of_ble_eq_true rfl | (simp only [List.length_map, List.length_append, List.length_replicate, List.length_take, List.length_drop, List.length_set, List.length_cons, List.length_nil]; omega))); (conv => whnf)) | ((refine And.intro ?_ ?_ <;> intro _h); all_goals ((first | replace _h := of_decide_eq_true _h | replace _h := of_decide_eq_false _h | skip); (try simp only [Bool.not_eq_true', Bool.not_eq_false', Bool.not_true, Bool.not_false, decide_eq_true_eq, decide_eq_false_iff_not] at _h); (try (guard_hyp _h : True; clear _h)); first | done | contradiction | exact absurd ((Eq.symm _h).trans (show _ = true by assumption)) (by decide) | exact absurd ((Eq.symm _h).trans (show _ = false by assumption)) (by decide) | (conv => whnf))) | (intro _h; ((first | replace _h := of_decide_eq_true _h | replace _h := of_decide_eq_false _h | skip); (try simp only [Bool.not_eq_true', Bool.not_eq_false', Bool.not_true, Bool.not_false, decide_eq_true_eq, decide_eq_false_iff_not] at _h); (try (guard_hyp _h : True; clear _h)); first | done | contradiction | exact absurd ((Eq.symm _h).trans (show _ = true by assumption)) (by decide) | exact absurd ((Eq.symm _h).trans (show _ = false by assumption)) (by decide) | (conv => whnf)))))
    refine Ends.imm rfl (di (fin _ _ 16 T hT2 hy rfl (by omega) ?_))
    rw [blen_div (k := 16) (by omega)]
  · rename_i h16
    simp only [e8, Int.toNat_natCast] at _h ⊢
    have hy : x.toNat / 2 ^ 8 < 256 := by omega
    refine ⟨by rw [hw _ hy]; omega, by rw [hw _ hy]; omega, ?_⟩
    ((conv => whnf); repeat' (first | (refine And.intro ?_ ?_; (focus (first | rfl | decide | assumption | omega | decide +kernel | exact ⟨rfl, rfl⟩ | exact ⟨rfl, rfl, rfl, rfl⟩ | exact fun h => Bool.noConfusion h | exact fun _ => rfl | exact Nat.le_of_ble_eq_true rfl | (simp only [List.length_map, List.length_append, List.length_replicate, List.length_take, List.length_drop, List.length_set, List.length_cons, List.length_nil]; omega))); (conv => whnf)) | ((refine And.intro ?_ ?_ <;> intro _h); all_goals ((first | replace _h := of_decide_eq_true _h | replace _h := of_decide_eq_false _h | skip); (try simp only [Bool.not_eq_true', Bool.not_eq_false', Bool.not_true, Bool.not_false, decide_eq_true_eq, decide_eq_false_iff_not] at _h); (try (guard_hyp _h : True; clear _h)); first | done | contradiction | exact absurd ((Eq.symm _h).trans (show _ = true by assumption)) (by decide) | exact absurd ((Eq.symm _h).trans (show _ = false by assumption)) (by decide) | (conv => whnf))) | (intro _h; ((first | replace _h := of_decide_eq_true _h | replace _h := of_decide_eq_false _h | skip); (try simp only [Bool.not_eq_true', Bool.not_eq_false', Bool.not_true, Bool.not_false, decide_eq_true_eq, decide_eq_false_iff_not] at _h); (try (guard_hyp _h : True; clear _h)); first | done | contradiction | exact absurd ((Eq.symm _h).trans (show _ = true by assumption)) (by decide) | exact absurd ((Eq.symm _h).trans (show _ = false by assumption)) (by decide) | (conv => whnf)))))
    refine Ends.imm rfl (di (fin _ _ 8 T hT2 hy w2 (by omega) ?_))
    rw [blen_div (k := 8) (by omega)]
  · rename_i h16
    have hy : x.toNat < 256 := by omega
    rw [e0]
    refine ⟨by rw [hw _ hy]; omega, by rw [hw _ hy]; omega, ?_⟩
    ((conv => whnf); repeat' (first | (refine And.intro ?_ ?_; (focus (first | rfl | decide | assumption | omega | decide +kernel | exact ⟨rfl, rfl⟩ | exact ⟨rfl, rfl, rfl, rfl⟩ | exact fun h => Bool.noConfusion h | exact fun _ => rfl | exact Nat.le_of_ble_eq_true rfl | (simp only [List.length_map, List.length_append, List.length_replicate, List.length_take, List.length_drop, List.length_set, List.length_cons, List.length_nil]; omega))); (conv => whnf)) | ((refine And.intro ?_ ?_ <;> intro _h); all_goals ((first | replace _h := of_decide_eq_true _h | replace _h := of_decide_eq_false _h | skip); (try simp only [Bool.not_eq_true', Bool.not_eq_false', Bool.not_true, Bool.not_false, decide_eq_true_eq, decide_eq_false_iff_not] at _h); (try (guard_hyp _h : True; clear _h)); first | done | contradiction | exact absurd ((Eq.symm _h).trans (show _ = true by assumption)) (by decide) | exact absurd ((Eq.symm _h).trans (show _ = false by assumption)) (by decide) | (conv => whnf))) | (intro _h; ((first | replace _h := of_decide_eq_true _h | replace _h := of_decide_eq_false _h | skip); (try simp only [Bool.not_eq_true', Bool.not_eq_false', Bool.not_true, Bool.not_false, decide_eq_true_eq, decide_eq_false_iff_not] at _h); (try (guard_hyp _h : True; clear _h)); first | done | contradiction | exact absurd ((Eq.symm _h).trans (show _ = true by assumption)) (by decide) | exact absurd ((Eq.symm _h).trans (show _ = false by assumption)) (by decide) | (conv => whnf)))))
    refine Ends.imm rfl (di (fin _ _ 0 T hT2 hy rfl (by omega) ?_))
    rfl
end Go.Proofs.Ytniaeiikdgbnfaa.R
