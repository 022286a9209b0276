/- Parts R13, R14, R15, R16, K1, K2, K3. No condition of its own. -/
import Derived.Test.YtniaeiikdgbnfaaDoorKO8
import Derived.Test.YtniaeiikdgbnfaaDoorKO6
import Derived.Shelf.RegionOpen
import Derived.WalkKit
import Derived.TacticsInMore
import Derived.LoopIn
import Derived.OwnWalkIn

namespace Go.Proofs.YtniaeiikdgbnfaaDoor.R
open Go Go.RowKit Go.Proofs Go.Proofs.YtniaeiikdgbnfaaDoor.AW
set_option linter.unusedSectionVars false
variable [Globs]
attribute [local go_sem] Oper.semAt_some
set_option maxRecDepth 100000
set_option linter.unusedSimpArgs false
set_option linter.unusedVariables false
set_option maxHeartbeats 4000000

theorem it49 (l b o b2 o2 c : Nat) (A : Option Addr) (xs : List Int) (J : Nat → World → Prop) (Jx : World → Prop) (W : World) (hl : xs.length ≤ LIM) (hA : 0 < xs.length → A = some ⟨b2, o2, none⟩)
   (hG : ∀ k W, J k W → W.cell? ⟨b, o, none⟩ = some (.slice A xs.length c) ∧ ∀ i, i < xs.length → W.cell? ⟨b2, o2 + i, none⟩ = some (.int .u32 (xs.getD i 0)))
   (hY : ∀ k W, k < xs.length → J k W → YieldAt (fence none) 0 Tryd.prog l #[.int .i64 ((xs.length : Int) - 1 - k), .int .u32 (xs.getD (xs.length - 1 - k) 0)] W fun e W' => (e = .returned (.bool true) ∧ J (k + 1) W') ∨ (e = .returned (.bool false) ∧ Jx W'))
   (h0 : J 0 W) : CallsIn Fence.wide 0 Tryd.prog 110 #[.func (.yield l) #[] #[], .pointer (some ⟨b, o, none⟩)] W fun e W' => (∃ v, e = .returned v) ∧ (J xs.length W' ∨ Jx W') := by
  unfold LIM at hl
  have hc := (hG 0 W h0).1
  refine callsIn_of_wp Tryd.func110 rfl trivial ?_ rfl
  simp only [Tryd.ntmps110, List.size_toArray, List.length_cons, List.length_nil, Nat.reduceAdd, Nat.reduceSub, Array.replicate_succ, Array.replicate_zero, List.push_toArray, List.append_toArray, List.nil_append, List.cons_append]
  gi_wp2
  clear hc
  gi_loopw [3] (fun i wr => ∃ k : Nat, k ≤ xs.length ∧ i = .int .i64 ((xs.length : Int) - 1 - k) ∧ J k wr) (fun i _ => (intOf i + 1).toNat)
  case atStart => exact ⟨0, Nat.zero_le _, by simp, h0⟩
  case round =>
    obtain ⟨k, hk, rfl, hJ⟩ := hrel
    by_cases hlt : k < xs.length
    · have hA' := hA (by omega)
      subst hA'
      have hc := (hG k _ hJ).1
      have hc2 := (hG k _ hJ).2 (xs.length - 1 - k) (by omega)
      obtain ⟨fn, tmps, assign, body, hy, hR⟩ := hY k _ hlt hJ
      have hn : ((xs.length : Int) - 1 - k).toNat = xs.length - 1 - k := by omega
      clear hG hY hA
      rw [List.getD_eq_getElem?_getD] at hc2 hy
      gi_wp2
      refine ⟨rfl, RoundIn.mono hR ?_⟩
      rintro e W' (⟨rfl, hJ'⟩ | ⟨rfl, hJ'⟩)
      · gi_wp2
        go_roundw
        case rel => exact ⟨k + 1, by omega, by simp; omega, hJ'⟩
        case measure => simp [intOf]; omega
      · gi_wp2
        exact bodyPost_ret (results_none rfl _ _ _) rfl ⟨⟨_, rfl⟩, .inr hJ'⟩
    · have : k = xs.length := by omega
      subst this
      gi_wp2
      go_end0
      exact ⟨⟨_, rfl⟩, .inl hJ⟩

/-- A range from the end to the beginning. -/
theorem ai49 (xs : List Int) : AIter Tryd.prog 110 [.ptr (nat xs)] xs.length (fun k => [.int .i64 ((xs.length : Int) - 1 - k), .int .u32 (xs.getD (xs.length - 1 - k) 0)]) := by
  refine ⟨⟨_, Tryd.func110, rfl, by decide⟩, fun w S lb h => ?_⟩
  simp only [RepAll, Rep] at h
  obtain ⟨c1, c2, e, ⟨b, o, rfl, hSb, vs, hcb, A, c, rfl, hle, hL, hwf, hne⟩, rfl⟩ := h
  have hlb : lb = #[.pointer (some ⟨b, o, none⟩)] := by apply Array.ext'; simpa using e
  subst hlb
  refine ⟨fun k => #[.int .i64 ((xs.length : Int) - 1 - k), .int .u32 (xs.getD (xs.length - 1 - k) 0)], fun k hk => ?_, fun l J Jx W hJg hJxg hG hY h0 => ?_⟩
  · have hm : xs.getD (xs.length - 1 - k) 0 ∈ xs := by
      rw [List.getD_eq_getElem?_getD, List.getElem?_eq_getElem (by omega)]
      exact List.getElem_mem _
    unfold LIM at hL
    simp only [List.map_cons, List.map_nil, VAll, VRel, Rep]
    exact ⟨_, _, rfl, ⟨_, ⟨rfl, wrap_i64 (by omega) (by omega)⟩, rfl⟩, _, _, rfl, ⟨_, ⟨rfl, hwf _ hm⟩, rfl⟩, rfl⟩
  · have hcell : ∀ W : World, (∀ b, S b → W.heap[b]? = w.heap[b]?) → W.cell? ⟨b, o, none⟩ = some (.slice A xs.length c) := fun W hW => by
      have := (Cells.keep hcb (hW b hSb)) 0 _ rfl
      simpa using this
    refine callsIn_fence.1 (?_ : CallsIn Fence.wide 0 _ _ _ _ _)
    by_cases h0' : xs = []
    · subst h0'
      exact it49 l b o 0 0 c A [] J Jx W (Nat.zero_le _) (fun h => by simp at h) (fun k W hJ => ⟨hcell W (hG k W hJ), fun i hi => by simp at hi⟩) hY h0
    · obtain ⟨b2, o2, rfl, hS2, hc2⟩ := hne h0'
      exact it49 l b o b2 o2 c _ xs J Jx W hL (fun _ => rfl) (fun k W hJ => ⟨hcell W (hG k W hJ), fun i hi => by
        refine (Cells.keep hc2 (hG k W hJ b2 hS2)) i _ ?_
        rw [List.getElem?_map, List.getElem?_eq_getElem hi, List.getD_eq_getElem?_getD, List.getElem?_eq_getElem hi]; rfl⟩) hY h0

theorem f38 (xs : List Int) : Imm Tryd.prog 85 [.d (nat xs)] (fun r => r = .d (.fn 110 [.ptr (nat xs)])) := by
  (refine Imm.of_awp (⟨fun _ => false, fun r i => if r == 1 && i == 0 then [1] else [], fun _ => .done⟩ : AW.Told) [] Tryd.func85 rfl (by decide) (Nat.le_of_ble_eq_true rfl) ?_; intro _w0 _S0 _E0 _B0; ((conv => whnf); repeat' (first | (refine And.intro ?_ ?_; (focus (first | rfl | decide | assumption | omega | decide +kernel | exact ⟨rfl, rfl⟩ | exact ⟨rfl, rfl, rfl, rfl⟩ | exact fun h => Bool.noConfusion h | exact fun _ => rfl | exact Nat.le_of_ble_eq_true rfl | (simp only [List.length_map, List.length_append, List.length_replicate, List.length_take, List.length_drop, List.length_set, List.length_cons, List.length_nil]; omega))); (conv => whnf)) | ((refine And.intro ?_ ?_ <;> intro _h); all_goals ((first | replace _h := of_decide_eq_true _h | replace _h := of_decide_eq_false _h | skip); (try simp only [Bool.not_eq_true', Bool.not_eq_false', Bool.not_true, Bool.not_false, decide_eq_true_eq, decide_eq_false_iff_not] at _h); (try (guard_hyp _h : True; clear _h)); first | done | contradiction | exact absurd ((Eq.symm _h).trans (show _ = true by assumption)) (by decide) | exact absurd ((Eq.symm _h).trans (show _ = false by assumption)) (by decide) | (conv => whnf))) | (intro _h; ((first | replace _h := of_decide_eq_true _h | replace _h := of_decide_eq_false _h | skip); (try simp only [Bool.not_eq_true', Bool.not_eq_false', Bool.not_true, Bool.not_false, decide_eq_true_eq, decide_eq_false_iff_not] at _h); (try (guard_hyp _h : True; clear _h)); first | done | contradiction | exact absurd ((Eq.symm _h).trans (show _ = true by assumption)) (by decide) | exact absurd ((Eq.symm _h).trans (show _ = false by assumption)) (by decide) | (conv => whnf))))))
  exact Ends.imm rfl rfl

/-- How many bits a number has. -/
def blen (v : Nat) : Nat := if v = 0 then 0 else Nat.log2 v + 1

theorem blen_le (v k : Nat) : blen v ≤ k ↔ v < 2 ^ k := by
  unfold blen
  split
  · rename_i h; subst h; simp; exact Nat.pow_pos (by omega)
  · rename_i h
    rw [Nat.add_one_le_iff]
    exact Nat.log2_lt h

theorem blen_eq {v k : Nat} (h1 : v < 2 ^ k) (h2 : ∀ j, k = j + 1 → 2 ^ j ≤ v) : blen v = k := by
  have := (blen_le v k).2 h1
  cases k with
  | zero => omega
  | succ j =>
    have h4 := h2 j rfl
    have : ¬ blen v ≤ j := fun h => by have := (blen_le v j).1 h; omega
    omega

theorem blen_spec {v : Nat} (h : 0 < v) : v < 2 ^ blen v ∧ 2 ^ (blen v - 1) ≤ v := by
  refine ⟨(blen_le v _).1 (Nat.le_refl _), ?_⟩
  have h1 : ¬ blen v = 0 := fun e => by have := (blen_le v 0).1 (by omega); simp at this; omega
  have h2 : ¬ blen v ≤ blen v - 1 := by omega
  rw [blen_le] at h2
  omega

theorem blen_div {v k : Nat} (h : 2 ^ k ≤ v) : blen v = blen (v / 2 ^ k) + k := by
  have hp : 0 < 2 ^ k := Nat.pow_pos (by omega)
  have hu : 0 < v / 2 ^ k := Nat.div_pos h hp
  obtain ⟨h1, h2⟩ := blen_spec hu
  have hb : blen (v / 2 ^ k) ≠ 0 := fun e => by rw [e] at h1; simp at h1; omega
  refine blen_eq ?_ fun j hj => ?_
  · rw [Nat.pow_add]
    exact (Nat.div_lt_iff_lt_mul hp).1 h1
  · have e : j = (blen (v / 2 ^ k) - 1) + k := by omega
    rw [e, Nat.pow_add]
    exact (Nat.le_div_iff_mul_le hp).1 h2

def tab8 : List Int := (List.range 256).map fun v => (blen v : Int)
theorem tab8_get {x : Int} (h0 : 0 ≤ x) (h1 : x < 256) : tab8.getD x.toNat 0 = blen x.toNat := by
  unfold tab8
  rw [List.getD_eq_getElem?_getD, List.getElem?_map, List.getElem?_range (by omega)]; rfl

theorem shr_at (x : Int) (h0 : 0 ≤ x) (h1 : x < 4294967296) (m : Int) (k : Nat) (hm : m = k) (hk : k ≤ 32) : x / 2 ^ min m.toNat (IntKind.bits .u32) = ((x.toNat / 2 ^ k : Nat) : Int) := by
  subst hm
  obtain ⟨n, rfl⟩ : ∃ n : Nat, x = n := ⟨x.toNat, by omega⟩
  rw [Int.toNat_natCast, Int.toNat_natCast, Nat.min_eq_left (by simp [IntKind.bits]; omega)]
  simp

theorem f39 (x : Int) (h0 : 0 ≤ x) (h1 : x < 4294967296) : Imm Tryd.prog 86 [u32 x] (fun r => r = i64 (blen x.toNat)) := by
  have e16 := shr_at x h0 h1 16 16 rfl (by omega)
  have e8 := shr_at x h0 h1 8 8 rfl (by omega)
  have e24 := shr_at (x.toNat / 2 ^ 16 : Nat) (by omega) (by omega) 8 8 rfl (by omega)
  have e0 : x = (x.toNat : Int) := by omega
  have fin : ∀ (y : Nat) (s : Int) (n : Nat) (T : List Int), T = tab8 → y < 256 → s = n → n ≤ 24 → blen x.toNat = blen y + n →
      IntKind.i64.wrap (s + IntKind.i64.wrap (T.getD (IntKind.u8.wrap (y : Int)).toNat 0)) = blen x.toNat := fun y s n T hT hy hs hn he => by
    have hw : IntKind.u8.wrap (y : Int) = y := wrap_in.2 ⟨by simp [loK], by simp [hiK]; omega⟩
    have hb := (blen_le y 8).2 (by omega)
    rw [hw, hT, tab8_get (by omega) (by omega), Int.toNat_natCast, wrap_i64 (n := (blen y : Int)) (by omega) (by omega), wrap_i64 (by omega) (by omega), he]
    omega
  have hw : ∀ y : Nat, y < 256 → IntKind.u8.wrap (y : Int) = y := fun y hy => wrap_in.2 ⟨by simp [loK], by simp [hiK]; omega⟩
  (refine Imm.of_awp told0 [] Tryd.func86 rfl (by decide) (Nat.le_of_ble_eq_true rfl) ?_; intro _w0 _S0 _E0 _B0; ((conv => whnf); repeat' (first | (refine And.intro ?_ ?_; (focus (first | rfl | decide | assumption | omega | decide +kernel | exact ⟨rfl, rfl⟩ | exact ⟨rfl, rfl, rfl, rfl⟩ | exact fun h => Bool.noConfusion h | exact fun _ => rfl | exact Nat.le_of_ble_eq_true rfl | (simp only [List.length_map, List.length_append, List.length_replicate, List.length_take, List.length_drop, List.length_set, List.length_cons, List.length_nil]; omega))); (conv => whnf)) | ((refine And.intro ?_ ?_ <;> intro _h); all_goals ((first | replace _h := of_decide_eq_true _h | replace _h := of_decide_eq_false _h | skip); (try simp only [Bool.not_eq_true', Bool.not_eq_false', Bool.not_true, Bool.not_false, decide_eq_true_eq, decide_eq_false_iff_not] at _h); (try (guard_hyp _h : True; clear _h)); first | done | contradiction | exact absurd ((Eq.symm _h).trans (show _ = true by assumption)) (by decide) | exact absurd ((Eq.symm _h).trans (show _ = false by assumption)) (by decide) | (conv => whnf))) | (intro _h; ((first | replace _h := of_decide_eq_true _h | replace _h := of_decide_eq_false _h | skip); (try simp only [Bool.not_eq_true', Bool.not_eq_false', Bool.not_true, Bool.not_false, decide_eq_true_eq, decide_eq_false_iff_not] at _h); (try (guard_hyp _h : True; clear _h)); first | done | contradiction | exact absurd ((Eq.symm _h).trans (show _ = true by assumption)) (by decide) | exact absurd ((Eq.symm _h).trans (show _ = false by assumption)) (by decide) | (conv => whnf))))))
  all_goals
    generalize hT : bytesOf _ = T
    have hT2 : T = tab8 := by rw [← hT]; decide +kernel
    clear hT
    have hTl : T.length = 256 := by rw [hT2]; decide +kernel
    have w1 : IntKind.i64.wrap (16 + 8) = 24 := by decide
    have w2 : IntKind.i64.wrap (0 + 8) = 8 := by decide
    rw [hTl]
  · rename_i h16
    simp only [e16, e24, Int.toNat_natCast] at _h ⊢
    have hy : x.toNat / 2 ^ 16 / 2 ^ 8 < 256 := by omega
    refine ⟨by rw [hw _ hy]; omega, by rw [hw _ hy]; omega, ?_⟩
    ((conv => whnf); repeat' (first | (refine And.intro ?_ ?_; (focus (first | rfl | decide | assumption | omega | decide +kernel | exact ⟨rfl, rfl⟩ | exact ⟨rfl, rfl, rfl, rfl⟩ | exact fun h => Bool.noConfusion h | exact fun _ => rfl | exact Nat.le_of_ble_eq_true rfl | (simp only [List.length_map, List.length_append, List.length_replicate, List.length_take, List.length_drop, List.length_set, List.length_cons, List.length_nil]; omega))); (conv => whnf)) | ((refine And.intro ?_ ?_ <;> intro _h); all_goals ((first | replace _h := of_decide_eq_true _h | replace _h := of_decide_eq_false _h | skip); (try simp only [Bool.not_eq_true', Bool.not_eq_false', Bool.not_true, Bool.not_false, decide_eq_true_eq, decide_eq_false_iff_not] at _h); (try (guard_hyp _h : True; clear _h)); first | done | contradiction | exact absurd ((Eq.symm _h).trans (show _ = true by assumption)) (by decide) | exact absurd ((Eq.symm _h).trans (show _ = false by assumption)) (by decide) | (conv => whnf))) | (intro _h; ((first | replace _h := of_decide_eq_true _h | replace _h := of_decide_eq_false _h | skip); (try simp only [Bool.not_eq_true', Bool.not_eq_false', Bool.not_true, Bool.not_false, decide_eq_true_eq, decide_eq_false_iff_not] at _h); (try (guard_hyp _h : True; clear _h)); first | done | contradiction | exact absurd ((Eq.symm _h).trans (show _ = true by assumption)) (by decide) | exact absurd ((Eq.symm _h).trans (show _ = false by assumption)) (by decide) | (conv => whnf)))))
    refine Ends.imm rfl (di (fin _ _ 24 T hT2 hy w1 (by omega) ?_))
    rw [blen_div (k := 16) (by omega), blen_div (k := 8) (v := x.toNat / 2 ^ 16) (by omega)]
  · rename_i h16
    simp only [e16, e24, Int.toNat_natCast] at _h ⊢
    have hy : x.toNat / 2 ^ 16 < 256 := by omega
    refine ⟨by rw [hw _ hy]; omega, by rw [hw _ hy]; omega, ?_⟩
    ((conv => whnf); repeat' (first | (refine And.intro ?_ ?_; (focus (first | rfl | decide | assumption | omega | decide +kernel | exact ⟨rfl, rfl⟩ | exact ⟨rfl, rfl, rfl, rfl⟩ | exact fun h => Bool.noConfusion h | exact fun _ => rfl | exact Nat.le_of_ble_eq_true rfl | (simp only [List.length_map, List.length_append, List.length_replicate, List.length_take, List.length_drop, List.length_set, List.length_cons, List.length_nil]; omega))); (conv => whnf)) | ((refine And.intro ?_ ?_ <;> intro _h); all_goals ((first | replace _h := of_decide_eq_true _h | replace _h := of_decide_eq_false _h | skip); (try simp only [Bool.not_eq_true', Bool.not_eq_false', Bool.not_true, Bool.not_false, decide_eq_true_eq, decide_eq_false_iff_not] at _h); (try (guard_hyp _h : True; clear _h)); first | done | contradiction | exact absurd ((Eq.symm _h).trans (show _ = true by assumption)) (by decide) | exact absurd ((Eq.symm _h).trans (show _ = false by assumption)) (by decide) | (conv => whnf))) | (intro _h; ((first | replace _h := of_decide_eq_true _h | replace _h := of_decide_eq_false _h | skip); (try simp only [Bool.not_eq_true', Bool.not_eq_false', Bool.not_true, Bool.not_false, decide_eq_true_eq, decide_eq_false_iff_not] at _h); (try (guard_hyp _h : True; clear _h)); first | done | contradiction | exact absurd ((Eq.symm _h).trans (show _ = true by assumption)) (by decide) | exact absurd ((Eq.symm _h).trans (show _ = false by assumption)) (by decide) | (conv => whnf)))))
    refine Ends.imm rfl (di (fin _ _ 16 T hT2 hy rfl (by omega) ?_))
    rw [blen_div (k := 16) (by omega)]
  · rename_i h16
    simp only [e8, Int.toNat_natCast] at _h ⊢
    have hy : x.toNat / 2 ^ 8 < 256 := by omega
    refine ⟨by rw [hw _ hy]; omega, by rw [hw _ hy]; omega, ?_⟩
    ((conv => whnf); repeat' (first | (refine And.intro ?_ ?_; (focus (first | rfl | decide | assumption | omega | decide +kernel | exact ⟨rfl, rfl⟩ | exact ⟨rfl, rfl, rfl, rfl⟩ | exact fun h => Bool.noConfusion h | exact fun _ => rfl | exact Nat.le_of_ble_eq_true rfl | (simp only [List.length_map, List.length_append, List.length_replicate, List.length_take, List.length_drop, List.length_set, List.length_cons, List.length_nil]; omega))); (conv => whnf)) | ((refine And.intro ?_ ?_ <;> intro _h); all_goals ((first | replace _h := of_decide_eq_true _h | replace _h := of_decide_eq_false _h | skip); (try simp only [Bool.not_eq_true', Bool.not_eq_false', Bool.not_true, Bool.not_false, decide_eq_true_eq, decide_eq_false_iff_not] at _h); (try (guard_hyp _h : True; clear _h)); first | done | contradiction | exact absurd ((Eq.symm _h).trans (show _ = true by assumption)) (by decide) | exact absurd ((Eq.symm _h).trans (show _ = false by assumption)) (by decide) | (conv => whnf))) | (intro _h; ((first | replace _h := of_decide_eq_true _h | replace _h := of_decide_eq_false _h | skip); (try simp only [Bool.not_eq_true', Bool.not_eq_false', Bool.not_true, Bool.not_false, decide_eq_true_eq, decide_eq_false_iff_not] at _h); (try (guard_hyp _h : True; clear _h)); first | done | contradiction | exact absurd ((Eq.symm _h).trans (show _ = true by assumption)) (by decide) | exact absurd ((Eq.symm _h).trans (show _ = false by assumption)) (by decide) | (conv => whnf)))))
    refine Ends.imm rfl (di (fin _ _ 8 T hT2 hy w2 (by omega) ?_))
    rw [blen_div (k := 8) (by omega)]
  · rename_i h16
    have hy : x.toNat < 256 := by omega
    rw [e0]
    refine ⟨by rw [hw _ hy]; omega, by rw [hw _ hy]; omega, ?_⟩
    ((conv => whnf); repeat' (first | (refine And.intro ?_ ?_; (focus (first | rfl | decide | assumption | omega | decide +kernel | exact ⟨rfl, rfl⟩ | exact ⟨rfl, rfl, rfl, rfl⟩ | exact fun h => Bool.noConfusion h | exact fun _ => rfl | exact Nat.le_of_ble_eq_true rfl | (simp only [List.length_map, List.length_append, List.length_replicate, List.length_take, List.length_drop, List.length_set, List.length_cons, List.length_nil]; omega))); (conv => whnf)) | ((refine And.intro ?_ ?_ <;> intro _h); all_goals ((first | replace _h := of_decide_eq_true _h | replace _h := of_decide_eq_false _h | skip); (try simp only [Bool.not_eq_true', Bool.not_eq_false', Bool.not_true, Bool.not_false, decide_eq_true_eq, decide_eq_false_iff_not] at _h); (try (guard_hyp _h : True; clear _h)); first | done | contradiction | exact absurd ((Eq.symm _h).trans (show _ = true by assumption)) (by decide) | exact absurd ((Eq.symm _h).trans (show _ = false by assumption)) (by decide) | (conv => whnf))) | (intro _h; ((first | replace _h := of_decide_eq_true _h | replace _h := of_decide_eq_false _h | skip); (try simp only [Bool.not_eq_true', Bool.not_eq_false', Bool.not_true, Bool.not_false, decide_eq_true_eq, decide_eq_false_iff_not] at _h); (try (guard_hyp _h : True; clear _h)); first | done | contradiction | exact absurd ((Eq.symm _h).trans (show _ = true by assumption)) (by decide) | exact absurd ((Eq.symm _h).trans (show _ = false by assumption)) (by decide) | (conv => whnf)))))
    refine Ends.imm rfl (di (fin _ _ 0 T hT2 hy rfl (by omega) ?_))
    rfl
end Go.Proofs.YtniaeiikdgbnfaaDoor.R
namespace Go.Proofs.YtniaeiikdgbnfaaDoor.R
open Go Go.RowKit Go.Proofs Go.Proofs.YtniaeiikdgbnfaaDoor.AW
set_option linter.unusedSectionVars false
variable [Globs]
set_option maxRecDepth 100000
set_option linter.unusedSimpArgs false
set_option linter.unusedVariables false
set_option maxHeartbeats 4000000

theorem val_zero_of : ∀ (xs : List Int), (∀ j, xs.getD j 0 = 0) → val xs = 0
  | [], _ => rfl
  | x :: xs, h => by
    have h0 := h 0
    have ih := val_zero_of xs fun j => by have := h (j + 1); simpa using this
    simp at h0
    simp [val, ih, h0]

/-- The highest limb that isn't 0 says how many bits a number has. -/
theorem val_top (xs : List Int) (hx : wfl xs) (i : Nat) (hi : i < xs.length) (h : ∀ j, i + 1 ≤ j → xs.getD j 0 = 0) (hne : xs.getD i 0 ≠ 0) : blen (val xs).toNat = 32 * i + blen (xs.getD i 0).toNat := by
  have hg := hx.get i
  have e : val xs = val (xs.take i) + pw i * xs.getD i 0 := by
    rw [← val_take_succ hi]
    have := val_ext xs.length xs (xs.take (i + 1)) (Nat.le_refl _) (by simp; omega) fun j => by
      rcases Nat.lt_or_ge j (i + 1) with hj | hj
      · rw [List.getD_eq_getElem?_getD, List.getD_eq_getElem?_getD, List.getElem?_take, if_pos hj]
      · rw [h j hj, List.getD_eq_getElem?_getD, List.getElem?_take, if_neg (by omega)]; rfl
    exact this
  have h1 := val_lt (hx.take i)
  have h2 := val_nonneg (hx.take i)
  rw [List.length_take, Nat.min_eq_left (by omega)] at h1
  have hp := pw_pos i
  obtain ⟨b, hb⟩ : ∃ b : Nat, xs.getD i 0 = b := ⟨(xs.getD i 0).toNat, by omega⟩
  rw [hb] at e hg ⊢
  rw [Int.toNat_natCast]
  obtain ⟨p, hpp⟩ : ∃ p : Nat, pw i = p := ⟨(pw i).toNat, by omega⟩
  obtain ⟨a, ha⟩ : ∃ a : Nat, val (xs.take i) = a := ⟨(val (xs.take i)).toNat, by omega⟩
  have hp2 : p = 2 ^ (32 * i) := by
    have := pw_two i
    rw [hpp] at this
    exact_mod_cast this
  rw [ha, hpp] at e
  rw [ha, hpp] at h1
  have hv : (val xs).toNat = a + p * b := by rw [e]; have : ((a : Int) + p * b) = ((a + p * b : Nat) : Int) := by push_cast; rfl
                                             rw [this, Int.toNat_natCast]
  rw [hv]
  have hb1 : 1 ≤ b := by omega
  have hap : a < p := by omega
  have hle : 2 ^ (32 * i) ≤ a + p * b := by
    rw [← hp2]
    have : p * 1 ≤ p * b := Nat.mul_le_mul_left p hb1
    omega
  rw [blen_div hle, ← hp2, Nat.add_mul_div_left _ _ (by omega), Nat.div_eq_of_lt hap, Nat.zero_add]
  exact Nat.add_comm _ _

def told24 : AW.Told := ⟨fun _ => false, fun r i => if r == 1 && i == 2 then [6] else [], fun _ => .done⟩

theorem f24 (xs : List Int) (hx : wfl xs) : Imm Tryd.prog 56 [.d (nat xs)] (fun r => r = i64 (if bad xs then 0 else blen (val xs).toNat)) := by
  (refine Imm.of_awp told24 [] Tryd.func56 rfl (by decide) (Nat.le_of_ble_eq_true rfl) ?_; intro _w0 _S0 _E0 _B0; ((conv => whnf); repeat' (first | (refine And.intro ?_ ?_; (focus (first | rfl | decide | assumption | omega | decide +kernel | exact ⟨rfl, rfl⟩ | exact ⟨rfl, rfl, rfl, rfl⟩ | exact fun h => Bool.noConfusion h | exact fun _ => rfl | exact Nat.le_of_ble_eq_true rfl | (simp only [List.length_map, List.length_append, List.length_replicate, List.length_take, List.length_drop, List.length_set, List.length_cons, List.length_nil]; omega))); (conv => whnf)) | ((refine And.intro ?_ ?_ <;> intro _h); all_goals ((first | replace _h := of_decide_eq_true _h | replace _h := of_decide_eq_false _h | skip); (try simp only [Bool.not_eq_true', Bool.not_eq_false', Bool.not_true, Bool.not_false, decide_eq_true_eq, decide_eq_false_iff_not] at _h); (try (guard_hyp _h : True; clear _h)); first | done | contradiction | exact absurd ((Eq.symm _h).trans (show _ = true by assumption)) (by decide) | exact absurd ((Eq.symm _h).trans (show _ = false by assumption)) (by decide) | (conv => whnf))) | (intro _h; ((first | replace _h := of_decide_eq_true _h | replace _h := of_decide_eq_false _h | skip); (try simp only [Bool.not_eq_true', Bool.not_eq_false', Bool.not_true, Bool.not_false, decide_eq_true_eq, decide_eq_false_iff_not] at _h); (try (guard_hyp _h : True; clear _h)); first | done | contradiction | exact absurd ((Eq.symm _h).trans (show _ = true by assumption)) (by decide) | exact absurd ((Eq.symm _h).trans (show _ = false by assumption)) (by decide) | (conv => whnf))))))
  refine acallI (f35 [xs]) rfl fun r hr => ?_
  subst hr
  ((conv => whnf); repeat' (first | (refine And.intro ?_ ?_; (focus (first | rfl | decide | assumption | omega | decide +kernel | exact ⟨rfl, rfl⟩ | exact ⟨rfl, rfl, rfl, rfl⟩ | exact fun h => Bool.noConfusion h | exact fun _ => rfl | exact Nat.le_of_ble_eq_true rfl | (simp only [List.length_map, List.length_append, List.length_replicate, List.length_take, List.length_drop, List.length_set, List.length_cons, List.length_nil]; omega))); (conv => whnf)) | ((refine And.intro ?_ ?_ <;> intro _h); all_goals ((first | replace _h := of_decide_eq_true _h | replace _h := of_decide_eq_false _h | skip); (try simp only [Bool.not_eq_true', Bool.not_eq_false', Bool.not_true, Bool.not_false, decide_eq_true_eq, decide_eq_false_iff_not] at _h); (try (guard_hyp _h : True; clear _h)); first | done | contradiction | exact absurd ((Eq.symm _h).trans (show _ = true by assumption)) (by decide) | exact absurd ((Eq.symm _h).trans (show _ = false by assumption)) (by decide) | (conv => whnf))) | (intro _h; ((first | replace _h := of_decide_eq_true _h | replace _h := of_decide_eq_false _h | skip); (try simp only [Bool.not_eq_true', Bool.not_eq_false', Bool.not_true, Bool.not_false, decide_eq_true_eq, decide_eq_false_iff_not] at _h); (try (guard_hyp _h : True; clear _h)); first | done | contradiction | exact absurd ((Eq.symm _h).trans (show _ = true by assumption)) (by decide) | exact absurd ((Eq.symm _h).trans (show _ = false by assumption)) (by decide) | (conv => whnf)))))
  · simp at _h
    exact Ends.imm rfl (by rw [if_pos _h])
  · simp at _h
    have hbx := _h
    unfold bad at hbx
    simp at hbx
    rw [_h]
    refine acallI (f38 xs) rfl fun r hr => ?_
    subst hr
    ((conv => whnf); repeat' (first | (refine And.intro ?_ ?_; (focus (first | rfl | decide | assumption | omega | decide +kernel | exact ⟨rfl, rfl⟩ | exact ⟨rfl, rfl, rfl, rfl⟩ | exact fun h => Bool.noConfusion h | exact fun _ => rfl | exact Nat.le_of_ble_eq_true rfl | (simp only [List.length_map, List.length_append, List.length_replicate, List.length_take, List.length_drop, List.length_set, List.length_cons, List.length_nil]; omega))); (conv => whnf)) | ((refine And.intro ?_ ?_ <;> intro _h); all_goals ((first | replace _h := of_decide_eq_true _h | replace _h := of_decide_eq_false _h | skip); (try simp only [Bool.not_eq_true', Bool.not_eq_false', Bool.not_true, Bool.not_false, decide_eq_true_eq, decide_eq_false_iff_not] at _h); (try (guard_hyp _h : True; clear _h)); first | done | contradiction | exact absurd ((Eq.symm _h).trans (show _ = true by assumption)) (by decide) | exact absurd ((Eq.symm _h).trans (show _ = false by assumption)) (by decide) | (conv => whnf))) | (intro _h; ((first | replace _h := of_decide_eq_true _h | replace _h := of_decide_eq_false _h | skip); (try simp only [Bool.not_eq_true', Bool.not_eq_false', Bool.not_true, Bool.not_false, decide_eq_true_eq, decide_eq_false_iff_not] at _h); (try (guard_hyp _h : True; clear _h)); first | done | contradiction | exact absurd ((Eq.symm _h).trans (show _ = true by assumption)) (by decide) | exact absurd ((Eq.symm _h).trans (show _ = false by assumption)) (by decide) | (conv => whnf)))))
    refine AWp.rangeFunc told24 (ai49 xs) (ι := Int) [(0, .d (nat xs)), (2, .optr 0 0)] (fun v => [(0, .cell 3 [i64 v])]) 20 1 1 (fun k v => v = 0 ∧ ∀ j, xs.length ≤ j + k → xs.getD j 0 = 0)
      (fun e v => match e with
        | .ret => v = blen (val xs).toNat
        | _ => False) rfl rfl rfl (fun k hk => rfl) rfl rfl (Nat.zero_le _) (Nat.le_refl _) rfl
      ⟨0, [0], rfl, ⟨rfl, fun j hj => by rw [List.getD_eq_getElem?_getD, List.getElem?_eq_none (by omega)]; rfl⟩, by (refine ⟨rfl, rfl, ?_, ?_⟩ <;> repeat' (first | exact True.intro | rfl | decide | (refine And.intro ?_ ?_)))⟩ ?_ ?_ ?_ ?_
    · intro k v hk ⟨hv, hz⟩ _ _ _ _ _
      subst hv
      have hg := hx.get (xs.length - 1 - k)
      have hb := (blen_le (xs.getD (xs.length - 1 - k) 0).toNat 32).2 (by omega)
      ((conv => whnf); repeat' (first | (refine And.intro ?_ ?_; (focus (first | rfl | decide | assumption | omega | decide +kernel | exact ⟨rfl, rfl⟩ | exact ⟨rfl, rfl, rfl, rfl⟩ | exact fun h => Bool.noConfusion h | exact fun _ => rfl | exact Nat.le_of_ble_eq_true rfl | (simp only [List.length_map, List.length_append, List.length_replicate, List.length_take, List.length_drop, List.length_set, List.length_cons, List.length_nil]; omega))); (conv => whnf)) | ((refine And.intro ?_ ?_ <;> intro _h); all_goals ((first | replace _h := of_decide_eq_true _h | replace _h := of_decide_eq_false _h | skip); (try simp only [Bool.not_eq_true', Bool.not_eq_false', Bool.not_true, Bool.not_false, decide_eq_true_eq, decide_eq_false_iff_not] at _h); (try (guard_hyp _h : True; clear _h)); first | done | contradiction | exact absurd ((Eq.symm _h).trans (show _ = true by assumption)) (by decide) | exact absurd ((Eq.symm _h).trans (show _ = false by assumption)) (by decide) | (conv => whnf))) | (intro _h; ((first | replace _h := of_decide_eq_true _h | replace _h := of_decide_eq_false _h | skip); (try simp only [Bool.not_eq_true', Bool.not_eq_false', Bool.not_true, Bool.not_false, decide_eq_true_eq, decide_eq_false_iff_not] at _h); (try (guard_hyp _h : True; clear _h)); first | done | contradiction | exact absurd ((Eq.symm _h).trans (show _ = true by assumption)) (by decide) | exact absurd ((Eq.symm _h).trans (show _ = false by assumption)) (by decide) | (conv => whnf)))))
      · refine acallI (f39 _ hg.1 hg.2) rfl fun r hr => ?_
        subst hr
        ((conv => whnf); repeat' (first | (refine And.intro ?_ ?_; (focus (first | rfl | decide | assumption | omega | decide +kernel | exact ⟨rfl, rfl⟩ | exact ⟨rfl, rfl, rfl, rfl⟩ | exact fun h => Bool.noConfusion h | exact fun _ => rfl | exact Nat.le_of_ble_eq_true rfl | (simp only [List.length_map, List.length_append, List.length_replicate, List.length_take, List.length_drop, List.length_set, List.length_cons, List.length_nil]; omega))); (conv => whnf)) | ((refine And.intro ?_ ?_ <;> intro _h); all_goals ((first | replace _h := of_decide_eq_true _h | replace _h := of_decide_eq_false _h | skip); (try simp only [Bool.not_eq_true', Bool.not_eq_false', Bool.not_true, Bool.not_false, decide_eq_true_eq, decide_eq_false_iff_not] at _h); (try (guard_hyp _h : True; clear _h)); first | done | contradiction | exact absurd ((Eq.symm _h).trans (show _ = true by assumption)) (by decide) | exact absurd ((Eq.symm _h).trans (show _ = false by assumption)) (by decide) | (conv => whnf))) | (intro _h; ((first | replace _h := of_decide_eq_true _h | replace _h := of_decide_eq_false _h | skip); (try simp only [Bool.not_eq_true', Bool.not_eq_false', Bool.not_true, Bool.not_false, decide_eq_true_eq, decide_eq_false_iff_not] at _h); (try (guard_hyp _h : True; clear _h)); first | done | contradiction | exact absurd ((Eq.symm _h).trans (show _ = true by assumption)) (by decide) | exact absurd ((Eq.symm _h).trans (show _ = false by assumption)) (by decide) | (conv => whnf)))))
        refine ⟨blen (val xs).toNat, [0], rfl, rfl, rfl, ⟨by decide, ?_⟩, trivial⟩
        show some (Ob.cell 3 [i64 (IntKind.i64.wrap (IntKind.i64.wrap (32 * ((xs.length : Int) - 1 - k)) + blen (xs.getD (xs.length - 1 - k) 0).toNat))]) = some (Ob.cell 3 [i64 (blen (val xs).toNat)])
        rw [wrap_i64 (n := 32 * ((xs.length : Int) - 1 - k)) (by omega) (by omega), wrap_i64 (by omega) (by omega)]
        rw [val_top xs hx (xs.length - 1 - k) (by omega) (fun j hj => hz j (by omega)) _h]
        congr 4
        omega
      · exact ⟨0, [0], rfl, ⟨rfl, fun j hj => by
          rcases Nat.lt_or_ge j (xs.length - k) with h | h
          · have : j = xs.length - 1 - k := by omega
            subst this; exact _h
          · exact hz j (by omega)⟩, rfl, ⟨by decide, rfl⟩, trivial⟩
    · intro v ⟨hv, hz⟩
      subst hv
      ((conv => whnf); repeat' (first | (refine And.intro ?_ ?_; (focus (first | rfl | decide | assumption | omega | decide +kernel | exact ⟨rfl, rfl⟩ | exact ⟨rfl, rfl, rfl, rfl⟩ | exact fun h => Bool.noConfusion h | exact fun _ => rfl | exact Nat.le_of_ble_eq_true rfl | (simp only [List.length_map, List.length_append, List.length_replicate, List.length_take, List.length_drop, List.length_set, List.length_cons, List.length_nil]; omega))); (conv => whnf)) | ((refine And.intro ?_ ?_ <;> intro _h); all_goals ((first | replace _h := of_decide_eq_true _h | replace _h := of_decide_eq_false _h | skip); (try simp only [Bool.not_eq_true', Bool.not_eq_false', Bool.not_true, Bool.not_false, decide_eq_true_eq, decide_eq_false_iff_not] at _h); (try (guard_hyp _h : True; clear _h)); first | done | contradiction | exact absurd ((Eq.symm _h).trans (show _ = true by assumption)) (by decide) | exact absurd ((Eq.symm _h).trans (show _ = false by assumption)) (by decide) | (conv => whnf))) | (intro _h; ((first | replace _h := of_decide_eq_true _h | replace _h := of_decide_eq_false _h | skip); (try simp only [Bool.not_eq_true', Bool.not_eq_false', Bool.not_true, Bool.not_false, decide_eq_true_eq, decide_eq_false_iff_not] at _h); (try (guard_hyp _h : True; clear _h)); first | done | contradiction | exact absurd ((Eq.symm _h).trans (show _ = true by assumption)) (by decide) | exact absurd ((Eq.symm _h).trans (show _ = false by assumption)) (by decide) | (conv => whnf)))))
      refine Ends.imm rfl ?_
      rw [val_zero_of xs fun j => hz j (by omega)]
      rfl
    · intro v hv
      ((conv => whnf); repeat' (first | (refine And.intro ?_ ?_; (focus (first | rfl | decide | assumption | omega | decide +kernel | exact ⟨rfl, rfl⟩ | exact ⟨rfl, rfl, rfl, rfl⟩ | exact fun h => Bool.noConfusion h | exact fun _ => rfl | exact Nat.le_of_ble_eq_true rfl | (simp only [List.length_map, List.length_append, List.length_replicate, List.length_take, List.length_drop, List.length_set, List.length_cons, List.length_nil]; omega))); (conv => whnf)) | ((refine And.intro ?_ ?_ <;> intro _h); all_goals ((first | replace _h := of_decide_eq_true _h | replace _h := of_decide_eq_false _h | skip); (try simp only [Bool.not_eq_true', Bool.not_eq_false', Bool.not_true, Bool.not_false, decide_eq_true_eq, decide_eq_false_iff_not] at _h); (try (guard_hyp _h : True; clear _h)); first | done | contradiction | exact absurd ((Eq.symm _h).trans (show _ = true by assumption)) (by decide) | exact absurd ((Eq.symm _h).trans (show _ = false by assumption)) (by decide) | (conv => whnf))) | (intro _h; ((first | replace _h := of_decide_eq_true _h | replace _h := of_decide_eq_false _h | skip); (try simp only [Bool.not_eq_true', Bool.not_eq_false', Bool.not_true, Bool.not_false, decide_eq_true_eq, decide_eq_false_iff_not] at _h); (try (guard_hyp _h : True; clear _h)); first | done | contradiction | exact absurd ((Eq.symm _h).trans (show _ = true by assumption)) (by decide) | exact absurd ((Eq.symm _h).trans (show _ = false by assumption)) (by decide) | (conv => whnf)))))
      refine Ends.imm rfl ?_
      rw [hv]; rfl
    · intro id v hv
      exact hv.elim

/-- A ring under way, as an object. -/
abbrev ringOb (n : List Int) (n0 : Int) : Ob := .cell 83 [.d (nat n), u32 n0, .nls (nat [])]

def told41o : AW.Told := ⟨fun f => f == 88 || f == 58, fun _ _ => [], fun _ => .done⟩

theorem f41o (n : List Int) (n0 : Int) (x : List Int) (over : Bool) (hn : wfl n) (hx : wfl x) (hbn : bad n = false) (hl : x.length = n.length) :
    CSpec Tryd.prog 88 [.optr 0 0, .d (nat x), bool over] [(0, ringOb n n0)] 1 (fun st nx r => st = [(0, ringOb n n0)] ∧ nx = 1 ∧ ∃ z, r = .d (nat z) ∧ lessS n x over z) := by
  have hbx : bad x = false := by unfold bad at hbn ⊢; rw [hl]; exact hbn
  refine CSpec.ends (CSpec.of_awp told41o [] Tryd.func88 rfl (by decide) (Nat.le_of_ble_eq_true rfl) fun _w0 _S0 _E0 _B0 => ?_)
  ((conv => whnf); repeat' (first | (refine And.intro ?_ ?_; (focus (first | rfl | decide | assumption | omega | decide +kernel | exact ⟨rfl, rfl⟩ | exact ⟨rfl, rfl, rfl, rfl⟩ | exact fun h => Bool.noConfusion h | exact fun _ => rfl | exact Nat.le_of_ble_eq_true rfl | (simp only [List.length_map, List.length_append, List.length_replicate, List.length_take, List.length_drop, List.length_set, List.length_cons, List.length_nil]; omega))); (conv => whnf)) | ((refine And.intro ?_ ?_ <;> intro _h); all_goals ((first | replace _h := of_decide_eq_true _h | replace _h := of_decide_eq_false _h | skip); (try simp only [Bool.not_eq_true', Bool.not_eq_false', Bool.not_true, Bool.not_false, decide_eq_true_eq, decide_eq_false_iff_not] at _h); (try (guard_hyp _h : True; clear _h)); first | done | contradiction | exact absurd ((Eq.symm _h).trans (show _ = true by assumption)) (by decide) | exact absurd ((Eq.symm _h).trans (show _ = false by assumption)) (by decide) | (conv => whnf))) | (intro _h; ((first | replace _h := of_decide_eq_true _h | replace _h := of_decide_eq_false _h | skip); (try simp only [Bool.not_eq_true', Bool.not_eq_false', Bool.not_true, Bool.not_false, decide_eq_true_eq, decide_eq_false_iff_not] at _h); (try (guard_hyp _h : True; clear _h)); first | done | contradiction | exact absurd ((Eq.symm _h).trans (show _ = true by assumption)) (by decide) | exact absurd ((Eq.symm _h).trans (show _ = false by assumption)) (by decide) | (conv => whnf)))))
  refine acallI (f50 x n hx hn) rfl fun r hr => ?_
  rw [if_neg (by simp [hbx, hbn, hl])] at hr
  obtain ⟨zs, c, rfl, hzl, hz, hc, hv⟩ := hr
  ((conv => whnf); repeat' (first | (refine And.intro ?_ ?_; (focus (first | rfl | decide | assumption | omega | decide +kernel | exact ⟨rfl, rfl⟩ | exact ⟨rfl, rfl, rfl, rfl⟩ | exact fun h => Bool.noConfusion h | exact fun _ => rfl | exact Nat.le_of_ble_eq_true rfl | (simp only [List.length_map, List.length_append, List.length_replicate, List.length_take, List.length_drop, List.length_set, List.length_cons, List.length_nil]; omega))); (conv => whnf)) | ((refine And.intro ?_ ?_ <;> intro _h); all_goals ((first | replace _h := of_decide_eq_true _h | replace _h := of_decide_eq_false _h | skip); (try simp only [Bool.not_eq_true', Bool.not_eq_false', Bool.not_true, Bool.not_false, decide_eq_true_eq, decide_eq_false_iff_not] at _h); (try (guard_hyp _h : True; clear _h)); first | done | contradiction | exact absurd ((Eq.symm _h).trans (show _ = true by assumption)) (by decide) | exact absurd ((Eq.symm _h).trans (show _ = false by assumption)) (by decide) | (conv => whnf))) | (intro _h; ((first | replace _h := of_decide_eq_true _h | replace _h := of_decide_eq_false _h | skip); (try simp only [Bool.not_eq_true', Bool.not_eq_false', Bool.not_true, Bool.not_false, decide_eq_true_eq, decide_eq_false_iff_not] at _h); (try (guard_hyp _h : True; clear _h)); first | done | contradiction | exact absurd ((Eq.symm _h).trans (show _ = true by assumption)) (by decide) | exact absurd ((Eq.symm _h).trans (show _ = false by assumption)) (by decide) | (conv => whnf)))))
  · refine ⟨[0], [(0, ringOb n n0)], .d (nat zs), ⟨rfl, ⟨⟨by decide, rfl⟩, trivial⟩, rfl⟩, rfl, rfl, zs, rfl, by rw [hzl, hl], hz, ?_⟩
    have : c = 0 := by omega
    subst this
    rw [if_pos (.inr (by have := val_nonneg hz; omega)), ← hl, mod_of hz hzl hv]
  · refine ⟨[0], [(0, ringOb n n0)], .d (nat x), ⟨rfl, ⟨⟨by decide, rfl⟩, trivial⟩, rfl⟩, rfl, rfl, x, rfl, hl, hx, ?_⟩
    rw [if_neg]
    have h1 := val_lt hz
    rw [hzl] at h1
    have : over = false := by assumption
    subst this
    subst c
    simp; omega
  · refine ⟨[0], [(0, ringOb n n0)], .d (nat zs), ⟨rfl, ⟨⟨by decide, rfl⟩, trivial⟩, rfl⟩, rfl, rfl, zs, rfl, by rw [hzl, hl], hz, ?_⟩
    rw [if_pos (.inl (by assumption)), ← hl, mod_of hz hzl hv]

theorem f28o (n : List Int) (n0 : Int) (x : List Int) (hn : wfl n) (hx : wfl x) (hbn : bad n = false) (hl : x.length = n.length) (hv : val x < val n) :
    CSpec Tryd.prog 58 [.optr 0 0, .d (nat x)] [(0, ringOb n n0)] 1 (fun st nx r => st = [(0, ringOb n n0)] ∧ nx = 1 ∧ ∃ z, r = .d (nat z) ∧ z.length = n.length ∧ wfl z ∧ val z = (2 * val x) % val n) := by
  have hbx : bad x = false := by unfold bad at hbn ⊢; rw [hl]; exact hbn
  refine CSpec.ends (CSpec.of_awp told41o [] Tryd.func58 rfl (by decide) (Nat.le_of_ble_eq_true rfl) fun _w0 _S0 _E0 _B0 => ?_)
  ((conv => whnf); repeat' (first | (refine And.intro ?_ ?_; (focus (first | rfl | decide | assumption | omega | decide +kernel | exact ⟨rfl, rfl⟩ | exact ⟨rfl, rfl, rfl, rfl⟩ | exact fun h => Bool.noConfusion h | exact fun _ => rfl | exact Nat.le_of_ble_eq_true rfl | (simp only [List.length_map, List.length_append, List.length_replicate, List.length_take, List.length_drop, List.length_set, List.length_cons, List.length_nil]; omega))); (conv => whnf)) | ((refine And.intro ?_ ?_ <;> intro _h); all_goals ((first | replace _h := of_decide_eq_true _h | replace _h := of_decide_eq_false _h | skip); (try simp only [Bool.not_eq_true', Bool.not_eq_false', Bool.not_true, Bool.not_false, decide_eq_true_eq, decide_eq_false_iff_not] at _h); (try (guard_hyp _h : True; clear _h)); first | done | contradiction | exact absurd ((Eq.symm _h).trans (show _ = true by assumption)) (by decide) | exact absurd ((Eq.symm _h).trans (show _ = false by assumption)) (by decide) | (conv => whnf))) | (intro _h; ((first | replace _h := of_decide_eq_true _h | replace _h := of_decide_eq_false _h | skip); (try simp only [Bool.not_eq_true', Bool.not_eq_false', Bool.not_true, Bool.not_false, decide_eq_true_eq, decide_eq_false_iff_not] at _h); (try (guard_hyp _h : True; clear _h)); first | done | contradiction | exact absurd ((Eq.symm _h).trans (show _ = true by assumption)) (by decide) | exact absurd ((Eq.symm _h).trans (show _ = false by assumption)) (by decide) | (conv => whnf)))))
  refine acallI (f40 x x hx hx) rfl fun r hr => ?_
  rw [if_neg (by simp [hbx])] at hr
  obtain ⟨zs, c, rfl, hzl, hz, hc, hvz⟩ := hr
  ((conv => whnf); repeat' (first | (refine And.intro ?_ ?_; (focus (first | rfl | decide | assumption | omega | decide +kernel | exact ⟨rfl, rfl⟩ | exact ⟨rfl, rfl, rfl, rfl⟩ | exact fun h => Bool.noConfusion h | exact fun _ => rfl | exact Nat.le_of_ble_eq_true rfl | (simp only [List.length_map, List.length_append, List.length_replicate, List.length_take, List.length_drop, List.length_set, List.length_cons, List.length_nil]; omega))); (conv => whnf)) | ((refine And.intro ?_ ?_ <;> intro _h); all_goals ((first | replace _h := of_decide_eq_true _h | replace _h := of_decide_eq_false _h | skip); (try simp only [Bool.not_eq_true', Bool.not_eq_false', Bool.not_true, Bool.not_false, decide_eq_true_eq, decide_eq_false_iff_not] at _h); (try (guard_hyp _h : True; clear _h)); first | done | contradiction | exact absurd ((Eq.symm _h).trans (show _ = true by assumption)) (by decide) | exact absurd ((Eq.symm _h).trans (show _ = false by assumption)) (by decide) | (conv => whnf))) | (intro _h; ((first | replace _h := of_decide_eq_true _h | replace _h := of_decide_eq_false _h | skip); (try simp only [Bool.not_eq_true', Bool.not_eq_false', Bool.not_true, Bool.not_false, decide_eq_true_eq, decide_eq_false_iff_not] at _h); (try (guard_hyp _h : True; clear _h)); first | done | contradiction | exact absurd ((Eq.symm _h).trans (show _ = true by assumption)) (by decide) | exact absurd ((Eq.symm _h).trans (show _ = false by assumption)) (by decide) | (conv => whnf)))))
  refine acall [0] (f41o n n0 zs (decide (c = 1)) hn hz hbn (by omega)) rfl ⟨⟨by decide, rfl⟩, trivial⟩ rfl (fun h => Bool.noConfusion h) fun st nx r hr => ?_
  obtain ⟨rfl, rfl, z, rfl, hz1, hz2, hz3⟩ := hr
  ((conv => whnf); repeat' (first | (refine And.intro ?_ ?_; (focus (first | rfl | decide | assumption | omega | decide +kernel | exact ⟨rfl, rfl⟩ | exact ⟨rfl, rfl, rfl, rfl⟩ | exact fun h => Bool.noConfusion h | exact fun _ => rfl | exact Nat.le_of_ble_eq_true rfl | (simp only [List.length_map, List.length_append, List.length_replicate, List.length_take, List.length_drop, List.length_set, List.length_cons, List.length_nil]; omega))); (conv => whnf)) | ((refine And.intro ?_ ?_ <;> intro _h); all_goals ((first | replace _h := of_decide_eq_true _h | replace _h := of_decide_eq_false _h | skip); (try simp only [Bool.not_eq_true', Bool.not_eq_false', Bool.not_true, Bool.not_false, decide_eq_true_eq, decide_eq_false_iff_not] at _h); (try (guard_hyp _h : True; clear _h)); first | done | contradiction | exact absurd ((Eq.symm _h).trans (show _ = true by assumption)) (by decide) | exact absurd ((Eq.symm _h).trans (show _ = false by assumption)) (by decide) | (conv => whnf))) | (intro _h; ((first | replace _h := of_decide_eq_true _h | replace _h := of_decide_eq_false _h | skip); (try simp only [Bool.not_eq_true', Bool.not_eq_false', Bool.not_true, Bool.not_false, decide_eq_true_eq, decide_eq_false_iff_not] at _h); (try (guard_hyp _h : True; clear _h)); first | done | contradiction | exact absurd ((Eq.symm _h).trans (show _ = true by assumption)) (by decide) | exact absurd ((Eq.symm _h).trans (show _ = false by assumption)) (by decide) | (conv => whnf)))))
  exact ⟨[0], [(0, ringOb n n0)], .d (nat z), ⟨rfl, ⟨⟨by decide, rfl⟩, trivial⟩, rfl⟩, rfl, rfl, z, rfl, hz1, hz2, dbl hn hx hl hv hzl hz hc hvz hz1 hz2 hz3⟩

/-! ### An odd number's inverse -/
theorem inv_step {m y : Int} (j j' : Nat) (h : (m * y - 1) % 2 ^ j = 0) (h1 : j' ≤ 2 * j) (h2 : j' ≤ 32) :
    (m * ((y * ((2 - (m * y) % 4294967296) % 4294967296)) % 4294967296) - 1) % 2 ^ j' = 0 := by
  have hd : ∀ z : Int, ∃ q, z % 4294967296 = z - 4294967296 * q := fun z => ⟨z / 4294967296, by omega⟩
  obtain ⟨q1, e1⟩ := hd (m * y)
  obtain ⟨q2, e2⟩ := hd (2 - (m * y) % 4294967296)
  obtain ⟨q3, e3⟩ := hd (y * ((2 - (m * y) % 4294967296) % 4294967296))
  obtain ⟨t, ht⟩ : ∃ t, m * y - 1 = 2 ^ j * t := ⟨(m * y - 1) / 2 ^ j, by have := Int.mul_ediv_add_emod (m * y - 1) (2 ^ j); omega⟩
  obtain ⟨a, ha⟩ : ∃ a : Nat, 2 * j = j' + a := ⟨2 * j - j', by omega⟩
  obtain ⟨b, hb⟩ : ∃ b : Nat, 32 = j' + b := ⟨32 - j', by omega⟩
  have p1 : (2 : Int) ^ j * 2 ^ j = 2 ^ j' * 2 ^ a := by rw [← Int.pow_add, ← Int.pow_add, ← ha]; congr 1; omega
  have p2 : (4294967296 : Int) = 2 ^ j' * 2 ^ b := by rw [← Int.pow_add, ← hb]; rfl
  rw [e3, e2, e1]
  generalize (2 : Int) ^ j = P at *
  generalize (2 : Int) ^ j' = R at *
  generalize (2 : Int) ^ a = A at *
  generalize (2 : Int) ^ b = B at *
  generalize (4294967296 : Int) = W at *
  have : m * (y * (2 - (m * y - W * q1) - W * q2) - W * q3) - 1 = R * (-(A * t * t) + B * (m * y * q1 - m * y * q2 - m * q3)) := by
    have hm : m * y = 1 + P * t := by omega
    have e : m * (y * (2 - (m * y - W * q1) - W * q2) - W * q3) - 1 = (m * y) * (2 - (m * y)) - 1 + W * (m * y * q1 - m * y * q2 - m * q3) := by grind
    rw [e, p2, hm]
    have e4 : (1 + P * t) * (2 - (1 + P * t)) - 1 = -(P * P * (t * t)) := by grind
    rw [e4, p1]
    grind
  rw [this, Int.mul_emod_right]

def jj (k : Nat) : Nat := [3, 6, 12, 24, 32, 32].getD k 0
theorem jj_step {k : Nat} (h : k < 5) : jj (k + 1) ≤ 2 * jj k ∧ jj (k + 1) ≤ 32 := by
  have : ∀ k : Fin 5, jj (k.val + 1) ≤ 2 * jj k.val ∧ jj (k.val + 1) ≤ 32 := by decide
  exact this ⟨k, h⟩

def told11 : AW.Told := ⟨fun f => f == 58, fun r i => if r == 10 && i == 4 then [42] else if r == 13 && i == 0 then [6] else [], fun _ => .done⟩

theorem odd_sq {m : Int} (h : m % 2 = 1) : (m * m - 1) % 2 ^ 3 = 0 := by
  obtain ⟨k, rfl⟩ : ∃ k, m = 2 * k + 1 := ⟨m / 2, by omega⟩
  have e : (2 * k + 1) * (2 * k + 1) - 1 = 4 * (k * (k + 1)) := by grind
  obtain ⟨j, hj⟩ : ∃ j, k * (k + 1) = 2 * j := by
    rcases (show k % 2 = 0 ∨ k % 2 = 1 by omega) with h | h
    · exact ⟨(k / 2) * (k + 1), by have : k = 2 * (k / 2) := by omega
                                   generalize k / 2 = q at *; subst this; grind⟩
    · exact ⟨k * ((k + 1) / 2), by have : k + 1 = 2 * ((k + 1) / 2) := by omega
                                   generalize (k + 1) / 2 = q at *; rw [this]; grind⟩
  rw [e, hj]
  omega

theorem two_small {n : List Int} (hn : wfl n) : blen (val n).toNat < 2 ↔ val n < 2 := by
  have := blen_le (val n).toNat 1
  have := val_nonneg hn
  omega

theorem double_pow {x N : Int} {k : Nat} (h : x = 2 ^ k % N) : 2 * x % N = 2 ^ (k + 1) % N := by
  subst h
  rw [Int.pow_succ, Int.mul_comm, Int.mul_emod, Int.emod_emod_of_dvd _ (Int.dvd_refl _), ← Int.mul_emod]

theorem f11 (n : List Int) (hn : wfl n) : Imm Tryd.prog 25 [.d (nat n)] (fun r =>
    if n.length < 1 ∨ 128 < n.length then r = .tup [.d .nilp, i64 24]
    else if n.getD 0 0 % 2 = 0 ∨ val n < 2 then r = .tup [.d .nilp, i64 12]
    else ∃ n0 rr, r = .tup [.d (ringD n n0 rr), i64 0] ∧ Ring n n0 rr) := by
  have h00 := hn.get 0
  have ht : (n.getD 0 0).tmod 2 = n.getD 0 0 % 2 := Int.tmod_eq_emod_of_nonneg h00.1
  (refine Imm.of_awp told11 [5] Tryd.func25 rfl (by decide) (Nat.le_of_ble_eq_true rfl) ?_; intro _w0 _S0 _E0 _B0; ((conv => whnf); repeat' (first | (refine And.intro ?_ ?_; (focus (first | rfl | decide | assumption | omega | decide +kernel | exact ⟨rfl, rfl⟩ | exact ⟨rfl, rfl, rfl, rfl⟩ | exact fun h => Bool.noConfusion h | exact fun _ => rfl | exact Nat.le_of_ble_eq_true rfl | (simp only [List.length_map, List.length_append, List.length_replicate, List.length_take, List.length_drop, List.length_set, List.length_cons, List.length_nil]; omega))); (conv => whnf)) | ((refine And.intro ?_ ?_ <;> intro _h); all_goals ((first | replace _h := of_decide_eq_true _h | replace _h := of_decide_eq_false _h | skip); (try simp only [Bool.not_eq_true', Bool.not_eq_false', Bool.not_true, Bool.not_false, decide_eq_true_eq, decide_eq_false_iff_not] at _h); (try (guard_hyp _h : True; clear _h)); first | done | contradiction | exact absurd ((Eq.symm _h).trans (show _ = true by assumption)) (by decide) | exact absurd ((Eq.symm _h).trans (show _ = false by assumption)) (by decide) | (conv => whnf))) | (intro _h; ((first | replace _h := of_decide_eq_true _h | replace _h := of_decide_eq_false _h | skip); (try simp only [Bool.not_eq_true', Bool.not_eq_false', Bool.not_true, Bool.not_false, decide_eq_true_eq, decide_eq_false_iff_not] at _h); (try (guard_hyp _h : True; clear _h)); first | done | contradiction | exact absurd ((Eq.symm _h).trans (show _ = true by assumption)) (by decide) | exact absurd ((Eq.symm _h).trans (show _ = false by assumption)) (by decide) | (conv => whnf))))))
  · exact Ends.imm rfl (by rw [if_pos (.inr (by omega))])
  · rename_i h1 h2 _ _
    have hlen : ¬ (n.length < 1 ∨ 128 < n.length) := by omega
    have hbn : bad n = false := by unfold bad; rw [Bool.or_eq_false_iff, decide_eq_false_iff_not, decide_eq_false_iff_not]; omega
    have hne : ¬ (n.getD 0 0 % 2 = 0) := by rw [← ht]; exact _h
    refine acallI (f24 n hn) rfl fun r hr => ?_
    rw [if_neg (by simp [hbn])] at hr
    subst hr
    have h2s := two_small hn
    ((conv => whnf); repeat' (first | (refine And.intro ?_ ?_; (focus (first | rfl | decide | assumption | omega | decide +kernel | exact ⟨rfl, rfl⟩ | exact ⟨rfl, rfl, rfl, rfl⟩ | exact fun h => Bool.noConfusion h | exact fun _ => rfl | exact Nat.le_of_ble_eq_true rfl | (simp only [List.length_map, List.length_append, List.length_replicate, List.length_take, List.length_drop, List.length_set, List.length_cons, List.length_nil]; omega))); (conv => whnf)) | ((refine And.intro ?_ ?_ <;> intro _h); all_goals ((first | replace _h := of_decide_eq_true _h | replace _h := of_decide_eq_false _h | skip); (try simp only [Bool.not_eq_true', Bool.not_eq_false', Bool.not_true, Bool.not_false, decide_eq_true_eq, decide_eq_false_iff_not] at _h); (try (guard_hyp _h : True; clear _h)); first | done | contradiction | exact absurd ((Eq.symm _h).trans (show _ = true by assumption)) (by decide) | exact absurd ((Eq.symm _h).trans (show _ = false by assumption)) (by decide) | (conv => whnf))) | (intro _h; ((first | replace _h := of_decide_eq_true _h | replace _h := of_decide_eq_false _h | skip); (try simp only [Bool.not_eq_true', Bool.not_eq_false', Bool.not_true, Bool.not_false, decide_eq_true_eq, decide_eq_false_iff_not] at _h); (try (guard_hyp _h : True; clear _h)); first | done | contradiction | exact absurd ((Eq.symm _h).trans (show _ = true by assumption)) (by decide) | exact absurd ((Eq.symm _h).trans (show _ = false by assumption)) (by decide) | (conv => whnf)))))
    · exact Ends.imm rfl (by rw [if_neg hlen, if_pos (.inr (by omega))])
    · rename_i _ hbl
      have hv : ¬ val n < 2 := by omega
      have hodd : n.getD 0 0 % 2 = 1 := by omega
      refine aloop (T := told11) (ι := Nat × Int) (fun p => [(0, .d (nat n)), (4, u32 p.2), (30, i64 p.1)]) (fun _ => []) 66 0 (fun p => 5 - p.1) (fun p => p.1 ≤ 5 ∧ (0 ≤ p.2 ∧ p.2 < 4294967296) ∧ (n.getD 0 0 * p.2 - 1) % 2 ^ jj p.1 = 0)
        ⟨(0, n.getD 0 0), [], rfl, ⟨by omega, h00, odd_sq hodd⟩, by (refine ⟨rfl, rfl, ?_, ?_⟩ <;> repeat' (first | exact True.intro | rfl | decide | (refine And.intro ?_ ?_)))⟩ ?_
      intro ⟨k, y⟩ ⟨hk, hy, hinv⟩
      dsimp only at hk hy hinv ⊢
      ((conv => whnf); repeat' (first | (refine And.intro ?_ ?_; (focus (first | rfl | decide | assumption | omega | decide +kernel | exact ⟨rfl, rfl⟩ | exact ⟨rfl, rfl, rfl, rfl⟩ | exact fun h => Bool.noConfusion h | exact fun _ => rfl | exact Nat.le_of_ble_eq_true rfl | (simp only [List.length_map, List.length_append, List.length_replicate, List.length_take, List.length_drop, List.length_set, List.length_cons, List.length_nil]; omega))); (conv => whnf)) | ((refine And.intro ?_ ?_ <;> intro _h); all_goals ((first | replace _h := of_decide_eq_true _h | replace _h := of_decide_eq_false _h | skip); (try simp only [Bool.not_eq_true', Bool.not_eq_false', Bool.not_true, Bool.not_false, decide_eq_true_eq, decide_eq_false_iff_not] at _h); (try (guard_hyp _h : True; clear _h)); first | done | contradiction | exact absurd ((Eq.symm _h).trans (show _ = true by assumption)) (by decide) | exact absurd ((Eq.symm _h).trans (show _ = false by assumption)) (by decide) | (conv => whnf))) | (intro _h; ((first | replace _h := of_decide_eq_true _h | replace _h := of_decide_eq_false _h | skip); (try simp only [Bool.not_eq_true', Bool.not_eq_false', Bool.not_true, Bool.not_false, decide_eq_true_eq, decide_eq_false_iff_not] at _h); (try (guard_hyp _h : True; clear _h)); first | done | contradiction | exact absurd ((Eq.symm _h).trans (show _ = true by assumption)) (by decide) | exact absurd ((Eq.symm _h).trans (show _ = false by assumption)) (by decide) | (conv => whnf)))))
      · have hst := inv_step (jj k) (jj (k + 1)) hinv (jj_step (by omega)).1 (jj_step (by omega)).2
        refine ⟨(k + 1, (y * ((2 - (n.getD 0 0 * y) % 4294967296) % 4294967296)) % 4294967296), [], by dsimp only; omega, ⟨by dsimp only; omega, by dsimp only; omega, hst⟩, rfl, ?_⟩
        (refine ⟨rfl, rfl, ?_, ?_⟩ <;> repeat' (first | exact True.intro | rfl | decide | (refine And.intro ?_ ?_)))
        refine di ?_
        rw [wrap_i64 (by omega) (by omega)]; rfl
      · have hk5 : k = 5 := by omega
        subst hk5
        refine acall [] (f27 n (by intro e; subst e; simp at hlen) (by omega)) rfl trivial rfl (fun h => rfl) fun st nx r hr => ?_
        obtain ⟨rfl, rfl, rfl⟩ := hr
        ((conv => whnf); repeat' (first | (refine And.intro ?_ ?_; (focus (first | rfl | decide | assumption | omega | decide +kernel | exact ⟨rfl, rfl⟩ | exact ⟨rfl, rfl, rfl, rfl⟩ | exact fun h => Bool.noConfusion h | exact fun _ => rfl | exact Nat.le_of_ble_eq_true rfl | (simp only [List.length_map, List.length_append, List.length_replicate, List.length_take, List.length_drop, List.length_set, List.length_cons, List.length_nil]; omega))); (conv => whnf)) | ((refine And.intro ?_ ?_ <;> intro _h); all_goals ((first | replace _h := of_decide_eq_true _h | replace _h := of_decide_eq_false _h | skip); (try simp only [Bool.not_eq_true', Bool.not_eq_false', Bool.not_true, Bool.not_false, decide_eq_true_eq, decide_eq_false_iff_not] at _h); (try (guard_hyp _h : True; clear _h)); first | done | contradiction | exact absurd ((Eq.symm _h).trans (show _ = true by assumption)) (by decide) | exact absurd ((Eq.symm _h).trans (show _ = false by assumption)) (by decide) | (conv => whnf))) | (intro _h; ((first | replace _h := of_decide_eq_true _h | replace _h := of_decide_eq_false _h | skip); (try simp only [Bool.not_eq_true', Bool.not_eq_false', Bool.not_true, Bool.not_false, decide_eq_true_eq, decide_eq_false_iff_not] at _h); (try (guard_hyp _h : True; clear _h)); first | done | contradiction | exact absurd ((Eq.symm _h).trans (show _ = true by assumption)) (by decide) | exact absurd ((Eq.symm _h).trans (show _ = false by assumption)) (by decide) | (conv => whnf)))))
        · have hn0 : (0 : Int) ≤ (0 - y) % 4294967296 ∧ (0 - y) % 4294967296 < 4294967296 := by omega
          obtain ⟨n0, en0⟩ : ∃ n0, n0 = (0 - y) % 4294967296 := ⟨_, rfl⟩
          refine aloop (T := told11) (ι := Nat × List Int) (fun p => [(0, .d (nat n)), (5, .optr 0 0), (6, .d (nat p.2)), (54, i64 ((64 * n.length : Nat) : Int)), (55, i64 p.1)]) (fun _ => [(0, ringOb n n0)]) 66 1
            (fun p => 64 * n.length - p.1) (fun p => p.1 ≤ 64 * n.length ∧ p.2.length = n.length ∧ wfl p.2 ∧ val p.2 = 2 ^ p.1 % val n)
            ⟨(0, oneL n.length), [1], rfl, ⟨by omega, oneL_len _, oneL_wf _, by rw [oneL_val (by omega)]; simp; rw [Int.emod_eq_of_lt] <;> omega⟩, by
              (refine ⟨rfl, rfl, ?_, ?_⟩ <;> repeat' (first | exact True.intro | rfl | decide | (refine And.intro ?_ ?_)))
              · refine di ?_
                rw [wrap_i64 (by omega) (by omega)]; simp
              · rw [en0]; rfl⟩ ?_
          intro ⟨k, x⟩ ⟨hk2, hxl, hx, hxv⟩
          dsimp only at hk2 hxl hx hxv ⊢
          have hxlt : val x < val n := by rw [hxv]; exact Int.emod_lt_of_pos _ (by omega)
          ((conv => whnf); repeat' (first | (refine And.intro ?_ ?_; (focus (first | rfl | decide | assumption | omega | decide +kernel | exact ⟨rfl, rfl⟩ | exact ⟨rfl, rfl, rfl, rfl⟩ | exact fun h => Bool.noConfusion h | exact fun _ => rfl | exact Nat.le_of_ble_eq_true rfl | (simp only [List.length_map, List.length_append, List.length_replicate, List.length_take, List.length_drop, List.length_set, List.length_cons, List.length_nil]; omega))); (conv => whnf)) | ((refine And.intro ?_ ?_ <;> intro _h); all_goals ((first | replace _h := of_decide_eq_true _h | replace _h := of_decide_eq_false _h | skip); (try simp only [Bool.not_eq_true', Bool.not_eq_false', Bool.not_true, Bool.not_false, decide_eq_true_eq, decide_eq_false_iff_not] at _h); (try (guard_hyp _h : True; clear _h)); first | done | contradiction | exact absurd ((Eq.symm _h).trans (show _ = true by assumption)) (by decide) | exact absurd ((Eq.symm _h).trans (show _ = false by assumption)) (by decide) | (conv => whnf))) | (intro _h; ((first | replace _h := of_decide_eq_true _h | replace _h := of_decide_eq_false _h | skip); (try simp only [Bool.not_eq_true', Bool.not_eq_false', Bool.not_true, Bool.not_false, decide_eq_true_eq, decide_eq_false_iff_not] at _h); (try (guard_hyp _h : True; clear _h)); first | done | contradiction | exact absurd ((Eq.symm _h).trans (show _ = true by assumption)) (by decide) | exact absurd ((Eq.symm _h).trans (show _ = false by assumption)) (by decide) | (conv => whnf)))))
          · refine acall [0] (f28o n n0 x hn hx hbn hxl hxlt) rfl ⟨⟨by decide, rfl⟩, trivial⟩ rfl (fun h => Bool.noConfusion h) fun st nx r hr => ?_
            obtain ⟨rfl, rfl, z, rfl, hz1, hz2, hz3⟩ := hr
            ((conv => whnf); repeat' (first | (refine And.intro ?_ ?_; (focus (first | rfl | decide | assumption | omega | decide +kernel | exact ⟨rfl, rfl⟩ | exact ⟨rfl, rfl, rfl, rfl⟩ | exact fun h => Bool.noConfusion h | exact fun _ => rfl | exact Nat.le_of_ble_eq_true rfl | (simp only [List.length_map, List.length_append, List.length_replicate, List.length_take, List.length_drop, List.length_set, List.length_cons, List.length_nil]; omega))); (conv => whnf)) | ((refine And.intro ?_ ?_ <;> intro _h); all_goals ((first | replace _h := of_decide_eq_true _h | replace _h := of_decide_eq_false _h | skip); (try simp only [Bool.not_eq_true', Bool.not_eq_false', Bool.not_true, Bool.not_false, decide_eq_true_eq, decide_eq_false_iff_not] at _h); (try (guard_hyp _h : True; clear _h)); first | done | contradiction | exact absurd ((Eq.symm _h).trans (show _ = true by assumption)) (by decide) | exact absurd ((Eq.symm _h).trans (show _ = false by assumption)) (by decide) | (conv => whnf))) | (intro _h; ((first | replace _h := of_decide_eq_true _h | replace _h := of_decide_eq_false _h | skip); (try simp only [Bool.not_eq_true', Bool.not_eq_false', Bool.not_true, Bool.not_false, decide_eq_true_eq, decide_eq_false_iff_not] at _h); (try (guard_hyp _h : True; clear _h)); first | done | contradiction | exact absurd ((Eq.symm _h).trans (show _ = true by assumption)) (by decide) | exact absurd ((Eq.symm _h).trans (show _ = false by assumption)) (by decide) | (conv => whnf)))))
            refine ⟨(k + 1, z), [0], by dsimp only; omega, ⟨by dsimp only; omega, hz1, hz2, by rw [hz3]; exact double_pow hxv⟩, rfl, ?_⟩
            (refine ⟨rfl, rfl, ?_, ?_⟩ <;> repeat' (first | exact True.intro | rfl | decide | (refine And.intro ?_ ?_)))
            refine di ?_
            rw [wrap_i64 (by omega) (by omega)]; rfl
          · have hke : k = 64 * n.length := by omega
            subst hke
            refine Ends.imm rfl ?_
            rw [if_neg hlen, if_neg (by omega)]
            refine ⟨n0, x, rfl, hn, hbn, by omega, ?_, hx, hxl, hxlt, by omega, 2 ^ (64 * n.length) / val n, ?_⟩
            · have e1 : jj 5 = 32 := rfl
              rw [e1] at hinv
              subst en0
              have : (2 : Int) ^ 32 = 4294967296 := rfl
              rw [this] at hinv
              obtain ⟨q, hq⟩ : ∃ q, n.getD 0 0 * y - 1 = 4294967296 * q := ⟨(n.getD 0 0 * y - 1) / 4294967296, by omega⟩
              obtain ⟨p, hp⟩ : ∃ p, (0 - y) % 4294967296 = 0 - y - 4294967296 * p := ⟨(0 - y) / 4294967296, by omega⟩
              rw [hp]
              have : n.getD 0 0 * (0 - y - 4294967296 * p) + 1 = 4294967296 * (-q - n.getD 0 0 * p) := by grind
              rw [this, Int.mul_emod_right]
            · rw [hxv, pw_two, ← Int.pow_add]
              have := Int.emod_add_mul_ediv (2 ^ (64 * n.length)) (val n)
              rw [show 32 * n.length + 32 * n.length = 64 * n.length by omega]
              rw [Int.mul_comm (2 ^ (64 * n.length) / val n)]
              omega
  · exact Ends.imm rfl (by rw [if_neg (by omega), if_pos (.inl (by rw [← ht]; assumption))])
  · exact Ends.imm rfl (by rw [if_pos (.inl (by omega))])

/-- A number, moved up by one digit. -/
def shl (n k : Nat) (r : List Int) : List Int := r.take (k + 1) ++ (r.drop k).take (n - 1 - k)

def told16 : AW.Told := ⟨fun f => f == 83, fun r i => if r == 7 && i == 5 then [25] else if r == 21 && i == 0 then [6] else [], fun _ => .done⟩


/-- Bytes. -/
abbrev byt (xs : List Int) : D := .ints .u8 xs

def sized (n : Nat) : Bool := decide (64 ≤ n) && decide (n ≤ 512) && decide (n % 64 = 0)

theorem k_sized (n : Nat) (hn : n ≤ LIM) : Imm Tryd.prog 46 [i64 n] (fun r => r = bool (sized n)) := by
  have e : ((n : Int).tmod 64 = 0) ↔ n % 64 = 0 := by rw [Int.tmod_eq_emod_of_nonneg (by omega)]; omega
  (refine Imm.of_awp told0 [] Tryd.func46 rfl (by decide) (Nat.le_of_ble_eq_true rfl) ?_; intro _w0 _S0 _E0 _B0; ((conv=>whnf);repeat'((first|(show(_=true→_)∧(_=false→_);first|refine nTt ?_|refine nFf ?_|refine gS ?_ ?_<;>(intro _h;try contradiction))|(show(_=false→_)∧(_=true→_);first|refine nU ?_|refine nV ?_|refine gZ ?_ ?_<;>(intro _h;try contradiction))|(intro _h;try contradiction)|(show _∧_;refine gA ?_)|fail);all_goals conv=>whnf)))
  · refine Ends.imm rfl ?_
    have h1 : 64 ≤ n := by omega
    have h2 : n ≤ 512 := by omega
    simp [sized, e, h1, h2]
  · refine Ends.imm rfl ?_
    have h2 : ¬ n ≤ 512 := by omega
    simp [sized, h2]
  · refine Ends.imm rfl ?_
    have h2 : ¬ 64 ≤ n := by omega
    simp [sized, h2]

def keyD (m n : List Int) (n0 : Int) (rr : List Int) : D := .ptr (.agg [byt m, ringD n n0 rr])

theorem k_size (m n : List Int) (n0 : Int) (rr : List Int) : Imm Tryd.prog 34 [.d (keyD m n n0 rr)] (fun r => r = i64 m.length) := by
  (refine Imm.of_awp told0 [] Tryd.func34 rfl (by decide) (Nat.le_of_ble_eq_true rfl) ?_; intro _w0 _S0 _E0 _B0; ((conv=>whnf);repeat'((first|(show(_=true→_)∧(_=false→_);first|refine nTt ?_|refine nFf ?_|refine gS ?_ ?_<;>(intro _h;try contradiction))|(show(_=false→_)∧(_=true→_);first|refine nU ?_|refine nV ?_|refine gZ ?_ ?_<;>(intro _h;try contradiction))|(intro _h;try contradiction)|(show _∧_;refine gA ?_)|fail);all_goals conv=>whnf)))
  exact Ends.imm rfl rfl

theorem k_n0 (n : List Int) (n0 : Int) (rr : List Int) (h : 0 ≤ n0 ∧ n0 < 4294967296) : Imm Tryd.prog 65 [.d (ringD n n0 rr)] (fun r => r = i64 n0) := by
  (refine Imm.of_awp told0 [] Tryd.func65 rfl (by decide) (Nat.le_of_ble_eq_true rfl) ?_; intro _w0 _S0 _E0 _B0; ((conv=>whnf);repeat'((first|(show(_=true→_)∧(_=false→_);first|refine nTt ?_|refine nFf ?_|refine gS ?_ ?_<;>(intro _h;try contradiction))|(show(_=false→_)∧(_=true→_);first|refine nU ?_|refine nV ?_|refine gZ ?_ ?_<;>(intro _h;try contradiction))|(intro _h;try contradiction)|(show _∧_;refine gA ?_)|fail);all_goals conv=>whnf)))
  exact Ends.imm rfl (di (wrap_i64 (by omega) (by omega)))

theorem k_rr (n : List Int) (n0 : Int) (rr : List Int) (h : rr ≠ []) (hl : rr.length ≤ 1000): Imm Tryd.prog 66 [.d (ringD n n0 rr)] (fun r => r = .d (nat rr)) := by
  (refine Imm.of_awp told0 [2] Tryd.func66 rfl (by decide) (Nat.le_of_ble_eq_true rfl) ?_; intro _w0 _S0 _E0 _B0; ((conv=>whnf);repeat'((first|(show(_=true→_)∧(_=false→_);first|refine nTt ?_|refine nFf ?_|refine gS ?_ ?_<;>(intro _h;try contradiction))|(show(_=false→_)∧(_=true→_);first|refine nU ?_|refine nV ?_|refine gZ ?_ ?_<;>(intro _h;try contradiction))|(intro _h;try contradiction)|(show _∧_;refine gA ?_)|fail);all_goals conv=>whnf)))
  refine acall [] (f27 rr h (by omega)) rfl (by simp [stIn]) rfl (fun _ => rfl) ?_
  rintro st nx r ⟨rfl, rfl, rfl⟩
  ((conv=>whnf);repeat'((first|(show(_=true→_)∧(_=false→_);first|refine nTt ?_|refine nFf ?_|refine gS ?_ ?_<;>(intro _h;try contradiction))|(show(_=false→_)∧(_=true→_);first|refine nU ?_|refine nV ?_|refine gZ ?_ ?_<;>(intro _h;try contradiction))|(intro _h;try contradiction)|(show _∧_;refine gA ?_)|fail);all_goals conv=>whnf))
  exact Ends.imm rfl rfl

/-- A copy: the caller's own. -/
theorem k_cloneO (xs : List Int) (h : xs ≠ []) (hl : xs.length ≤ 1000000) : CSpec Tryd.prog 47 [.d (byt xs)] [] 0 (fun st nx r => st = [(0, .row .u8 5 xs)] ∧ nx = 1 ∧ r = .own 0) := by
  refine CSpec.ends (CSpec.of_awp told0 [] Tryd.func47 rfl (by decide) (Nat.le_of_ble_eq_true rfl) fun _w0 _S0 _E0 _B0 => ?_)
  ((conv=>whnf);repeat'((first|(show(_=true→_)∧(_=false→_);first|refine nTt ?_|refine nFf ?_|refine gS ?_ ?_<;>(intro _h;try contradiction))|(show(_=false→_)∧(_=true→_);first|refine nU ?_|refine nV ?_|refine gZ ?_ ?_<;>(intro _h;try contradiction))|(intro _h;try contradiction)|(show _∧_;refine gA ?_)|fail);all_goals conv=>whnf))
  refine ⟨fun h' => absurd h' h, ?_⟩
  ((conv=>whnf);repeat'((first|(show(_=true→_)∧(_=false→_);first|refine nTt ?_|refine nFf ?_|refine gS ?_ ?_<;>(intro _h;try contradiction))|(show(_=false→_)∧(_=true→_);first|refine nU ?_|refine nV ?_|refine gZ ?_ ?_<;>(intro _h;try contradiction))|(intro _h;try contradiction)|(show _∧_;refine gA ?_)|fail);all_goals conv=>whnf))
  refine ⟨by show (0 + xs.length) * 1 ≤ 140737488355328; omega, ?_⟩
  ((conv=>whnf);repeat'((first|(show(_=true→_)∧(_=false→_);first|refine nTt ?_|refine nFf ?_|refine gS ?_ ?_<;>(intro _h;try contradiction))|(show(_=false→_)∧(_=true→_);first|refine nU ?_|refine nV ?_|refine gZ ?_ ?_<;>(intro _h;try contradiction))|(intro _h;try contradiction)|(show _∧_;refine gA ?_)|fail);all_goals conv=>whnf))
  exact ⟨[0], [(0, .row .u8 5 xs)], .own 0, ⟨rfl, ⟨⟨by decide, rfl⟩, trivial⟩, rfl⟩, rfl, rfl, rfl⟩
theorem k_clone (xs : List Int) (h : xs ≠ []) (hl : xs.length ≤ 1000000) : Imm Tryd.prog 47 [.d (byt xs)] (fun r => r = .d (byt xs)) := by
  (refine Imm.of_awp told0 [2] Tryd.func47 rfl (by decide) (Nat.le_of_ble_eq_true rfl) ?_; intro _w0 _S0 _E0 _B0; ((conv=>whnf);repeat'((first|(show(_=true→_)∧(_=false→_);first|refine nTt ?_|refine nFf ?_|refine gS ?_ ?_<;>(intro _h;try contradiction))|(show(_=false→_)∧(_=true→_);first|refine nU ?_|refine nV ?_|refine gZ ?_ ?_<;>(intro _h;try contradiction))|(intro _h;try contradiction)|(show _∧_;refine gA ?_)|fail);all_goals conv=>whnf)))
  refine ⟨fun h' => absurd h' h, ?_⟩
  ((conv=>whnf);repeat'((first|(show(_=true→_)∧(_=false→_);first|refine nTt ?_|refine nFf ?_|refine gS ?_ ?_<;>(intro _h;try contradiction))|(show(_=false→_)∧(_=true→_);first|refine nU ?_|refine nV ?_|refine gZ ?_ ?_<;>(intro _h;try contradiction))|(intro _h;try contradiction)|(show _∧_;refine gA ?_)|fail);all_goals conv=>whnf))
  refine ⟨by show (0 + xs.length) * 1 ≤ 140737488355328; omega, ?_⟩
  ((conv=>whnf);repeat'((first|(show(_=true→_)∧(_=false→_);first|refine nTt ?_|refine nFf ?_|refine gS ?_ ?_<;>(intro _h;try contradiction))|(show(_=false→_)∧(_=true→_);first|refine nU ?_|refine nV ?_|refine gZ ?_ ?_<;>(intro _h;try contradiction))|(intro _h;try contradiction)|(show _∧_;refine gA ?_)|fail);all_goals conv=>whnf))
  exact Ends.imm rfl rfl
theorem k_cloneN : Imm Tryd.prog 47 [.nls (byt [])] (fun r => r = .nls (byt [])) := by
  (refine Imm.of_awp told0 [] Tryd.func47 rfl (by decide) (Nat.le_of_ble_eq_true rfl) ?_; intro _w0 _S0 _E0 _B0; ((conv=>whnf);repeat'((first|(show(_=true→_)∧(_=false→_);first|refine nTt ?_|refine nFf ?_|refine gS ?_ ?_<;>(intro _h;try contradiction))|(show(_=false→_)∧(_=true→_);first|refine nU ?_|refine nV ?_|refine gZ ?_ ?_<;>(intro _h;try contradiction))|(intro _h;try contradiction)|(show _∧_;refine gA ?_)|fail);all_goals conv=>whnf)))
  exact Ends.imm rfl rfl

theorem rev_take {xs : List Int} {k : Nat} (h : k < xs.length) : xs.reverse.take (k + 1) = xs.reverse.take k ++ [xs.getD (xs.length - 1 - k) 0] := by
  rw [take_snoc (by simpa using h)]
  congr 2
  rw [List.getD_eq_getElem?_getD, List.getD_eq_getElem?_getD, List.getElem?_reverse h]

theorem wfd.reverse {xs : List Int} (h : wfd xs) : wfd xs.reverse := fun x hx => h x (by simpa using hx)

def toldLow : AW.Told := ⟨fun _ => false, fun r i => if r == 6 && i == 1 then [20] else [], fun _ => .done⟩

def toldHigh : AW.Told := told0


/-- A number in n bytes, the highest first. -/
def be (n v : Nat) : List Int := (List.range n).map fun i => ((v / 256 ^ (n - 1 - i) % 256 : Nat) : Int)
theorem be_length (n v : Nat) : (be n v).length = n := by simp [be]
theorem be_wfd (n v : Nat) : wfd (be n v) := fun x hx => by
  simp only [be, List.mem_map] at hx
  obtain ⟨i, _, rfl⟩ := hx
  omega
theorem be_take {n v k : Nat} (h : k < n) : (be n v).take (k + 1) = (be n v).take k ++ [((v / 256 ^ (n - 1 - k) % 256 : Nat) : Int)] := by
  rw [take_snoc (by rw [be_length]; exact h)]
  congr 2
  rw [List.getD_eq_getElem?_getD, be, List.getElem?_map, List.getElem?_range h]; rfl
theorem dval_be (n v : Nat) : dval (be n v).reverse = ((v % 256 ^ n : Nat) : Int) := by
  have : ∀ k, k ≤ n → dval ((be n v).reverse.take k) = ((v % 256 ^ k : Nat) : Int) := fun k => by
    induction k with
    | zero => intro _; simp [dval, Nat.mod_one]
    | succ k ih =>
      intro hk
      rw [rev_take (by rw [be_length]; exact hk), dval_snoc, ih (by omega), List.length_take, List.length_reverse, be_length, Nat.min_eq_left (by omega)]
      have e : (be n v).getD (n - 1 - k) 0 = ((v / 256 ^ k % 256 : Nat) : Int) := by
        rw [List.getD_eq_getElem?_getD, be, List.getElem?_map, List.getElem?_range (by omega)]
        simp only [Option.map_some, Option.getD_some]
        rw [show n - 1 - (n - 1 - k) = k by omega]
      rw [e, Nat.mod_pow_succ, dpw]
      push_cast
      rfl
  have h := this n (Nat.le_refl _)
  rwa [List.take_of_length_le (by simp [be_length])] at h

theorem shr64 (x : Nat) (m : Int) (k : Nat) (hm : m = 8 * k) (hk : k ≤ 8) : (x : Int) / 2 ^ min m.toNat (IntKind.bits .i64) = ((x / 256 ^ k : Nat) : Int) := by
  subst hm
  have e : (8 * (k : Int)).toNat = 8 * k := by omega
  rw [e, Nat.min_eq_left (by simp [IntKind.bits]; omega), Int.pow_mul]
  push_cast
  rfl

def putQ (n v : Nat) (b : List Int) (r : AVal) : Prop := r = .tup [.d (byt (b ++ be n v)), i64 0]

theorem k_put (n v : Nat) (hn : 1 ≤ n ∧ n ≤ 8) (hv : v < 256 ^ n) (hv2 : v ≤ 9223372036854775807) (b : List Int) (hb : b ≠ []) (hl : b.length ≤ 100000) :
    Imm Tryd.prog 64 [.d (byt b), i64 n, i64 v] (putQ n v b) := by
  have w1 : IntKind.i64.wrap (8 * (n : Int)) = 8 * n := wrap_i64 (by omega) (by omega)
  have sh := fun (k : Nat) (hk : k ≤ 8) => shr64 v (8 * (k : Int)) k rfl hk
  have hz : (v : Int) / 2 ^ min (IntKind.i64.wrap (8 * (n : Int))).toNat (IntKind.bits .i64) = 0 := by rw [w1, sh n (by omega), Nat.div_eq_of_lt hv]; rfl
  (refine Imm.of_awp told0 [6] Tryd.func64 rfl (by decide) (Nat.le_of_ble_eq_true rfl) ?_; intro _w0 _S0 _E0 _B0; ((conv=>whnf);repeat'((first|(show(_=true→_)∧(_=false→_);first|refine gT ?_|refine gF ?_|refine gS ?_ ?_<;>(intro _h;try contradiction))|(show(_=false→_)∧(_=true→_);first|refine gU ?_|refine gV ?_|refine gZ ?_ ?_<;>(intro _h;try contradiction))|(intro _h;try contradiction)|(show _∧_;refine gA ?_)|fail);all_goals conv=>whnf)))
  all_goals
    refine acall [] (k_cloneO b hb (by omega)) rfl (by simp [stIn]) rfl (fun _ => rfl) ?_
    rintro st nx r ⟨rfl, rfl, rfl⟩
    ((conv=>whnf);repeat'((first|(show(_=true→_)∧(_=false→_);first|refine nTt ?_|refine nFf ?_|refine gS ?_ ?_<;>(intro _h;try contradiction))|(show(_=false→_)∧(_=true→_);first|refine nU ?_|refine nV ?_|refine gZ ?_ ?_<;>(intro _h;try contradiction))|(intro _h;try contradiction)|(show _∧_;refine gA ?_)|fail);all_goals conv=>whnf))
    refine aloop (T := told0) (ι := Nat) (fun k => [(1, i64 n), (2, i64 v), (8, .own 0), (9, i64 ((n : Int) - 1 - k))]) (fun k => [(0, .row .u8 5 (b ++ (be n v).take k))]) 48 1
      (fun k => n - k) (fun k => k ≤ n)
      ⟨0, [0], rfl, by omega, by (refine ⟨rfl, rfl, ?_, ?_⟩ <;> repeat' (first | exact True.intro | rfl | decide | (refine And.intro ?_ ?_))); exact di (by rw [wrap_i64 (by omega) (by omega)]; omega); simp; rfl⟩ ?_
    intro k hk
    rcases Nat.lt_or_ge k n with hkn | hkn
    · have e1 : IntKind.i64.wrap (8 * ((n : Int) - 1 - k)) = 8 * (n - 1 - k : Nat) := by rw [wrap_i64 (by omega) (by omega)]; omega
      have hlen : (b ++ (be n v).take k).length = b.length + k := by simp [be_length]; omega
      have e2 : IntKind.u8.wrap (((v / 256 ^ (n - 1 - k) : Nat) : Int)) = ((v / 256 ^ (n - 1 - k) % 256 : Nat) : Int) := by
        generalize v / 256 ^ (n - 1 - k) = q
        simp [IntKind.wrap, IntKind.bits, IntKind.signed]
      have e0 : (0 : Int) ≤ IntKind.i64.wrap (8 * ((n : Int) - 1 - k)) := by omega
      ((conv=>whnf);repeat'((first|(show(_=true→_)∧(_=false→_);first|refine gT ?_|refine gF ?_|refine gS ?_ ?_<;>(intro _h;try contradiction))|(show(_=false→_)∧(_=true→_);first|refine gU ?_|refine gV ?_|refine gZ ?_ ?_<;>(intro _h;try contradiction))|(intro _h;try contradiction)|(show _∧_;refine gA ?_)|fail);all_goals conv=>whnf))
      refine ⟨by rw [hlen]; show (b.length + k + 1) * 1 ≤ 140737488355328; omega, ?_⟩
      ((conv=>whnf);repeat'((first|(show(_=true→_)∧(_=false→_);first|refine gT ?_|refine gF ?_|refine gS ?_ ?_<;>(intro _h;try contradiction))|(show(_=false→_)∧(_=true→_);first|refine gU ?_|refine gV ?_|refine gZ ?_ ?_<;>(intro _h;try contradiction))|(intro _h;try contradiction)|(show _∧_;refine gA ?_)|fail);all_goals conv=>whnf))
      refine ⟨k + 1, [0], by omega, by omega, rfl, ?_⟩
      (refine ⟨rfl, rfl, ?_, ?_⟩ <;> repeat' (first | exact True.intro | rfl | decide | (refine And.intro ?_ ?_)))
      · exact di (by rw [wrap_i64 (by omega) (by omega)]; omega)
      · show some (Ob.row .u8 _ _) = some (Ob.row .u8 _ _)
        rw [e1, sh _ (by omega), e2, be_take (by omega), List.append_assoc]
    · have hk' : k = n := by omega
      subst hk'
      ((conv=>whnf);repeat'((first|(show(_=true→_)∧(_=false→_);first|refine gT ?_|refine gF ?_|refine gS ?_ ?_<;>(intro _h;try contradiction))|(show(_=false→_)∧(_=true→_);first|refine gU ?_|refine gV ?_|refine gZ ?_ ?_<;>(intro _h;try contradiction))|(intro _h;try contradiction)|(show _∧_;refine gA ?_)|fail);all_goals conv=>whnf))
      refine Ends.imm rfl ?_
      show _ = _
      rw [List.take_of_length_le (by rw [be_length]; omega)]

theorem k_putN (n v : Nat) (hn : 1 ≤ n ∧ n ≤ 8) (hv : v < 256 ^ n) (hv2 : v ≤ 9223372036854775807) :
    Imm Tryd.prog 64 [.nls (byt []), i64 n, i64 v] (putQ n v []) := by
  have w1 : IntKind.i64.wrap (8 * (n : Int)) = 8 * n := wrap_i64 (by omega) (by omega)
  have sh := fun (k : Nat) (hk : k ≤ 8) => shr64 v (8 * (k : Int)) k rfl hk
  have hz : (v : Int) / 2 ^ min (IntKind.i64.wrap (8 * (n : Int))).toNat (IntKind.bits .i64) = 0 := by rw [w1, sh n (by omega), Nat.div_eq_of_lt hv]; rfl
  (refine Imm.of_awp told0 [6] Tryd.func64 rfl (by decide) (Nat.le_of_ble_eq_true rfl) ?_; intro _w0 _S0 _E0 _B0; ((conv=>whnf);repeat'((first|(show(_=true→_)∧(_=false→_);first|refine gT ?_|refine gF ?_|refine gS ?_ ?_<;>(intro _h;try contradiction))|(show(_=false→_)∧(_=true→_);first|refine gU ?_|refine gV ?_|refine gZ ?_ ?_<;>(intro _h;try contradiction))|(intro _h;try contradiction)|(show _∧_;refine gA ?_)|fail);all_goals conv=>whnf)))
  all_goals
    refine acallI k_cloneN rfl fun r hr => ?_
    subst hr
    ((conv=>whnf);repeat'((first|(show(_=true→_)∧(_=false→_);first|refine nTt ?_|refine nFf ?_|refine gS ?_ ?_<;>(intro _h;try contradiction))|(show(_=false→_)∧(_=true→_);first|refine nU ?_|refine nV ?_|refine gZ ?_ ?_<;>(intro _h;try contradiction))|(intro _h;try contradiction)|(show _∧_;refine gA ?_)|fail);all_goals conv=>whnf))
    refine AWp.adopt 8 (.row .u8 5 []) rfl rfl ?_
    refine aloop (T := told0) (ι := Nat) (fun k => [(1, i64 n), (2, i64 v), (8, .own 0), (9, i64 ((n : Int) - 1 - k))]) (fun k => [(0, .row .u8 5 ([] ++ (be n v).take k))]) 48 1
      (fun k => n - k) (fun k => k ≤ n)
      ⟨0, [0], rfl, by omega, by (refine ⟨rfl, rfl, ?_, ?_⟩ <;> repeat' (first | exact True.intro | rfl | decide | (refine And.intro ?_ ?_))); exact di (by rw [wrap_i64 (by omega) (by omega)]; omega)⟩ ?_
    intro k hk
    rcases Nat.lt_or_ge k n with hkn | hkn
    · have e1 : IntKind.i64.wrap (8 * ((n : Int) - 1 - k)) = 8 * (n - 1 - k : Nat) := by rw [wrap_i64 (by omega) (by omega)]; omega
      have hlen : ([] ++ (be n v).take k).length = k := by simp [be_length]; omega
      have e2 : IntKind.u8.wrap (((v / 256 ^ (n - 1 - k) : Nat) : Int)) = ((v / 256 ^ (n - 1 - k) % 256 : Nat) : Int) := by
        generalize v / 256 ^ (n - 1 - k) = q
        simp [IntKind.wrap, IntKind.bits, IntKind.signed]
      have e0 : (0 : Int) ≤ IntKind.i64.wrap (8 * ((n : Int) - 1 - k)) := by omega
      ((conv=>whnf);repeat'((first|(show(_=true→_)∧(_=false→_);first|refine gT ?_|refine gF ?_|refine gS ?_ ?_<;>(intro _h;try contradiction))|(show(_=false→_)∧(_=true→_);first|refine gU ?_|refine gV ?_|refine gZ ?_ ?_<;>(intro _h;try contradiction))|(intro _h;try contradiction)|(show _∧_;refine gA ?_)|fail);all_goals conv=>whnf))
      refine ⟨by rw [hlen]; show (k + 1) * 1 ≤ 140737488355328; omega, ?_⟩
      ((conv=>whnf);repeat'((first|(show(_=true→_)∧(_=false→_);first|refine gT ?_|refine gF ?_|refine gS ?_ ?_<;>(intro _h;try contradiction))|(show(_=false→_)∧(_=true→_);first|refine gU ?_|refine gV ?_|refine gZ ?_ ?_<;>(intro _h;try contradiction))|(intro _h;try contradiction)|(show _∧_;refine gA ?_)|fail);all_goals conv=>whnf))
      refine ⟨k + 1, [0], by omega, by omega, rfl, ?_⟩
      (refine ⟨rfl, rfl, ?_, ?_⟩ <;> repeat' (first | exact True.intro | rfl | decide | (refine And.intro ?_ ?_)))
      · exact di (by rw [wrap_i64 (by omega) (by omega)]; omega)
      · show some (Ob.row .u8 _ _) = some (Ob.row .u8 _ _)
        rw [e1, sh _ (by omega), e2, be_take (by omega), List.append_assoc]
    · have hk' : k = n := by omega
      subst hk'
      ((conv=>whnf);repeat'((first|(show(_=true→_)∧(_=false→_);first|refine gT ?_|refine gF ?_|refine gS ?_ ?_<;>(intro _h;try contradiction))|(show(_=false→_)∧(_=true→_);first|refine gU ?_|refine gV ?_|refine gZ ?_ ?_<;>(intro _h;try contradiction))|(intro _h;try contradiction)|(show _∧_;refine gA ?_)|fail);all_goals conv=>whnf))
      refine Ends.imm rfl ?_
      show _ = _
      rw [List.take_of_length_le (by rw [be_length]; omega)]

end Go.Proofs.YtniaeiikdgbnfaaDoor.R
namespace Go.Proofs.YtniaeiikdgbnfaaDoor.R
open Go Go.RowKit Go.Proofs Go.Proofs.YtniaeiikdgbnfaaDoor.AW
set_option linter.unusedSectionVars false
variable [Globs]
attribute [local go_sem] Oper.semAt_some
set_option maxRecDepth 100000
set_option linter.unusedSimpArgs false
set_option linter.unusedVariables false
set_option maxHeartbeats 4000000

theorem itB (l b o b2 o2 c : Nat) (A : Option Addr) (xs : List Int) (J : Nat → World → Prop) (Jx : World → Prop) (W : World) (hl : xs.length ≤ LIM) (hA : 0 < xs.length → A = some ⟨b2, o2, none⟩)
   (hG : ∀ k W, J k W → W.cell? ⟨b, o, none⟩ = some (.slice A xs.length c) ∧ ∀ i, i < xs.length → W.cell? ⟨b2, o2 + i, none⟩ = some (.int .u8 (xs.getD i 0)))
   (hY : ∀ k W, k < xs.length → J k W → YieldAt (fence none) 0 Tryd.prog l #[.int .i64 ((xs.length : Int) - 1 - k), .int .u8 (xs.getD (xs.length - 1 - k) 0)] W fun e W' => (e = .returned (.bool true) ∧ J (k + 1) W') ∨ (e = .returned (.bool false) ∧ Jx W'))
   (h0 : J 0 W) : CallsIn Fence.wide 0 Tryd.prog 84 #[.func (.yield l) #[] #[], .pointer (some ⟨b, o, none⟩)] W fun e W' => (∃ v, e = .returned v) ∧ (J xs.length W' ∨ Jx W') := by
  unfold LIM at hl
  have hc := (hG 0 W h0).1
  refine callsIn_of_wp Tryd.func84 rfl trivial ?_ rfl
  simp only [Tryd.ntmps84, List.size_toArray, List.length_cons, List.length_nil, Nat.reduceAdd, Nat.reduceSub, Array.replicate_succ, Array.replicate_zero, List.push_toArray, List.append_toArray, List.nil_append, List.cons_append]
  gi_wp2
  clear hc
  gi_loopw [3] (fun i wr => ∃ k : Nat, k ≤ xs.length ∧ i = .int .i64 ((xs.length : Int) - 1 - k) ∧ J k wr) (fun i _ => (intOf i + 1).toNat)
  case atStart => exact ⟨0, Nat.zero_le _, by simp, h0⟩
  case round =>
    obtain ⟨k, hk, rfl, hJ⟩ := hrel
    by_cases hlt : k < xs.length
    · have hA' := hA (by omega)
      subst hA'
      have hc := (hG k _ hJ).1
      have hc2 := (hG k _ hJ).2 (xs.length - 1 - k) (by omega)
      obtain ⟨fn, tmps, assign, body, hy, hR⟩ := hY k _ hlt hJ
      have hn : ((xs.length : Int) - 1 - k).toNat = xs.length - 1 - k := by omega
      clear hG hY hA
      rw [List.getD_eq_getElem?_getD] at hc2 hy
      gi_wp2
      refine ⟨rfl, RoundIn.mono hR ?_⟩
      rintro e W' (⟨rfl, hJ'⟩ | ⟨rfl, hJ'⟩)
      · gi_wp2
        go_roundw
        case rel => exact ⟨k + 1, by omega, by simp; omega, hJ'⟩
        case measure => simp [intOf]; omega
      · gi_wp2
        exact bodyPost_ret (results_none rfl _ _ _) rfl ⟨⟨_, rfl⟩, .inr hJ'⟩
    · have : k = xs.length := by omega
      subst this
      gi_wp2
      go_end0
      exact ⟨⟨_, rfl⟩, .inl hJ⟩

/-- A range from the end to the beginning. -/
theorem aiB (xs : List Int) : AIter Tryd.prog 84 [.ptr (byt xs)] xs.length (fun k => [.int .i64 ((xs.length : Int) - 1 - k), .int .u8 (xs.getD (xs.length - 1 - k) 0)]) := by
  refine ⟨⟨_, Tryd.func84, rfl, by decide⟩, fun w S lb h => ?_⟩
  simp only [RepAll, Rep] at h
  obtain ⟨c1, c2, e, ⟨b, o, rfl, hSb, vs, hcb, A, c, rfl, hle, hL, hwf, hne⟩, rfl⟩ := h
  have hlb : lb = #[.pointer (some ⟨b, o, none⟩)] := by apply Array.ext'; simpa using e
  subst hlb
  refine ⟨fun k => #[.int .i64 ((xs.length : Int) - 1 - k), .int .u8 (xs.getD (xs.length - 1 - k) 0)], fun k hk => ?_, fun l J Jx W hJg hJxg hG hY h0 => ?_⟩
  · have hm : xs.getD (xs.length - 1 - k) 0 ∈ xs := by
      rw [List.getD_eq_getElem?_getD, List.getElem?_eq_getElem (by omega)]
      exact List.getElem_mem _
    unfold LIM at hL
    simp only [List.map_cons, List.map_nil, VAll, VRel, Rep]
    exact ⟨_, _, rfl, ⟨_, ⟨rfl, wrap_i64 (by omega) (by omega)⟩, rfl⟩, _, _, rfl, ⟨_, ⟨rfl, hwf _ hm⟩, rfl⟩, rfl⟩
  · have hcell : ∀ W : World, (∀ b, S b → W.heap[b]? = w.heap[b]?) → W.cell? ⟨b, o, none⟩ = some (.slice A xs.length c) := fun W hW => by
      have := (Cells.keep hcb (hW b hSb)) 0 _ rfl
      simpa using this
    refine callsIn_fence.1 (?_ : CallsIn Fence.wide 0 _ _ _ _ _)
    by_cases h0' : xs = []
    · subst h0'
      exact itB l b o 0 0 c A [] J Jx W (Nat.zero_le _) (fun h => by simp at h) (fun k W hJ => ⟨hcell W (hG k W hJ), fun i hi => by simp at hi⟩) hY h0
    · obtain ⟨b2, o2, rfl, hS2, hc2⟩ := hne h0'
      exact itB l b o b2 o2 c _ xs J Jx W hL (fun _ => rfl) (fun k W hJ => ⟨hcell W (hG k W hJ), fun i hi => by
        refine (Cells.keep hc2 (hG k W hJ b2 hS2)) i _ ?_
        rw [List.getElem?_map, List.getElem?_eq_getElem hi, List.getD_eq_getElem?_getD, List.getElem?_eq_getElem hi]; rfl⟩) hY h0

theorem k_backB (xs : List Int) : Imm Tryd.prog 55 [.d (byt xs)] (fun r => r = .d (.fn 84 [.ptr (byt xs)])) := by
  (refine Imm.of_awp (⟨fun _ => false, fun r i => if r == 1 && i == 0 then [1] else [], fun _ => .done⟩ : AW.Told) [] Tryd.func55 rfl (by decide) (Nat.le_of_ble_eq_true rfl) ?_; intro _w0 _S0 _E0 _B0; ((conv => whnf); repeat' (first | (refine And.intro ?_ ?_; (focus (first | rfl | decide | assumption | omega | decide +kernel | exact ⟨rfl, rfl⟩ | exact ⟨rfl, rfl, rfl, rfl⟩ | exact fun h => Bool.noConfusion h | exact fun _ => rfl | exact Nat.le_of_ble_eq_true rfl | (simp only [List.length_map, List.length_append, List.length_replicate, List.length_take, List.length_drop, List.length_set, List.length_cons, List.length_nil]; omega))); (conv => whnf)) | ((refine And.intro ?_ ?_ <;> intro _h); all_goals ((first | replace _h := of_decide_eq_true _h | replace _h := of_decide_eq_false _h | skip); (try simp only [Bool.not_eq_true', Bool.not_eq_false', Bool.not_true, Bool.not_false, decide_eq_true_eq, decide_eq_false_iff_not] at _h); (try (guard_hyp _h : True; clear _h)); first | done | contradiction | exact absurd ((Eq.symm _h).trans (show _ = true by assumption)) (by decide) | exact absurd ((Eq.symm _h).trans (show _ = false by assumption)) (by decide) | (conv => whnf))) | (intro _h; ((first | replace _h := of_decide_eq_true _h | replace _h := of_decide_eq_false _h | skip); (try simp only [Bool.not_eq_true', Bool.not_eq_false', Bool.not_true, Bool.not_false, decide_eq_true_eq, decide_eq_false_iff_not] at _h); (try (guard_hyp _h : True; clear _h)); first | done | contradiction | exact absurd ((Eq.symm _h).trans (show _ = true by assumption)) (by decide) | exact absurd ((Eq.symm _h).trans (show _ = false by assumption)) (by decide) | (conv => whnf))))))
  exact Ends.imm rfl rfl
end Go.Proofs.YtniaeiikdgbnfaaDoor.R
