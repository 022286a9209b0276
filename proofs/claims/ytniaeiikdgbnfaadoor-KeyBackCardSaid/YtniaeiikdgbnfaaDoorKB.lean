/- The key's code, part 10: a key's bytes. -/
import Derived.Test.YtniaeiikdgbnfaaDoorKA
namespace Go.Proofs.YtniaeiikdgbnfaaDoor.R
open Go Go.RowKit Go.Proofs Go.Proofs.YtniaeiikdgbnfaaDoor.AW
set_option linter.unusedSectionVars false
variable [Globs]
set_option maxRecDepth 100000
set_option linter.unusedSimpArgs false
set_option linter.unusedVariables false
set_option maxHeartbeats 4000000

def keyBytes (m : List Int) (n0 : Int) (rr : List Int) : List Int := (be 4 (8 * m.length) ++ be 4 n0.toNat) ++ (m ++ be m.length (val rr).toNat)

def toldKB : AW.Told := ⟨fun _ => false, fun r i => if r == 4 && i == 7 then [41] else [], fun _ => .done⟩

theorem k_keyBytes (m n : List Int) (n0 : Int) (rr : List Int) (h : Key m n n0 rr) : Imm Tryd.prog 30 [.d (keyD m n n0 rr)] (fun r => r = .d (byt (keyBytes m n0 rr))) := by
  obtain ⟨h1, h2, h3, hs⟩ := h.pos
  have hl := h.len
  have w1 : IntKind.i64.wrap (8 * (m.length : Int)) = ((8 * m.length : Nat) : Int) := by rw [wrap_i64 (by omega) (by omega)]; omega
  have hn0 := h.ring.hn0
  obtain ⟨v, hv⟩ : ∃ v : Nat, n0 = v := ⟨n0.toNat, by omega⟩
  (refine Imm.of_awp toldKB [] Tryd.func30 rfl (by decide) (Nat.le_of_ble_eq_true rfl) ?_; intro _w0 _S0 _E0 _B0; ((conv=>whnf);repeat' (first|((first|refine pickT ?_ ?_|refine pickT2 ?_ ?_);(focus (first|assumption|exact dT (by assumption)|exact nT (by assumption)|exact nbT (by assumption)|rfl));(conv=>whnf))|((first|refine pickF ?_ ?_|refine pickF2 ?_ ?_);(focus (first|assumption|exact dF (by assumption)|exact nF (by assumption)|exact nbF (by assumption)|rfl));(conv=>whnf))|((first|(first|refine splitB ?_ ?_|refine splitB2 ?_ ?_)<;>intro _h|intro _h);all_goals ((first|replace _h:=of_decide_eq_true _h|replace _h:=of_decide_eq_false _h|skip);(try simp only [Bool.not_eq_true',Bool.not_eq_false',Bool.not_true,Bool.not_false,decide_eq_true_eq,decide_eq_false_iff_not] at _h);(try (guard_hyp _h : True;clear _h));first|done|contradiction|(conv=>whnf)))|(refine And.intro ?_ ?_;(focus (first|rfl|decide|assumption|omega|decide +kernel|exact ⟨rfl, rfl⟩|exact ⟨rfl, rfl, rfl, rfl⟩|exact fun h => Bool.noConfusion h|exact fun _ => rfl|exact Nat.le_of_ble_eq_true rfl|(simp only [List.length_map, List.length_append, List.length_replicate, List.length_take, List.length_drop, List.length_set, List.length_cons, List.length_nil]; omega)));(conv=>whnf)))))
  refine acallI (k_size m n n0 rr) rfl fun r hr => ?_
  subst hr
  ((conv=>whnf);repeat' (first|((first|refine pickT ?_ ?_|refine pickT2 ?_ ?_);(focus (first|assumption|exact dT (by first|assumption|omega)|exact nT (by first|assumption|omega)|exact nbT (by assumption)|rfl));(conv=>whnf))|((first|refine pickF ?_ ?_|refine pickF2 ?_ ?_);(focus (first|assumption|exact dF (by first|assumption|omega)|exact nF (by first|assumption|omega)|exact nbF (by assumption)|rfl));(conv=>whnf))|((first|(first|refine splitB ?_ ?_|refine splitB2 ?_ ?_)<;>intro _h|intro _h);all_goals ((first|replace _h:=of_decide_eq_true _h|replace _h:=of_decide_eq_false _h|skip);(try simp only [Bool.not_eq_true',Bool.not_eq_false',Bool.not_true,Bool.not_false,decide_eq_true_eq,decide_eq_false_iff_not] at _h);(try (guard_hyp _h : True;clear _h));first|done|contradiction|(conv=>whnf)))|(refine And.intro ?_ ?_;(focus (first|rfl|decide|assumption|omega|decide +kernel|exact ⟨rfl, rfl⟩|exact ⟨rfl, rfl, rfl, rfl⟩|exact fun h => Bool.noConfusion h|exact fun _ => rfl|exact Nat.le_of_ble_eq_true rfl|(simp only [List.length_map, List.length_append, List.length_replicate, List.length_take, List.length_drop, List.length_set, List.length_cons, List.length_nil]; omega)));(conv=>whnf))))
  rw [w1]
  refine acallI (k_putN 4 (8 * m.length) (by omega) (by omega) (by omega)) rfl fun r hr => ?_
  unfold putQ at hr
  subst hr
  ((conv=>whnf);repeat' (first|((first|refine pickT ?_ ?_|refine pickT2 ?_ ?_);(focus (first|assumption|exact dT (by first|assumption|omega)|exact nT (by first|assumption|omega)|exact nbT (by assumption)|rfl));(conv=>whnf))|((first|refine pickF ?_ ?_|refine pickF2 ?_ ?_);(focus (first|assumption|exact dF (by first|assumption|omega)|exact nF (by first|assumption|omega)|exact nbF (by assumption)|rfl));(conv=>whnf))|((first|(first|refine splitB ?_ ?_|refine splitB2 ?_ ?_)<;>intro _h|intro _h);all_goals ((first|replace _h:=of_decide_eq_true _h|replace _h:=of_decide_eq_false _h|skip);(try simp only [Bool.not_eq_true',Bool.not_eq_false',Bool.not_true,Bool.not_false,decide_eq_true_eq,decide_eq_false_iff_not] at _h);(try (guard_hyp _h : True;clear _h));first|done|contradiction|(conv=>whnf)))|(refine And.intro ?_ ?_;(focus (first|rfl|decide|assumption|omega|decide +kernel|exact ⟨rfl, rfl⟩|exact ⟨rfl, rfl, rfl, rfl⟩|exact fun h => Bool.noConfusion h|exact fun _ => rfl|exact Nat.le_of_ble_eq_true rfl|(simp only [List.length_map, List.length_append, List.length_replicate, List.length_take, List.length_drop, List.length_set, List.length_cons, List.length_nil]; omega)));(conv=>whnf))))
  refine acallI (k_n0 n n0 rr hn0) rfl fun r hr => ?_
  subst hr
  ((conv=>whnf);repeat' (first|((first|refine pickT ?_ ?_|refine pickT2 ?_ ?_);(focus (first|assumption|exact dT (by first|assumption|omega)|exact nT (by first|assumption|omega)|exact nbT (by assumption)|rfl));(conv=>whnf))|((first|refine pickF ?_ ?_|refine pickF2 ?_ ?_);(focus (first|assumption|exact dF (by first|assumption|omega)|exact nF (by first|assumption|omega)|exact nbF (by assumption)|rfl));(conv=>whnf))|((first|(first|refine splitB ?_ ?_|refine splitB2 ?_ ?_)<;>intro _h|intro _h);all_goals ((first|replace _h:=of_decide_eq_true _h|replace _h:=of_decide_eq_false _h|skip);(try simp only [Bool.not_eq_true',Bool.not_eq_false',Bool.not_true,Bool.not_false,decide_eq_true_eq,decide_eq_false_iff_not] at _h);(try (guard_hyp _h : True;clear _h));first|done|contradiction|(conv=>whnf)))|(refine And.intro ?_ ?_;(focus (first|rfl|decide|assumption|omega|decide +kernel|exact ⟨rfl, rfl⟩|exact ⟨rfl, rfl, rfl, rfl⟩|exact fun h => Bool.noConfusion h|exact fun _ => rfl|exact Nat.le_of_ble_eq_true rfl|(simp only [List.length_map, List.length_append, List.length_replicate, List.length_take, List.length_drop, List.length_set, List.length_cons, List.length_nil]; omega)));(conv=>whnf))))
  refine acallI (k_put 4 v (by omega) (by omega) (by omega) ([] ++ be 4 (8 * m.length)) (fun h => by have := congrArg List.length h; simp [be_length] at this) (by simp [be_length])) (by rw [hv]; rfl) fun r hr => ?_
  unfold putQ at hr
  subst hr
  ((conv=>whnf);repeat' (first|((first|refine pickT ?_ ?_|refine pickT2 ?_ ?_);(focus (first|assumption|exact dT (by first|assumption|omega)|exact nT (by first|assumption|omega)|exact nbT (by assumption)|rfl));(conv=>whnf))|((first|refine pickF ?_ ?_|refine pickF2 ?_ ?_);(focus (first|assumption|exact dF (by first|assumption|omega)|exact nF (by first|assumption|omega)|exact nbF (by assumption)|rfl));(conv=>whnf))|((first|(first|refine splitB ?_ ?_|refine splitB2 ?_ ?_)<;>intro _h|intro _h);all_goals ((first|replace _h:=of_decide_eq_true _h|replace _h:=of_decide_eq_false _h|skip);(try simp only [Bool.not_eq_true',Bool.not_eq_false',Bool.not_true,Bool.not_false,decide_eq_true_eq,decide_eq_false_iff_not] at _h);(try (guard_hyp _h : True;clear _h));first|done|contradiction|(conv=>whnf)))|(refine And.intro ?_ ?_;(focus (first|rfl|decide|assumption|omega|decide +kernel|exact ⟨rfl, rfl⟩|exact ⟨rfl, rfl, rfl, rfl⟩|exact fun h => Bool.noConfusion h|exact fun _ => rfl|exact Nat.le_of_ble_eq_true rfl|(simp only [List.length_map, List.length_append, List.length_replicate, List.length_take, List.length_drop, List.length_set, List.length_cons, List.length_nil]; omega)));(conv=>whnf))))
  refine acallI (k_rr n n0 rr (fun h' => by have := h.ring.hrl; rw [h'] at this; simp at this; omega) (by have := h.ring.hrl; omega)) rfl fun r hr => ?_
  subst hr
  ((conv=>whnf);repeat' (first|((first|refine pickT ?_ ?_|refine pickT2 ?_ ?_);(focus (first|assumption|exact dT (by first|assumption|omega)|exact nT (by first|assumption|omega)|exact nbT (by assumption)|rfl));(conv=>whnf))|((first|refine pickF ?_ ?_|refine pickF2 ?_ ?_);(focus (first|assumption|exact dF (by first|assumption|omega)|exact nF (by first|assumption|omega)|exact nbF (by assumption)|rfl));(conv=>whnf))|((first|(first|refine splitB ?_ ?_|refine splitB2 ?_ ?_)<;>intro _h|intro _h);all_goals ((first|replace _h:=of_decide_eq_true _h|replace _h:=of_decide_eq_false _h|skip);(try simp only [Bool.not_eq_true',Bool.not_eq_false',Bool.not_true,Bool.not_false,decide_eq_true_eq,decide_eq_false_iff_not] at _h);(try (guard_hyp _h : True;clear _h));first|done|contradiction|(conv=>whnf)))|(refine And.intro ?_ ?_;(focus (first|rfl|decide|assumption|omega|decide +kernel|exact ⟨rfl, rfl⟩|exact ⟨rfl, rfl, rfl, rfl⟩|exact fun h => Bool.noConfusion h|exact fun _ => rfl|exact Nat.le_of_ble_eq_true rfl|(simp only [List.length_map, List.length_append, List.length_replicate, List.length_take, List.length_drop, List.length_set, List.length_cons, List.length_nil]; omega)));(conv=>whnf))))
  refine acallI (k_size m n n0 rr) rfl fun r hr => ?_
  subst hr
  ((conv=>whnf);repeat' (first|((first|refine pickT ?_ ?_|refine pickT2 ?_ ?_);(focus (first|assumption|exact dT (by first|assumption|omega)|exact nT (by first|assumption|omega)|exact nbT (by assumption)|rfl));(conv=>whnf))|((first|refine pickF ?_ ?_|refine pickF2 ?_ ?_);(focus (first|assumption|exact dF (by first|assumption|omega)|exact nF (by first|assumption|omega)|exact nbF (by assumption)|rfl));(conv=>whnf))|((first|(first|refine splitB ?_ ?_|refine splitB2 ?_ ?_)<;>intro _h|intro _h);all_goals ((first|replace _h:=of_decide_eq_true _h|replace _h:=of_decide_eq_false _h|skip);(try simp only [Bool.not_eq_true',Bool.not_eq_false',Bool.not_true,Bool.not_false,decide_eq_true_eq,decide_eq_false_iff_not] at _h);(try (guard_hyp _h : True;clear _h));first|done|contradiction|(conv=>whnf)))|(refine And.intro ?_ ?_;(focus (first|rfl|decide|assumption|omega|decide +kernel|exact ⟨rfl, rfl⟩|exact ⟨rfl, rfl, rfl, rfl⟩|exact fun h => Bool.noConfusion h|exact fun _ => rfl|exact Nat.le_of_ble_eq_true rfl|(simp only [List.length_map, List.length_append, List.length_replicate, List.length_take, List.length_drop, List.length_set, List.length_cons, List.length_nil]; omega)));(conv=>whnf))))
  have hrl := h.ring.hrl
  refine acallI (k_bytes rr m.length h.ring.hr ?_ (by omega) ?_) rfl fun r hr => ?_
  · unfold bad
    rw [hrl, decide_eq_false (by omega), decide_eq_false (by omega)]
    rfl
  · have a1 := h.ring.hrv
    have a2 := dval_lt h.wf.reverse
    rw [List.length_reverse] at a2
    have a3 : bn m < dpw m.length := a2
    have a4 := h.val
    omega
  subst hr
  ((conv=>whnf);repeat' (first|((first|refine pickT ?_ ?_|refine pickT2 ?_ ?_);(focus (first|assumption|exact dT (by first|assumption|omega)|exact nT (by first|assumption|omega)|exact nbT (by assumption)|rfl));(conv=>whnf))|((first|refine pickF ?_ ?_|refine pickF2 ?_ ?_);(focus (first|assumption|exact dF (by first|assumption|omega)|exact nF (by first|assumption|omega)|exact nbF (by assumption)|rfl));(conv=>whnf))|((first|(first|refine splitB ?_ ?_|refine splitB2 ?_ ?_)<;>intro _h|intro _h);all_goals ((first|replace _h:=of_decide_eq_true _h|replace _h:=of_decide_eq_false _h|skip);(try simp only [Bool.not_eq_true',Bool.not_eq_false',Bool.not_true,Bool.not_false,decide_eq_true_eq,decide_eq_false_iff_not] at _h);(try (guard_hyp _h : True;clear _h));first|done|contradiction|(conv=>whnf)))|(refine And.intro ?_ ?_;(focus (first|rfl|decide|assumption|omega|decide +kernel|exact ⟨rfl, rfl⟩|exact ⟨rfl, rfl, rfl, rfl⟩|exact fun h => Bool.noConfusion h|exact fun _ => rfl|exact Nat.le_of_ble_eq_true rfl|(simp only [List.length_map, List.length_append, List.length_replicate, List.length_take, List.length_drop, List.length_set, List.length_cons, List.length_nil]; omega)));(conv=>whnf))))
  refine acallI (k_concat [[] ++ be 4 (8 * m.length) ++ be 4 v, m, be m.length (val rr).toNat] (by simp [be_length]; omega) (by simp [be_length]; omega) (by simp)) rfl fun r hr => ?_
  subst hr
  ((conv=>whnf);repeat' (first|((first|refine pickT ?_ ?_|refine pickT2 ?_ ?_);(focus (first|assumption|exact dT (by first|assumption|omega)|exact nT (by first|assumption|omega)|exact nbT (by assumption)|rfl));(conv=>whnf))|((first|refine pickF ?_ ?_|refine pickF2 ?_ ?_);(focus (first|assumption|exact dF (by first|assumption|omega)|exact nF (by first|assumption|omega)|exact nbF (by assumption)|rfl));(conv=>whnf))|((first|(first|refine splitB ?_ ?_|refine splitB2 ?_ ?_)<;>intro _h|intro _h);all_goals ((first|replace _h:=of_decide_eq_true _h|replace _h:=of_decide_eq_false _h|skip);(try simp only [Bool.not_eq_true',Bool.not_eq_false',Bool.not_true,Bool.not_false,decide_eq_true_eq,decide_eq_false_iff_not] at _h);(try (guard_hyp _h : True;clear _h));first|done|contradiction|(conv=>whnf)))|(refine And.intro ?_ ?_;(focus (first|rfl|decide|assumption|omega|decide +kernel|exact ⟨rfl, rfl⟩|exact ⟨rfl, rfl, rfl, rfl⟩|exact fun h => Bool.noConfusion h|exact fun _ => rfl|exact Nat.le_of_ble_eq_true rfl|(simp only [List.length_map, List.length_append, List.length_replicate, List.length_take, List.length_drop, List.length_set, List.length_cons, List.length_nil]; omega)));(conv=>whnf))))
  refine Ends.imm rfl ?_
  simp [keyBytes, hv]
end Go.Proofs.YtniaeiikdgbnfaaDoor.R

/- The key's code, part 11: bytes of digits. -/
namespace Go.Proofs.YtniaeiikdgbnfaaDoor.R
open Go Go.RowKit Go.Proofs Go.Proofs.YtniaeiikdgbnfaaDoor.AW
set_option linter.unusedSectionVars false
variable [Globs]
set_option maxRecDepth 100000
set_option linter.unusedSimpArgs false
set_option linter.unusedVariables false
set_option maxHeartbeats 4000000

def hx (c : Int) : Int := if 97 ≤ c ∧ c ≤ 102 then c - 97 + 10 else IntKind.u8.wrap (c - 48)
theorem hx_le (c : Int) : 0 ≤ hx c ∧ hx c ≤ 255 := by
  unfold hx
  split
  · omega
  · simp [IntKind.wrap, IntKind.bits, IntKind.signed]; omega
def hxAt (xs : List Int) (k : Nat) : Int := IntKind.u8.wrap (hx (xs.getD (2 * k) 0) * 16 + hx (xs.getD (2 * k + 1) 0))
/-- Bytes of pairs of digits. -/
def hexB (xs : List Int) : List Int := (List.range (xs.length / 2)).map (hxAt xs)
def pv (xs : List Int) (k : Nat) : Nat → Int
  | 0 => 0
  | j + 1 => pv xs k j * 16 + hx (xs.getD (2 * k + j) 0)

theorem hexB_take (xs : List Int) (k : Nat) (h : k < xs.length / 2) : (hexB xs).take (k + 1) = (hexB xs).take k ++ [hxAt xs k] := by
  rw [take_snoc (by simp [hexB]; omega)]
  congr 2
  rw [List.getD_eq_getElem?_getD, hexB, List.getElem?_map, List.getElem?_range h]; rfl

theorem k_hex (xs : List Int) (hx0 : wfd xs) (hl : xs.length ≤ 100000) (h2 : 2 ≤ xs.length) : Imm Tryd.prog 54 [.d (.str xs)] (fun r => r = .d (byt (hexB xs))) := by
  (refine Imm.of_awp told0 [2] Tryd.func54 rfl (by decide) (Nat.le_of_ble_eq_true rfl) ?_; intro _w0 _S0 _E0 _B0; ((conv=>whnf);repeat' (first|((first|refine pickT ?_ ?_|refine pickT2 ?_ ?_);(focus (first|assumption|exact dT (by assumption)|exact nT (by assumption)|exact nbT (by assumption)|rfl));(conv=>whnf))|((first|refine pickF ?_ ?_|refine pickF2 ?_ ?_);(focus (first|assumption|exact dF (by assumption)|exact nF (by assumption)|exact nbF (by assumption)|rfl));(conv=>whnf))|((first|(first|refine splitB ?_ ?_|refine splitB2 ?_ ?_)<;>intro _h|intro _h);all_goals ((first|replace _h:=of_decide_eq_true _h|replace _h:=of_decide_eq_false _h|skip);(try simp only [Bool.not_eq_true',Bool.not_eq_false',Bool.not_true,Bool.not_false,decide_eq_true_eq,decide_eq_false_iff_not] at _h);(try (guard_hyp _h : True;clear _h));first|done|contradiction|(conv=>whnf)))|(refine And.intro ?_ ?_;(focus (first|rfl|decide|assumption|omega|decide +kernel|exact ⟨rfl, rfl⟩|exact ⟨rfl, rfl, rfl, rfl⟩|exact fun h => Bool.noConfusion h|exact fun _ => rfl|exact Nat.le_of_ble_eq_true rfl|(simp only [List.length_map, List.length_append, List.length_replicate, List.length_take, List.length_drop, List.length_set, List.length_cons, List.length_nil]; omega)));(conv=>whnf)))))
  refine AWp.adopt 3 (.row .u8 5 []) rfl rfl ?_
  refine aloop (T := told0) (ι := Nat) (fun k => [(0, .d (.str xs)), (3, .own 0), (4, i64 (2 * k : Nat))]) (fun k => [(0, .row .u8 5 ((hexB xs).take k))]) 52 1
    (fun k => xs.length / 2 - k) (fun k => k ≤ xs.length / 2)
    ⟨0, [0], rfl, by omega, by (refine ⟨rfl, rfl, ?_, ?_⟩ <;> repeat' (first | exact True.intro | rfl | decide | (refine And.intro ?_ ?_)))⟩ ?_
  intro k hk
  have hlen : ((hexB xs).take k).length = k := by simp [hexB]; omega
  rcases Nat.lt_or_ge k (xs.length / 2) with hkl | hkl
  · have e1 : IntKind.i64.wrap (((2 * k : Nat) : Int) + 1) = (2 * k + 1 : Nat) := by rw [wrap_i64 (by omega) (by omega)]; omega
    have e2 : IntKind.i64.wrap (((2 * k : Nat) : Int) + 2) = (2 * k + 2 : Nat) := by rw [wrap_i64 (by omega) (by omega)]; omega
    ((conv=>whnf);repeat' (first|((first|refine pickT ?_ ?_|refine pickT2 ?_ ?_);(focus (first|assumption|exact dT (by first|assumption|omega)|exact nT (by first|assumption|omega)|exact nbT (by assumption)|rfl));(conv=>whnf))|((first|refine pickF ?_ ?_|refine pickF2 ?_ ?_);(focus (first|assumption|exact dF (by first|assumption|omega)|exact nF (by first|assumption|omega)|exact nbF (by assumption)|rfl));(conv=>whnf))|((first|(first|refine splitB ?_ ?_|refine splitB2 ?_ ?_)<;>intro _h|intro _h);all_goals ((first|replace _h:=of_decide_eq_true _h|replace _h:=of_decide_eq_false _h|skip);(try simp only [Bool.not_eq_true',Bool.not_eq_false',Bool.not_true,Bool.not_false,decide_eq_true_eq,decide_eq_false_iff_not] at _h);(try (guard_hyp _h : True;clear _h));first|done|contradiction|(conv=>whnf)))|(refine And.intro ?_ ?_;(focus (first|rfl|decide|assumption|omega|decide +kernel|exact ⟨rfl, rfl⟩|exact ⟨rfl, rfl, rfl, rfl⟩|exact fun h => Bool.noConfusion h|exact fun _ => rfl|exact Nat.le_of_ble_eq_true rfl|(simp only [List.length_map, List.length_append, List.length_replicate, List.length_take, List.length_drop, List.length_set, List.length_cons, List.length_nil]; omega)));(conv=>whnf))))
    obtain ⟨ys, hys⟩ : ∃ ys, ys = (xs.take (2 * k + 2)).drop (2 * k) := ⟨_, rfl⟩
    have hyl : ys.length = 2 := by rw [hys]; simp; omega
    have hyg : ∀ j, j < 2 → ys.getD j 0 = xs.getD (2 * k + j) 0 := fun j hj => by
      rw [hys, List.getD_eq_getElem?_getD, List.getElem?_drop, List.getElem?_take, if_pos (by omega), ← List.getD_eq_getElem?_getD]
    refine aloop (T := told0) (ι := Nat × Int) (fun p => [(0, .d (.str xs)), (3, .own 0), (4, i64 (2 * k : Nat)), (5, i64 p.2), (20, .d (byt ys)), (21, i64 ys.length), (22, i64 p.1)]) (fun p => [(0, .row .u8 5 ((hexB xs).take k))]) 52 1
      (fun p => 2 - p.1) (fun p => p.1 ≤ 2 ∧ p.2 = pv xs k p.1)
      ⟨(0, 0), [0], rfl, ⟨by omega, rfl⟩, by
        (refine ⟨rfl, rfl, ?_, ?_⟩ <;> repeat' (first | exact True.intro | rfl | decide | (refine And.intro ?_ ?_)))
        · show AVal.d (.ints .u8 _) = AVal.d (.ints .u8 ys)
          rw [e2, hys]; rfl
        · show AVal.d (.int .i64 _) = AVal.d (.int .i64 ys.length)
          rw [e2, hys]; rfl⟩ ?_
    intro ⟨j, n⟩ ⟨hj, hn⟩
    dsimp only at hj hn ⊢
    have hpb : ∀ j, j ≤ 2 → 0 ≤ pv xs k j ∧ pv xs k j ≤ 10000 := fun j hj => by
      have a0 := hx_le (xs.getD (2 * k + 0) 0)
      have a1 := hx_le (xs.getD (2 * k + 1) 0)
      have : j = 0 ∨ j = 1 ∨ j = 2 := by omega
      rcases this with rfl | rfl | rfl <;> simp only [pv] <;> omega
    have hp := hpb j hj
    rcases Nat.lt_or_ge j 2 with hj2 | hj2
    · have hg : ys.getD (j : Int).toNat 0 = xs.getD (2 * k + j) 0 := by rw [Int.toNat_natCast]; exact hyg j hj2
      have hc := hx0.get (2 * k + j)
      have hp1 := hpb (j + 1) (by omega)
      have hxl := hx_le (xs.getD (2 * k + j) 0)
      have e3 : IntKind.i64.wrap (n * 16) = n * 16 := wrap_i64 (by omega) (by omega)
      have key : ∀ v, v = pv xs k (j + 1) → AVal.d (.int .i64 v) = i64 (pv xs k (j + 1)) := fun v h => di h
      have hw8 : IntKind.u8.wrap (ys.getD (j : Int).toNat 0 - 48) = IntKind.u8.wrap (xs.getD (2 * k + j) 0 - 48) := by rw [hg]
      have hw8b : 0 ≤ IntKind.u8.wrap (xs.getD (2 * k + j) 0 - 48) ∧ IntKind.u8.wrap (xs.getD (2 * k + j) 0 - 48) ≤ 255 := by
        simp [IntKind.wrap, IntKind.bits, IntKind.signed]; omega
      have hlow : ¬ (97 ≤ xs.getD (2 * k + j) 0 ∧ xs.getD (2 * k + j) 0 ≤ 102) → IntKind.i64.wrap (IntKind.i64.wrap (n * 16) + IntKind.i64.wrap (IntKind.u8.wrap (ys.getD (j : Int).toNat 0 - 48))) = pv xs k (j + 1) := fun h => by
        rw [hw8, e3, wrap_i64 (n := IntKind.u8.wrap (xs.getD (2 * k + j) 0 - 48)) (by omega) (by omega), wrap_i64 (by omega) (by omega), hn]
        simp only [pv, hx]
        rw [if_neg h]
      ((conv=>whnf);repeat' (first|((first|refine pickT ?_ ?_|refine pickT2 ?_ ?_);(focus (first|assumption|exact dT (by first|assumption|omega)|exact nT (by first|assumption|omega)|exact nbT (by assumption)|rfl));(conv=>whnf))|((first|refine pickF ?_ ?_|refine pickF2 ?_ ?_);(focus (first|assumption|exact dF (by first|assumption|omega)|exact nF (by first|assumption|omega)|exact nbF (by assumption)|rfl));(conv=>whnf))|((first|(first|refine splitB ?_ ?_|refine splitB2 ?_ ?_)<;>intro _h|intro _h);all_goals ((first|replace _h:=of_decide_eq_true _h|replace _h:=of_decide_eq_false _h|skip);(try simp only [Bool.not_eq_true',Bool.not_eq_false',Bool.not_true,Bool.not_false,decide_eq_true_eq,decide_eq_false_iff_not] at _h);(try (guard_hyp _h : True;clear _h));first|done|contradiction|(conv=>whnf)))|(refine And.intro ?_ ?_;(focus (first|rfl|decide|assumption|omega|decide +kernel|exact ⟨rfl, rfl⟩|exact ⟨rfl, rfl, rfl, rfl⟩|exact fun h => Bool.noConfusion h|exact fun _ => rfl|exact Nat.le_of_ble_eq_true rfl|(simp only [List.length_map, List.length_append, List.length_replicate, List.length_take, List.length_drop, List.length_set, List.length_cons, List.length_nil]; omega)));(conv=>whnf))))
      · have hge : 97 ≤ xs.getD (2 * k + j) 0 ∧ xs.getD (2 * k + j) 0 ≤ 102 := by omega
        have hw9 : IntKind.u8.wrap (ys.getD (j : Int).toNat 0 - 97) = xs.getD (2 * k + j) 0 - 97 := by
          rw [hg]
          exact wrap_in.2 ⟨by simp only [loK]; omega, by simp only [hiK]; omega⟩
        refine ⟨(j + 1, pv xs k (j + 1)), [0], by dsimp only; omega, ⟨by dsimp only; omega, rfl⟩, rfl, ?_⟩
        (refine ⟨rfl, rfl, ?_, ?_⟩ <;> repeat' (first | exact True.intro | rfl | decide | (refine And.intro ?_ ?_)))
        · refine key _ ?_
          rw [hw9, e3, wrap_i64 (n := xs.getD (2 * k + j) 0 - 97) (by omega) (by omega), wrap_i64 (n := xs.getD (2 * k + j) 0 - 97 + 10) (by omega) (by omega), wrap_i64 (by omega) (by omega), hn]
          simp only [pv, hx]
          rw [if_pos hge]
        · exact di (by rw [wrap_i64 (by omega) (by omega)]; rfl)
      · refine ⟨(j + 1, pv xs k (j + 1)), [0], by dsimp only; omega, ⟨by dsimp only; omega, rfl⟩, rfl, ?_⟩
        (refine ⟨rfl, rfl, ?_, ?_⟩ <;> repeat' (first | exact True.intro | rfl | decide | (refine And.intro ?_ ?_)))
        · exact key _ (hlow (by omega))
        · exact di (by rw [wrap_i64 (by omega) (by omega)]; rfl)
      · refine ⟨(j + 1, pv xs k (j + 1)), [0], by dsimp only; omega, ⟨by dsimp only; omega, rfl⟩, rfl, ?_⟩
        (refine ⟨rfl, rfl, ?_, ?_⟩ <;> repeat' (first | exact True.intro | rfl | decide | (refine And.intro ?_ ?_)))
        · exact key _ (hlow (by omega))
        · exact di (by rw [wrap_i64 (by omega) (by omega)]; rfl)
    · have hj' : j = 2 := by omega
      ((conv=>whnf);repeat' (first|((first|refine pickT ?_ ?_|refine pickT2 ?_ ?_);(focus (first|assumption|exact dT (by first|assumption|omega)|exact nT (by first|assumption|omega)|exact nbT (by assumption)|rfl));(conv=>whnf))|((first|refine pickF ?_ ?_|refine pickF2 ?_ ?_);(focus (first|assumption|exact dF (by first|assumption|omega)|exact nF (by first|assumption|omega)|exact nbF (by assumption)|rfl));(conv=>whnf))|((first|(first|refine splitB ?_ ?_|refine splitB2 ?_ ?_)<;>intro _h|intro _h);all_goals ((first|replace _h:=of_decide_eq_true _h|replace _h:=of_decide_eq_false _h|skip);(try simp only [Bool.not_eq_true',Bool.not_eq_false',Bool.not_true,Bool.not_false,decide_eq_true_eq,decide_eq_false_iff_not] at _h);(try (guard_hyp _h : True;clear _h));first|done|contradiction|(conv=>whnf)))|(refine And.intro ?_ ?_;(focus (first|rfl|decide|assumption|omega|decide +kernel|exact ⟨rfl, rfl⟩|exact ⟨rfl, rfl, rfl, rfl⟩|exact fun h => Bool.noConfusion h|exact fun _ => rfl|exact Nat.le_of_ble_eq_true rfl|(simp only [List.length_map, List.length_append, List.length_replicate, List.length_take, List.length_drop, List.length_set, List.length_cons, List.length_nil]; omega)));(conv=>whnf))))
      have ebyte : IntKind.u8.wrap n = hxAt xs k := by
        rw [hn, hj']
        simp only [pv, hxAt]
        congr 1
        simp
      refine ⟨by rw [hlen]; show (k + 1) * 1 ≤ 140737488355328; omega, ?_⟩
      ((conv=>whnf);repeat' (first|((first|refine pickT ?_ ?_|refine pickT2 ?_ ?_);(focus (first|assumption|exact dT (by first|assumption|omega)|exact nT (by first|assumption|omega)|exact nbT (by assumption)|rfl));(conv=>whnf))|((first|refine pickF ?_ ?_|refine pickF2 ?_ ?_);(focus (first|assumption|exact dF (by first|assumption|omega)|exact nF (by first|assumption|omega)|exact nbF (by assumption)|rfl));(conv=>whnf))|((first|(first|refine splitB ?_ ?_|refine splitB2 ?_ ?_)<;>intro _h|intro _h);all_goals ((first|replace _h:=of_decide_eq_true _h|replace _h:=of_decide_eq_false _h|skip);(try simp only [Bool.not_eq_true',Bool.not_eq_false',Bool.not_true,Bool.not_false,decide_eq_true_eq,decide_eq_false_iff_not] at _h);(try (guard_hyp _h : True;clear _h));first|done|contradiction|(conv=>whnf)))|(refine And.intro ?_ ?_;(focus (first|rfl|decide|assumption|omega|decide +kernel|exact ⟨rfl, rfl⟩|exact ⟨rfl, rfl, rfl, rfl⟩|exact fun h => Bool.noConfusion h|exact fun _ => rfl|exact Nat.le_of_ble_eq_true rfl|(simp only [List.length_map, List.length_append, List.length_replicate, List.length_take, List.length_drop, List.length_set, List.length_cons, List.length_nil]; omega)));(conv=>whnf))))
      refine ⟨k + 1, [0], by omega, by omega, rfl, ?_⟩
      (refine ⟨rfl, rfl, ?_, ?_⟩ <;> repeat' (first | exact True.intro | rfl | decide | (refine And.intro ?_ ?_)))
      · exact di (by rw [e2]; omega)
      · show some (Ob.row .u8 _ _) = some (Ob.row .u8 _ _)
        rw [ebyte, hexB_take xs k hkl]
  · have e1 : IntKind.i64.wrap (((2 * k : Nat) : Int) + 1) = (2 * k + 1 : Nat) := by rw [wrap_i64 (by omega) (by omega)]; omega
    ((conv=>whnf);repeat' (first|((first|refine pickT ?_ ?_|refine pickT2 ?_ ?_);(focus (first|assumption|exact dT (by first|assumption|omega)|exact nT (by first|assumption|omega)|exact nbT (by assumption)|rfl));(conv=>whnf))|((first|refine pickF ?_ ?_|refine pickF2 ?_ ?_);(focus (first|assumption|exact dF (by first|assumption|omega)|exact nF (by first|assumption|omega)|exact nbF (by assumption)|rfl));(conv=>whnf))|((first|(first|refine splitB ?_ ?_|refine splitB2 ?_ ?_)<;>intro _h|intro _h);all_goals ((first|replace _h:=of_decide_eq_true _h|replace _h:=of_decide_eq_false _h|skip);(try simp only [Bool.not_eq_true',Bool.not_eq_false',Bool.not_true,Bool.not_false,decide_eq_true_eq,decide_eq_false_iff_not] at _h);(try (guard_hyp _h : True;clear _h));first|done|contradiction|(conv=>whnf)))|(refine And.intro ?_ ?_;(focus (first|rfl|decide|assumption|omega|decide +kernel|exact ⟨rfl, rfl⟩|exact ⟨rfl, rfl, rfl, rfl⟩|exact fun h => Bool.noConfusion h|exact fun _ => rfl|exact Nat.le_of_ble_eq_true rfl|(simp only [List.length_map, List.length_append, List.length_replicate, List.length_take, List.length_drop, List.length_set, List.length_cons, List.length_nil]; omega)));(conv=>whnf))))
    refine Ends.imm rfl ?_
    rw [List.take_of_length_le (by simp [hexB]; omega)]
end Go.Proofs.YtniaeiikdgbnfaaDoor.R

/- The key's code, part 12: the four fixed keys. -/
namespace Go.Proofs.YtniaeiikdgbnfaaDoor.R
open Go Go.RowKit Go.Proofs Go.Proofs.YtniaeiikdgbnfaaDoor.AW
set_option linter.unusedSectionVars false
variable [Globs]
set_option maxRecDepth 100000
set_option linter.unusedSimpArgs false
set_option linter.unusedVariables false
set_option maxHeartbeats 4000000

/-- The moduli, and the exponents that go with them. -/
def keyM : Nat → Nat
  | 1 => 8798897235477369662427135118463266393166531668360946010168437584925822992125429558809574850103081583861454032877256194821401750061414846908587360976915741
  | 2 => 127999963861467928976235131166093275292161515016063763923373206774501895897251866639788429389649847322170796078865058902473104027594537885017105652176856237612874369081376323347280241957528896247405164286184783857999238518557773932972970357366484208424006982919891871196302697261030613745495102320304850740117
  | 3 => 21194976876106637767765971718165402166353776426219101977383846722248938411909916334974259674239889560497095207569630968526574494887006368495708710046325672162422584895085717556702231790328714468474804417764748464856769271775639164236900590607434035455341442204371723308978322428797989385976785730466691083582103046616771517615007258510561437830504786488550206182749961020805330594563883953407125895219372141907850320983399201270241215599536426349582548563878865734947792524324328099558734342438666921317912254057202636830323200504800306119446616233962423300924062342948048824120326245834241393092211722134327371078417
  | _ => 12607766334694039014391351008413601944683118988991459305310262151377373165058157047532882643118617957749893479614883761015472045962519006435872599572042897
def keyS : Nat → Nat
  | 1 => 665485662632596122407734592649080606288481405116928134273805682272320568781250178228116130340889242470884941083446684742951338887724730162469359910046321
  | 2 => 19049183120916691344048094653503055449840781692631774073667801039727815198303195741236296259828567743649732178095791301027730004157530242537805674060428016987991313086216564246459434546712853419322174614433193377015960796308433284073844185721518512896022191151064406223025669709891446507495599229498951901233
  | 3 => 1993305155498165339909143944411743843207981766071096251546536144049641147776168718900984932208943944735399031262575651532928603677862333524929438856989613201292271571797012682312803540590674453002799289392145309720382339847554083781285942142742567977310480782254987512624744652484801067800905120004447113747295376264649173116209078018858030489149333629011745679857466373000261196213871082456799966462884700798968705427811623624086488859501306520816411835448873617160761070230710353657650105797764969861846996854073856400239666400673624047118508045279127092387387624038080325041065703851217529775387191758196514993591
  | _ => 4461879983577615604624651717558644379571965763937522489551147675480585081767111051003969606891830699444075379236997817217414472602895223140136589450812183
def keyL : Nat → Nat
  | 2 => 128
  | 3 => 256
  | _ => 64
def modB (k : Nat) : List Int := be (keyL k) (keyM k)
def secB (k : Nat) : List Int := be (keyL k) (keyS k)
def idx (k : Int) : Nat := if k = 1 then 1 else if k = 2 then 2 else if k = 3 then 3 else 0

theorem wfd_bytesOf (s : ByteArray) : wfd (bytesOf s) := fun x hx => by
  simp only [bytesOf, List.mem_map] at hx
  obtain ⟨b, _, rfl⟩ := hx
  have := b.toNat_lt
  omega

theorem k_modulus (k : Int) : Imm Tryd.prog 20 [i64 k] (fun r => r = .d (byt (modB (idx k)))) := by
  (refine Imm.of_awp told0 [] Tryd.func20 rfl (by decide) (Nat.le_of_ble_eq_true rfl) ?_; intro _w0 _S0 _E0 _B0; ((conv=>whnf);repeat' (first|((first|refine pickT ?_ ?_|refine pickT2 ?_ ?_);(focus (first|assumption|exact dT (by assumption)|exact nT (by assumption)|exact nbT (by assumption)|rfl));(conv=>whnf))|((first|refine pickF ?_ ?_|refine pickF2 ?_ ?_);(focus (first|assumption|exact dF (by assumption)|exact nF (by assumption)|exact nbF (by assumption)|rfl));(conv=>whnf))|((first|(first|refine splitB ?_ ?_|refine splitB2 ?_ ?_)<;>intro _h|intro _h);all_goals ((first|replace _h:=of_decide_eq_true _h|replace _h:=of_decide_eq_false _h|skip);(try simp only [Bool.not_eq_true',Bool.not_eq_false',Bool.not_true,Bool.not_false,decide_eq_true_eq,decide_eq_false_iff_not] at _h);(try (guard_hyp _h : True;clear _h));first|done|contradiction|(conv=>whnf)))|(refine And.intro ?_ ?_;(focus (first|rfl|decide|assumption|omega|decide +kernel|exact ⟨rfl, rfl⟩|exact ⟨rfl, rfl, rfl, rfl⟩|exact fun h => Bool.noConfusion h|exact fun _ => rfl|exact Nat.le_of_ble_eq_true rfl|(simp only [List.length_map, List.length_append, List.length_replicate, List.length_take, List.length_drop, List.length_set, List.length_cons, List.length_nil]; omega)));(conv=>whnf)))))
  · refine acallI (k_hex (bytesOf _) (wfd_bytesOf _) (by decide +kernel) (by decide +kernel)) rfl fun r hr => ?_
    subst hr
    ((conv=>whnf);repeat' (first|((first|refine pickT ?_ ?_|refine pickT2 ?_ ?_);(focus (first|assumption|exact dT (by assumption)|exact nT (by assumption)|exact nbT (by assumption)|rfl));(conv=>whnf))|((first|refine pickF ?_ ?_|refine pickF2 ?_ ?_);(focus (first|assumption|exact dF (by assumption)|exact nF (by assumption)|exact nbF (by assumption)|rfl));(conv=>whnf))|((first|(first|refine splitB ?_ ?_|refine splitB2 ?_ ?_)<;>intro _h|intro _h);all_goals ((first|replace _h:=of_decide_eq_true _h|replace _h:=of_decide_eq_false _h|skip);(try simp only [Bool.not_eq_true',Bool.not_eq_false',Bool.not_true,Bool.not_false,decide_eq_true_eq,decide_eq_false_iff_not] at _h);(try (guard_hyp _h : True;clear _h));first|done|contradiction|(conv=>whnf)))|(refine And.intro ?_ ?_;(focus (first|rfl|decide|assumption|omega|decide +kernel|exact ⟨rfl, rfl⟩|exact ⟨rfl, rfl, rfl, rfl⟩|exact fun h => Bool.noConfusion h|exact fun _ => rfl|exact Nat.le_of_ble_eq_true rfl|(simp only [List.length_map, List.length_append, List.length_replicate, List.length_take, List.length_drop, List.length_set, List.length_cons, List.length_nil]; omega)));(conv=>whnf))))
    refine Ends.imm rfl ?_
    have : idx k = 1 := by unfold idx; simp [*]
    rw [this]
    refine congrArg (fun l => AVal.d (byt l)) ?_
    decide +kernel
  · refine acallI (k_hex (bytesOf _) (wfd_bytesOf _) (by decide +kernel) (by decide +kernel)) rfl fun r hr => ?_
    subst hr
    ((conv=>whnf);repeat' (first|((first|refine pickT ?_ ?_|refine pickT2 ?_ ?_);(focus (first|assumption|exact dT (by assumption)|exact nT (by assumption)|exact nbT (by assumption)|rfl));(conv=>whnf))|((first|refine pickF ?_ ?_|refine pickF2 ?_ ?_);(focus (first|assumption|exact dF (by assumption)|exact nF (by assumption)|exact nbF (by assumption)|rfl));(conv=>whnf))|((first|(first|refine splitB ?_ ?_|refine splitB2 ?_ ?_)<;>intro _h|intro _h);all_goals ((first|replace _h:=of_decide_eq_true _h|replace _h:=of_decide_eq_false _h|skip);(try simp only [Bool.not_eq_true',Bool.not_eq_false',Bool.not_true,Bool.not_false,decide_eq_true_eq,decide_eq_false_iff_not] at _h);(try (guard_hyp _h : True;clear _h));first|done|contradiction|(conv=>whnf)))|(refine And.intro ?_ ?_;(focus (first|rfl|decide|assumption|omega|decide +kernel|exact ⟨rfl, rfl⟩|exact ⟨rfl, rfl, rfl, rfl⟩|exact fun h => Bool.noConfusion h|exact fun _ => rfl|exact Nat.le_of_ble_eq_true rfl|(simp only [List.length_map, List.length_append, List.length_replicate, List.length_take, List.length_drop, List.length_set, List.length_cons, List.length_nil]; omega)));(conv=>whnf))))
    refine Ends.imm rfl ?_
    have : idx k = 2 := by unfold idx; simp [*]
    rw [this]
    refine congrArg (fun l => AVal.d (byt l)) ?_
    decide +kernel
  · refine acallI (k_hex (bytesOf _) (wfd_bytesOf _) (by decide +kernel) (by decide +kernel)) rfl fun r hr => ?_
    subst hr
    ((conv=>whnf);repeat' (first|((first|refine pickT ?_ ?_|refine pickT2 ?_ ?_);(focus (first|assumption|exact dT (by assumption)|exact nT (by assumption)|exact nbT (by assumption)|rfl));(conv=>whnf))|((first|refine pickF ?_ ?_|refine pickF2 ?_ ?_);(focus (first|assumption|exact dF (by assumption)|exact nF (by assumption)|exact nbF (by assumption)|rfl));(conv=>whnf))|((first|(first|refine splitB ?_ ?_|refine splitB2 ?_ ?_)<;>intro _h|intro _h);all_goals ((first|replace _h:=of_decide_eq_true _h|replace _h:=of_decide_eq_false _h|skip);(try simp only [Bool.not_eq_true',Bool.not_eq_false',Bool.not_true,Bool.not_false,decide_eq_true_eq,decide_eq_false_iff_not] at _h);(try (guard_hyp _h : True;clear _h));first|done|contradiction|(conv=>whnf)))|(refine And.intro ?_ ?_;(focus (first|rfl|decide|assumption|omega|decide +kernel|exact ⟨rfl, rfl⟩|exact ⟨rfl, rfl, rfl, rfl⟩|exact fun h => Bool.noConfusion h|exact fun _ => rfl|exact Nat.le_of_ble_eq_true rfl|(simp only [List.length_map, List.length_append, List.length_replicate, List.length_take, List.length_drop, List.length_set, List.length_cons, List.length_nil]; omega)));(conv=>whnf))))
    refine Ends.imm rfl ?_
    have : idx k = 3 := by unfold idx; simp [*]
    rw [this]
    refine congrArg (fun l => AVal.d (byt l)) ?_
    decide +kernel
  · refine acallI (k_hex (bytesOf _) (wfd_bytesOf _) (by decide +kernel) (by decide +kernel)) rfl fun r hr => ?_
    subst hr
    ((conv=>whnf);repeat' (first|((first|refine pickT ?_ ?_|refine pickT2 ?_ ?_);(focus (first|assumption|exact dT (by assumption)|exact nT (by assumption)|exact nbT (by assumption)|rfl));(conv=>whnf))|((first|refine pickF ?_ ?_|refine pickF2 ?_ ?_);(focus (first|assumption|exact dF (by assumption)|exact nF (by assumption)|exact nbF (by assumption)|rfl));(conv=>whnf))|((first|(first|refine splitB ?_ ?_|refine splitB2 ?_ ?_)<;>intro _h|intro _h);all_goals ((first|replace _h:=of_decide_eq_true _h|replace _h:=of_decide_eq_false _h|skip);(try simp only [Bool.not_eq_true',Bool.not_eq_false',Bool.not_true,Bool.not_false,decide_eq_true_eq,decide_eq_false_iff_not] at _h);(try (guard_hyp _h : True;clear _h));first|done|contradiction|(conv=>whnf)))|(refine And.intro ?_ ?_;(focus (first|rfl|decide|assumption|omega|decide +kernel|exact ⟨rfl, rfl⟩|exact ⟨rfl, rfl, rfl, rfl⟩|exact fun h => Bool.noConfusion h|exact fun _ => rfl|exact Nat.le_of_ble_eq_true rfl|(simp only [List.length_map, List.length_append, List.length_replicate, List.length_take, List.length_drop, List.length_set, List.length_cons, List.length_nil]; omega)));(conv=>whnf))))
    refine Ends.imm rfl ?_
    have : idx k = 0 := by unfold idx; simp [*]
    rw [this]
    refine congrArg (fun l => AVal.d (byt l)) ?_
    decide +kernel
theorem k_secret (k : Int) : Imm Tryd.prog 22 [i64 k] (fun r => r = .d (byt (secB (idx k)))) := by
  (refine Imm.of_awp told0 [] Tryd.func22 rfl (by decide) (Nat.le_of_ble_eq_true rfl) ?_; intro _w0 _S0 _E0 _B0; ((conv=>whnf);repeat' (first|((first|refine pickT ?_ ?_|refine pickT2 ?_ ?_);(focus (first|assumption|exact dT (by assumption)|exact nT (by assumption)|exact nbT (by assumption)|rfl));(conv=>whnf))|((first|refine pickF ?_ ?_|refine pickF2 ?_ ?_);(focus (first|assumption|exact dF (by assumption)|exact nF (by assumption)|exact nbF (by assumption)|rfl));(conv=>whnf))|((first|(first|refine splitB ?_ ?_|refine splitB2 ?_ ?_)<;>intro _h|intro _h);all_goals ((first|replace _h:=of_decide_eq_true _h|replace _h:=of_decide_eq_false _h|skip);(try simp only [Bool.not_eq_true',Bool.not_eq_false',Bool.not_true,Bool.not_false,decide_eq_true_eq,decide_eq_false_iff_not] at _h);(try (guard_hyp _h : True;clear _h));first|done|contradiction|(conv=>whnf)))|(refine And.intro ?_ ?_;(focus (first|rfl|decide|assumption|omega|decide +kernel|exact ⟨rfl, rfl⟩|exact ⟨rfl, rfl, rfl, rfl⟩|exact fun h => Bool.noConfusion h|exact fun _ => rfl|exact Nat.le_of_ble_eq_true rfl|(simp only [List.length_map, List.length_append, List.length_replicate, List.length_take, List.length_drop, List.length_set, List.length_cons, List.length_nil]; omega)));(conv=>whnf)))))
  · refine acallI (k_hex (bytesOf _) (wfd_bytesOf _) (by decide +kernel) (by decide +kernel)) rfl fun r hr => ?_
    subst hr
    ((conv=>whnf);repeat' (first|((first|refine pickT ?_ ?_|refine pickT2 ?_ ?_);(focus (first|assumption|exact dT (by assumption)|exact nT (by assumption)|exact nbT (by assumption)|rfl));(conv=>whnf))|((first|refine pickF ?_ ?_|refine pickF2 ?_ ?_);(focus (first|assumption|exact dF (by assumption)|exact nF (by assumption)|exact nbF (by assumption)|rfl));(conv=>whnf))|((first|(first|refine splitB ?_ ?_|refine splitB2 ?_ ?_)<;>intro _h|intro _h);all_goals ((first|replace _h:=of_decide_eq_true _h|replace _h:=of_decide_eq_false _h|skip);(try simp only [Bool.not_eq_true',Bool.not_eq_false',Bool.not_true,Bool.not_false,decide_eq_true_eq,decide_eq_false_iff_not] at _h);(try (guard_hyp _h : True;clear _h));first|done|contradiction|(conv=>whnf)))|(refine And.intro ?_ ?_;(focus (first|rfl|decide|assumption|omega|decide +kernel|exact ⟨rfl, rfl⟩|exact ⟨rfl, rfl, rfl, rfl⟩|exact fun h => Bool.noConfusion h|exact fun _ => rfl|exact Nat.le_of_ble_eq_true rfl|(simp only [List.length_map, List.length_append, List.length_replicate, List.length_take, List.length_drop, List.length_set, List.length_cons, List.length_nil]; omega)));(conv=>whnf))))
    refine Ends.imm rfl ?_
    have : idx k = 1 := by unfold idx; simp [*]
    rw [this]
    refine congrArg (fun l => AVal.d (byt l)) ?_
    decide +kernel
  · refine acallI (k_hex (bytesOf _) (wfd_bytesOf _) (by decide +kernel) (by decide +kernel)) rfl fun r hr => ?_
    subst hr
    ((conv=>whnf);repeat' (first|((first|refine pickT ?_ ?_|refine pickT2 ?_ ?_);(focus (first|assumption|exact dT (by assumption)|exact nT (by assumption)|exact nbT (by assumption)|rfl));(conv=>whnf))|((first|refine pickF ?_ ?_|refine pickF2 ?_ ?_);(focus (first|assumption|exact dF (by assumption)|exact nF (by assumption)|exact nbF (by assumption)|rfl));(conv=>whnf))|((first|(first|refine splitB ?_ ?_|refine splitB2 ?_ ?_)<;>intro _h|intro _h);all_goals ((first|replace _h:=of_decide_eq_true _h|replace _h:=of_decide_eq_false _h|skip);(try simp only [Bool.not_eq_true',Bool.not_eq_false',Bool.not_true,Bool.not_false,decide_eq_true_eq,decide_eq_false_iff_not] at _h);(try (guard_hyp _h : True;clear _h));first|done|contradiction|(conv=>whnf)))|(refine And.intro ?_ ?_;(focus (first|rfl|decide|assumption|omega|decide +kernel|exact ⟨rfl, rfl⟩|exact ⟨rfl, rfl, rfl, rfl⟩|exact fun h => Bool.noConfusion h|exact fun _ => rfl|exact Nat.le_of_ble_eq_true rfl|(simp only [List.length_map, List.length_append, List.length_replicate, List.length_take, List.length_drop, List.length_set, List.length_cons, List.length_nil]; omega)));(conv=>whnf))))
    refine Ends.imm rfl ?_
    have : idx k = 2 := by unfold idx; simp [*]
    rw [this]
    refine congrArg (fun l => AVal.d (byt l)) ?_
    decide +kernel
  · refine acallI (k_hex (bytesOf _) (wfd_bytesOf _) (by decide +kernel) (by decide +kernel)) rfl fun r hr => ?_
    subst hr
    ((conv=>whnf);repeat' (first|((first|refine pickT ?_ ?_|refine pickT2 ?_ ?_);(focus (first|assumption|exact dT (by assumption)|exact nT (by assumption)|exact nbT (by assumption)|rfl));(conv=>whnf))|((first|refine pickF ?_ ?_|refine pickF2 ?_ ?_);(focus (first|assumption|exact dF (by assumption)|exact nF (by assumption)|exact nbF (by assumption)|rfl));(conv=>whnf))|((first|(first|refine splitB ?_ ?_|refine splitB2 ?_ ?_)<;>intro _h|intro _h);all_goals ((first|replace _h:=of_decide_eq_true _h|replace _h:=of_decide_eq_false _h|skip);(try simp only [Bool.not_eq_true',Bool.not_eq_false',Bool.not_true,Bool.not_false,decide_eq_true_eq,decide_eq_false_iff_not] at _h);(try (guard_hyp _h : True;clear _h));first|done|contradiction|(conv=>whnf)))|(refine And.intro ?_ ?_;(focus (first|rfl|decide|assumption|omega|decide +kernel|exact ⟨rfl, rfl⟩|exact ⟨rfl, rfl, rfl, rfl⟩|exact fun h => Bool.noConfusion h|exact fun _ => rfl|exact Nat.le_of_ble_eq_true rfl|(simp only [List.length_map, List.length_append, List.length_replicate, List.length_take, List.length_drop, List.length_set, List.length_cons, List.length_nil]; omega)));(conv=>whnf))))
    refine Ends.imm rfl ?_
    have : idx k = 3 := by unfold idx; simp [*]
    rw [this]
    refine congrArg (fun l => AVal.d (byt l)) ?_
    decide +kernel
  · refine acallI (k_hex (bytesOf _) (wfd_bytesOf _) (by decide +kernel) (by decide +kernel)) rfl fun r hr => ?_
    subst hr
    ((conv=>whnf);repeat' (first|((first|refine pickT ?_ ?_|refine pickT2 ?_ ?_);(focus (first|assumption|exact dT (by assumption)|exact nT (by assumption)|exact nbT (by assumption)|rfl));(conv=>whnf))|((first|refine pickF ?_ ?_|refine pickF2 ?_ ?_);(focus (first|assumption|exact dF (by assumption)|exact nF (by assumption)|exact nbF (by assumption)|rfl));(conv=>whnf))|((first|(first|refine splitB ?_ ?_|refine splitB2 ?_ ?_)<;>intro _h|intro _h);all_goals ((first|replace _h:=of_decide_eq_true _h|replace _h:=of_decide_eq_false _h|skip);(try simp only [Bool.not_eq_true',Bool.not_eq_false',Bool.not_true,Bool.not_false,decide_eq_true_eq,decide_eq_false_iff_not] at _h);(try (guard_hyp _h : True;clear _h));first|done|contradiction|(conv=>whnf)))|(refine And.intro ?_ ?_;(focus (first|rfl|decide|assumption|omega|decide +kernel|exact ⟨rfl, rfl⟩|exact ⟨rfl, rfl, rfl, rfl⟩|exact fun h => Bool.noConfusion h|exact fun _ => rfl|exact Nat.le_of_ble_eq_true rfl|(simp only [List.length_map, List.length_append, List.length_replicate, List.length_take, List.length_drop, List.length_set, List.length_cons, List.length_nil]; omega)));(conv=>whnf))))
    refine Ends.imm rfl ?_
    have : idx k = 0 := by unfold idx; simp [*]
    rw [this]
    refine congrArg (fun l => AVal.d (byt l)) ?_
    decide +kernel
end Go.Proofs.YtniaeiikdgbnfaaDoor.R

/- The key's code, part 13: powers, reckoned. -/
namespace Go.Proofs.YtniaeiikdgbnfaaDoor.R
open Go Go.RowKit Go.Proofs Go.Proofs.YtniaeiikdgbnfaaDoor.AW
set_option maxRecDepth 100000
set_option linter.unusedSimpArgs false
set_option linter.unusedVariables false
set_option maxHeartbeats 4000000

/-- A power's rest, by squares. -/
def pm : Nat → Nat → Nat → Nat → Nat
  | 0, _, _, m => 1 % m
  | f + 1, b, e, m => if e = 0 then 1 % m else if e % 2 = 1 then b * pm f (b * b % m) (e / 2) m % m else pm f (b * b % m) (e / 2) m

theorem pm_eq : ∀ (f b e m : Nat), e < 2 ^ f → pm f b e m = b ^ e % m
  | 0, b, e, m, h => by
    have : e = 0 := by simp at h; exact h
    subst this
    simp [pm]
  | f + 1, b, e, m, h => by
    have h2 : e / 2 < 2 ^ f := by rw [Nat.pow_succ] at h; omega
    unfold pm
    split
    · rename_i h0; subst h0; simp
    · rw [pm_eq f _ _ m h2, ← Nat.pow_mod, ← Nat.pow_two, ← Nat.pow_mul]
      split
      · rename_i h1
        have h4 : 2 * (e / 2) + 1 = e := by omega
        have h3 : b * b ^ (2 * (e / 2)) = b ^ e := by rw [← Nat.pow_succ', Nat.succ_eq_add_one, h4]
        rw [← h3, Nat.mul_mod, Nat.mod_mod, ← Nat.mul_mod]
      · have : 2 * (e / 2) = e := by omega
        rw [this]

set_option linter.unusedSectionVars false
variable [Globs]
theorem powV_ok {m block exp : List Int} {M B E R : Nat} (hm : bn m = M) (hb : bn block = B) (hl : block.length = m.length) (hlt : B < M) (hel : exp.length ≤ 1024) (he : ev exp = E) (hE : E < 2 ^ 4200) (hR : pm 4200 B E M = R) :
    powV m block exp = .tup [.d (byt (be m.length R)), i64 0] := by
  unfold powV
  rw [if_neg (by omega), hm, hb, if_neg (by omega), if_neg (by omega), he, ← Int.natCast_pow, ← Int.natCast_emod, Int.toNat_natCast, ← pm_eq 4200 B E M hE, hR]

theorem bn_be {n v : Nat} (h : v < 256 ^ n) : bn (be n v) = v := by
  unfold bn
  rw [dval_be, Nat.mod_eq_of_lt h]

theorem modB_len (k : Nat) : (modB k).length = keyL k := be_length _ _
theorem secB_len (k : Nat) : (secB k).length = keyL k := be_length _ _

/-- The block of the anchor, closed. -/
def ancX : Nat := 6066988274665191910888268032501191046303578170855220796717604126367961076137979329567869479535545857336114934390111988286836951580209618009209795422463266

theorem anc_bn : bn (modB 0) = keyM 0 := bn_be (by decide +kernel)
theorem anc_close : powV (modB 0) (be 64 2) (secB 0) = .tup [.d (byt (be 64 ancX)), i64 0] :=
  powV_ok anc_bn (bn_be (by decide +kernel)) (by rw [modB_len, be_length]; rfl) (by decide +kernel) (by rw [secB_len]; decide) (E := keyS 0) (by decide +kernel) (by decide +kernel) (by decide +kernel)
theorem anc_open : powV (modB 0) (be 64 ancX) [1, 0, 1] = .tup [.d (byt (be 64 2)), i64 0] :=
  powV_ok anc_bn (bn_be (by decide +kernel)) (by rw [modB_len, be_length]; rfl) (by decide +kernel) (by decide) (E := 65537) (by decide +kernel) (by decide +kernel) (by decide +kernel)
end Go.Proofs.YtniaeiikdgbnfaaDoor.R

/- The key's code, part 14: the laws' anchor. -/
namespace Go.Proofs.YtniaeiikdgbnfaaDoor.R
open Go Go.RowKit Go.Proofs Go.Proofs.YtniaeiikdgbnfaaDoor.AW
set_option linter.unusedSectionVars false
variable [Globs]
set_option maxRecDepth 100000
set_option linter.unusedSimpArgs false
set_option linter.unusedVariables false
set_option maxHeartbeats 4000000

theorem be_wfd' (n v : Nat) : wfd (be n v) := be_wfd n v
theorem modB_wfd (k : Nat) : wfd (modB k) := be_wfd _ _
theorem secB_wfd (k : Nat) : wfd (secB k) := be_wfd _ _
theorem modB_right0 : notMod (modB 0) = 0 := by decide +kernel

theorem keyBytes_len (m : List Int) (n0 : Int) (rr : List Int) : (keyBytes m n0 rr).length = 8 + 2 * m.length := by
  simp [keyBytes, be_length]; omega

def toldAnc : AW.Told := ⟨fun _ => false, fun r i => if r == 7 && i == 3 then [38] else [], fun _ => .done⟩

theorem k_anchor (hG : Globs.gl 0 = some EXP) : Imm Tryd.prog 16 [] (fun r => r = bool true) := by
  have hml : (modB 0).length = 64 := modB_len 0
  (refine Imm.of_awp toldAnc [] Tryd.func16 rfl (by decide) (Nat.le_of_ble_eq_true rfl) ?_; intro _w0 _S0 _E0 _B0; ((conv=>whnf);repeat' (first|((first|refine pickT ?_ ?_|refine pickT2 ?_ ?_);(focus (first|assumption|exact dT (by assumption)|exact nT (by assumption)|exact nbT (by assumption)|rfl));(conv=>whnf))|((first|refine pickF ?_ ?_|refine pickF2 ?_ ?_);(focus (first|assumption|exact dF (by assumption)|exact nF (by assumption)|exact nbF (by assumption)|rfl));(conv=>whnf))|((first|(first|refine splitB ?_ ?_|refine splitB2 ?_ ?_)<;>intro _h|intro _h);all_goals ((first|replace _h:=of_decide_eq_true _h|replace _h:=of_decide_eq_false _h|skip);(try simp only [Bool.not_eq_true',Bool.not_eq_false',Bool.not_true,Bool.not_false,decide_eq_true_eq,decide_eq_false_iff_not] at _h);(try (guard_hyp _h : True;clear _h));first|done|contradiction|(conv=>whnf)))|(refine And.intro ?_ ?_;(focus (first|rfl|decide|assumption|omega|decide +kernel|exact ⟨rfl, rfl⟩|exact ⟨rfl, rfl, rfl, rfl⟩|exact fun h => Bool.noConfusion h|exact fun _ => rfl|exact Nat.le_of_ble_eq_true rfl|(simp only [List.length_map, List.length_append, List.length_replicate, List.length_take, List.length_drop, List.length_set, List.length_cons, List.length_nil]; omega)));(conv=>whnf)))))
  refine acallI (k_modulus 0) rfl fun r hr => ?_
  subst hr
  ((conv=>whnf);repeat' (first|((first|refine pickT ?_ ?_|refine pickT2 ?_ ?_);(focus (first|assumption|exact dT (by first|assumption|omega)|exact nT (by first|assumption|omega)|exact nbT (by assumption)|rfl));(conv=>whnf))|((first|refine pickF ?_ ?_|refine pickF2 ?_ ?_);(focus (first|assumption|exact dF (by first|assumption|omega)|exact nF (by first|assumption|omega)|exact nbF (by assumption)|rfl));(conv=>whnf))|((first|(first|refine splitB ?_ ?_|refine splitB2 ?_ ?_)<;>intro _h|intro _h);all_goals ((first|replace _h:=of_decide_eq_true _h|replace _h:=of_decide_eq_false _h|skip);(try simp only [Bool.not_eq_true',Bool.not_eq_false',Bool.not_true,Bool.not_false,decide_eq_true_eq,decide_eq_false_iff_not] at _h);(try (guard_hyp _h : True;clear _h));first|done|contradiction|(conv=>whnf)))|(refine And.intro ?_ ?_;(focus (first|rfl|decide|assumption|omega|decide +kernel|exact ⟨rfl, rfl⟩|exact ⟨rfl, rfl, rfl, rfl⟩|exact fun h => Bool.noConfusion h|exact fun _ => rfl|exact Nat.le_of_ble_eq_true rfl|(simp only [List.length_map, List.length_append, List.length_replicate, List.length_take, List.length_drop, List.length_set, List.length_cons, List.length_nil]; omega)));(conv=>whnf))))
  refine acallI (k_make (modB 0) (modB_wfd 0) (by rw [hml]; unfold LIM; omega)) rfl fun r hr => ?_
  rw [if_neg (by rw [modB_right0]; simp)] at hr
  obtain ⟨n, n0, rr, rfl, hk⟩ := hr
  ((conv=>whnf);repeat' (first|((first|refine pickT ?_ ?_|refine pickT2 ?_ ?_);(focus (first|assumption|exact dT (by first|assumption|omega)|exact nT (by first|assumption|omega)|exact nbT (by assumption)|rfl));(conv=>whnf))|((first|refine pickF ?_ ?_|refine pickF2 ?_ ?_);(focus (first|assumption|exact dF (by first|assumption|omega)|exact nF (by first|assumption|omega)|exact nbF (by assumption)|rfl));(conv=>whnf))|((first|(first|refine splitB ?_ ?_|refine splitB2 ?_ ?_)<;>intro _h|intro _h);all_goals ((first|replace _h:=of_decide_eq_true _h|replace _h:=of_decide_eq_false _h|skip);(try simp only [Bool.not_eq_true',Bool.not_eq_false',Bool.not_true,Bool.not_false,decide_eq_true_eq,decide_eq_false_iff_not] at _h);(try (guard_hyp _h : True;clear _h));first|done|contradiction|(conv=>whnf)))|(refine And.intro ?_ ?_;(focus (first|rfl|decide|assumption|omega|decide +kernel|exact ⟨rfl, rfl⟩|exact ⟨rfl, rfl, rfl, rfl⟩|exact fun h => Bool.noConfusion h|exact fun _ => rfl|exact Nat.le_of_ble_eq_true rfl|(simp only [List.length_map, List.length_append, List.length_replicate, List.length_take, List.length_drop, List.length_set, List.length_cons, List.length_nil]; omega)));(conv=>whnf))))
  refine acallI (k_keyBytes (modB 0) n n0 rr hk) rfl fun r hr => ?_
  subst hr
  have hkl := keyBytes_len (modB 0) n0 rr
  rw [hml] at hkl
  ((conv=>whnf);repeat' (first|((first|refine pickT ?_ ?_|refine pickT2 ?_ ?_);(focus (first|assumption|exact dT (by first|assumption|omega)|exact nT (by first|assumption|omega)|exact nbT (by assumption)|rfl));(conv=>whnf))|((first|refine pickF ?_ ?_|refine pickF2 ?_ ?_);(focus (first|assumption|exact dF (by first|assumption|omega)|exact nF (by first|assumption|omega)|exact nbF (by assumption)|rfl));(conv=>whnf))|((first|(first|refine splitB ?_ ?_|refine splitB2 ?_ ?_)<;>intro _h|intro _h);all_goals ((first|replace _h:=of_decide_eq_true _h|replace _h:=of_decide_eq_false _h|skip);(try simp only [Bool.not_eq_true',Bool.not_eq_false',Bool.not_true,Bool.not_false,decide_eq_true_eq,decide_eq_false_iff_not] at _h);(try (guard_hyp _h : True;clear _h));first|done|contradiction|(conv=>whnf)))|(refine And.intro ?_ ?_;(focus (first|rfl|decide|assumption|omega|decide +kernel|exact ⟨rfl, rfl⟩|exact ⟨rfl, rfl, rfl, rfl⟩|exact fun h => Bool.noConfusion h|exact fun _ => rfl|exact Nat.le_of_ble_eq_true rfl|(simp only [List.length_map, List.length_append, List.length_replicate, List.length_take, List.length_drop, List.length_set, List.length_cons, List.length_nil]; omega)));(conv=>whnf))))
  refine acallI (k_size (modB 0) n n0 rr) rfl fun r hr => ?_
  subst hr
  ((conv=>whnf);repeat' (first|((first|refine pickT ?_ ?_|refine pickT2 ?_ ?_);(focus (first|assumption|exact dT (by first|assumption|omega)|exact nT (by first|assumption|omega)|exact nbT (by assumption)|rfl));(conv=>whnf))|((first|refine pickF ?_ ?_|refine pickF2 ?_ ?_);(focus (first|assumption|exact dF (by first|assumption|omega)|exact nF (by first|assumption|omega)|exact nbF (by assumption)|rfl));(conv=>whnf))|((first|(first|refine splitB ?_ ?_|refine splitB2 ?_ ?_)<;>intro _h|intro _h);all_goals ((first|replace _h:=of_decide_eq_true _h|replace _h:=of_decide_eq_false _h|skip);(try simp only [Bool.not_eq_true',Bool.not_eq_false',Bool.not_true,Bool.not_false,decide_eq_true_eq,decide_eq_false_iff_not] at _h);(try (guard_hyp _h : True;clear _h));first|done|contradiction|(conv=>whnf)))|(refine And.intro ?_ ?_;(focus (first|rfl|decide|assumption|omega|decide +kernel|exact ⟨rfl, rfl⟩|exact ⟨rfl, rfl, rfl, rfl⟩|exact fun h => Bool.noConfusion h|exact fun _ => rfl|exact Nat.le_of_ble_eq_true rfl|(simp only [List.length_map, List.length_append, List.length_replicate, List.length_take, List.length_drop, List.length_set, List.length_cons, List.length_nil]; omega)));(conv=>whnf))))
  refine acallI (k_secret 0) rfl fun r hr => ?_
  subst hr
  ((conv=>whnf);repeat' (first|((first|refine pickT ?_ ?_|refine pickT2 ?_ ?_);(focus (first|assumption|exact dT (by first|assumption|omega)|exact nT (by first|assumption|omega)|exact nbT (by assumption)|rfl));(conv=>whnf))|((first|refine pickF ?_ ?_|refine pickF2 ?_ ?_);(focus (first|assumption|exact dF (by first|assumption|omega)|exact nF (by first|assumption|omega)|exact nbF (by assumption)|rfl));(conv=>whnf))|((first|(first|refine splitB ?_ ?_|refine splitB2 ?_ ?_)<;>intro _h|intro _h);all_goals ((first|replace _h:=of_decide_eq_true _h|replace _h:=of_decide_eq_false _h|skip);(try simp only [Bool.not_eq_true',Bool.not_eq_false',Bool.not_true,Bool.not_false,decide_eq_true_eq,decide_eq_false_iff_not] at _h);(try (guard_hyp _h : True;clear _h));first|done|contradiction|(conv=>whnf)))|(refine And.intro ?_ ?_;(focus (first|rfl|decide|assumption|omega|decide +kernel|exact ⟨rfl, rfl⟩|exact ⟨rfl, rfl, rfl, rfl⟩|exact fun h => Bool.noConfusion h|exact fun _ => rfl|exact Nat.le_of_ble_eq_true rfl|(simp only [List.length_map, List.length_append, List.length_replicate, List.length_take, List.length_drop, List.length_set, List.length_cons, List.length_nil]; omega)));(conv=>whnf))))
  have hblk : (List.replicate (Int.toNat 64) (0 : Int)).set (Int.toNat 63) 2 = be 64 2 := by decide +kernel
  rw [hblk]
  refine acallI (k_close (modB 0) (secB 0) (be 64 2) (modB_wfd 0) (secB_wfd 0) (be_wfd _ _) (by rw [hml]; unfold LIM; omega)) rfl fun r hr => ?_
  rw [if_neg (by rw [modB_right0]; simp), anc_close] at hr
  subst hr
  ((conv=>whnf);repeat' (first|((first|refine pickT ?_ ?_|refine pickT2 ?_ ?_);(focus (first|assumption|exact dT (by first|assumption|omega)|exact nT (by first|assumption|omega)|exact nbT (by assumption)|rfl));(conv=>whnf))|((first|refine pickF ?_ ?_|refine pickF2 ?_ ?_);(focus (first|assumption|exact dF (by first|assumption|omega)|exact nF (by first|assumption|omega)|exact nbF (by assumption)|rfl));(conv=>whnf))|((first|(first|refine splitB ?_ ?_|refine splitB2 ?_ ?_)<;>intro _h|intro _h);all_goals ((first|replace _h:=of_decide_eq_true _h|replace _h:=of_decide_eq_false _h|skip);(try simp only [Bool.not_eq_true',Bool.not_eq_false',Bool.not_true,Bool.not_false,decide_eq_true_eq,decide_eq_false_iff_not] at _h);(try (guard_hyp _h : True;clear _h));first|done|contradiction|(conv=>whnf)))|(refine And.intro ?_ ?_;(focus (first|rfl|decide|assumption|omega|decide +kernel|exact ⟨rfl, rfl⟩|exact ⟨rfl, rfl, rfl, rfl⟩|exact fun h => Bool.noConfusion h|exact fun _ => rfl|exact Nat.le_of_ble_eq_true rfl|(simp only [List.length_map, List.length_append, List.length_replicate, List.length_take, List.length_drop, List.length_set, List.length_cons, List.length_nil]; omega)));(conv=>whnf))))
  refine acallI (k_open hG (modB 0) n n0 rr hk (be 64 ancX) (be_wfd _ _)) rfl fun r hr => ?_
  rw [anc_open] at hr
  subst hr
  ((conv=>whnf);repeat' (first|((first|refine pickT ?_ ?_|refine pickT2 ?_ ?_);(focus (first|assumption|exact dT (by first|assumption|omega)|exact nT (by first|assumption|omega)|exact nbT (by assumption)|rfl));(conv=>whnf))|((first|refine pickF ?_ ?_|refine pickF2 ?_ ?_);(focus (first|assumption|exact dF (by first|assumption|omega)|exact nF (by first|assumption|omega)|exact nbF (by assumption)|rfl));(conv=>whnf))|((first|(first|refine splitB ?_ ?_|refine splitB2 ?_ ?_)<;>intro _h|intro _h);all_goals ((first|replace _h:=of_decide_eq_true _h|replace _h:=of_decide_eq_false _h|skip);(try simp only [Bool.not_eq_true',Bool.not_eq_false',Bool.not_true,Bool.not_false,decide_eq_true_eq,decide_eq_false_iff_not] at _h);(try (guard_hyp _h : True;clear _h));first|done|contradiction|(conv=>whnf)))|(refine And.intro ?_ ?_;(focus (first|rfl|decide|assumption|omega|decide +kernel|exact ⟨rfl, rfl⟩|exact ⟨rfl, rfl, rfl, rfl⟩|exact fun h => Bool.noConfusion h|exact fun _ => rfl|exact Nat.le_of_ble_eq_true rfl|(simp only [List.length_map, List.length_append, List.length_replicate, List.length_take, List.length_drop, List.length_set, List.length_cons, List.length_nil]; omega)));(conv=>whnf))))
  exact Ends.imm rfl (by simp)
end Go.Proofs.YtniaeiikdgbnfaaDoor.R

/- The key's code, part 15: the law KeyOpens. -/
namespace Go.Proofs.YtniaeiikdgbnfaaDoor.R
open Go Go.RowKit Go.Proofs Go.Proofs.YtniaeiikdgbnfaaDoor.AW
set_option linter.unusedSectionVars false
variable [Globs]
set_option maxRecDepth 100000
set_option linter.unusedSimpArgs false
set_option linter.unusedVariables false
set_option maxHeartbeats 4000000

theorem wfd_known {xs : List Int} (h : (D.ints .u8 xs).known) : wfd xs := fun x hx => by
  have := h.2 x hx
  rw [wrap_in] at this
  simp [loK, hiK] at this
  omega

theorem ev_exp : ev [1, 0, 1] = 65537 := by decide

theorem l_keyOpens (hG : Globs.gl 0 = some EXP) (m sig : List Int) (hm : wfd m) (hs : wfd sig) (hml : m.length ≤ LIM) (hsl : sig.length ≤ LIM) :
    Imm Tryd.prog 3 [.d (byt m), .d (byt sig)] (fun r => r = bool true) := by
  (refine Imm.of_awp told0 [] Tryd.func3 rfl (by decide) (Nat.le_of_ble_eq_true rfl) ?_; intro _w0 _S0 _E0 _B0; ((conv=>whnf);repeat' (first|((first|refine pickT ?_ ?_|refine pickT2 ?_ ?_);(focus (first|assumption|exact dT (by assumption)|exact nT (by assumption)|exact nbT (by assumption)|rfl));(conv=>whnf))|((first|refine pickF ?_ ?_|refine pickF2 ?_ ?_);(focus (first|assumption|exact dF (by assumption)|exact nF (by assumption)|exact nbF (by assumption)|rfl));(conv=>whnf))|((first|(first|refine splitB ?_ ?_|refine splitB2 ?_ ?_)<;>intro _h|intro _h);all_goals ((first|replace _h:=of_decide_eq_true _h|replace _h:=of_decide_eq_false _h|skip);(try simp only [Bool.not_eq_true',Bool.not_eq_false',Bool.not_true,Bool.not_false,decide_eq_true_eq,decide_eq_false_iff_not] at _h);(try (guard_hyp _h : True;clear _h));first|done|contradiction|(conv=>whnf)))|(refine And.intro ?_ ?_;(focus (first|rfl|decide|assumption|omega|decide +kernel|exact ⟨rfl, rfl⟩|exact ⟨rfl, rfl, rfl, rfl⟩|exact fun h => Bool.noConfusion h|exact fun _ => rfl|exact Nat.le_of_ble_eq_true rfl|(simp only [List.length_map, List.length_append, List.length_replicate, List.length_take, List.length_drop, List.length_set, List.length_cons, List.length_nil]; omega)));(conv=>whnf)))))
  refine acallI (k_anchor hG) rfl fun r hr => ?_
  subst hr
  ((conv=>whnf);repeat' (first|((first|refine pickT ?_ ?_|refine pickT2 ?_ ?_);(focus (first|assumption|exact dT (by first|assumption|omega)|exact nT (by first|assumption|omega)|exact nbT (by assumption)|rfl));(conv=>whnf))|((first|refine pickF ?_ ?_|refine pickF2 ?_ ?_);(focus (first|assumption|exact dF (by first|assumption|omega)|exact nF (by first|assumption|omega)|exact nbF (by assumption)|rfl));(conv=>whnf))|((first|(first|refine splitB ?_ ?_|refine splitB2 ?_ ?_)<;>intro _h|intro _h);all_goals ((first|replace _h:=of_decide_eq_true _h|replace _h:=of_decide_eq_false _h|skip);(try simp only [Bool.not_eq_true',Bool.not_eq_false',Bool.not_true,Bool.not_false,decide_eq_true_eq,decide_eq_false_iff_not] at _h);(try (guard_hyp _h : True;clear _h));first|done|contradiction|(conv=>whnf)))|(refine And.intro ?_ ?_;(focus (first|rfl|decide|assumption|omega|decide +kernel|exact ⟨rfl, rfl⟩|exact ⟨rfl, rfl, rfl, rfl⟩|exact fun h => Bool.noConfusion h|exact fun _ => rfl|exact Nat.le_of_ble_eq_true rfl|(simp only [List.length_map, List.length_append, List.length_replicate, List.length_take, List.length_drop, List.length_set, List.length_cons, List.length_nil]; omega)));(conv=>whnf))))
  · exact Ends.imm rfl rfl
  · refine acallI (k_make m hm hml) rfl fun r hr => ?_
    by_cases hn : notMod m = 0
    · rw [if_neg (by simp [hn])] at hr
      obtain ⟨n, n0, rr, rfl, hk⟩ := hr
      obtain ⟨h1, h2, h3, hsz⟩ := hk.pos
      have hl4 := hk.len
      ((conv=>whnf);repeat' (first|((first|refine pickT ?_ ?_|refine pickT2 ?_ ?_);(focus (first|assumption|exact dT (by first|assumption|omega)|exact nT (by first|assumption|omega)|exact nbT (by assumption)|rfl));(conv=>whnf))|((first|refine pickF ?_ ?_|refine pickF2 ?_ ?_);(focus (first|assumption|exact dF (by first|assumption|omega)|exact nF (by first|assumption|omega)|exact nbF (by assumption)|rfl));(conv=>whnf))|((first|(first|refine splitB ?_ ?_|refine splitB2 ?_ ?_)<;>intro _h|intro _h);all_goals ((first|replace _h:=of_decide_eq_true _h|replace _h:=of_decide_eq_false _h|skip);(try simp only [Bool.not_eq_true',Bool.not_eq_false',Bool.not_true,Bool.not_false,decide_eq_true_eq,decide_eq_false_iff_not] at _h);(try (guard_hyp _h : True;clear _h));first|done|contradiction|(conv=>whnf)))|(refine And.intro ?_ ?_;(focus (first|rfl|decide|assumption|omega|decide +kernel|exact ⟨rfl, rfl⟩|exact ⟨rfl, rfl, rfl, rfl⟩|exact fun h => Bool.noConfusion h|exact fun _ => rfl|exact Nat.le_of_ble_eq_true rfl|(simp only [List.length_map, List.length_append, List.length_replicate, List.length_take, List.length_drop, List.length_set, List.length_cons, List.length_nil]; omega)));(conv=>whnf))))
      refine acallI (k_open hG m n n0 rr hk sig hs) rfl fun r hr => ?_
      unfold powV at hr
      rw [ev_exp] at hr
      by_cases hle : sig.length ≠ m.length
      · rw [if_pos hle] at hr
        subst hr
        ((conv=>whnf);repeat' (first|((first|refine pickT ?_ ?_|refine pickT2 ?_ ?_);(focus (first|assumption|exact dT (by first|assumption|omega)|exact nT (by first|assumption|omega)|exact nbT (by assumption)|rfl));(conv=>whnf))|((first|refine pickF ?_ ?_|refine pickF2 ?_ ?_);(focus (first|assumption|exact dF (by first|assumption|omega)|exact nF (by first|assumption|omega)|exact nbF (by assumption)|rfl));(conv=>whnf))|((first|(first|refine splitB ?_ ?_|refine splitB2 ?_ ?_)<;>intro _h|intro _h);all_goals ((first|replace _h:=of_decide_eq_true _h|replace _h:=of_decide_eq_false _h|skip);(try simp only [Bool.not_eq_true',Bool.not_eq_false',Bool.not_true,Bool.not_false,decide_eq_true_eq,decide_eq_false_iff_not] at _h);(try (guard_hyp _h : True;clear _h));first|done|contradiction|(conv=>whnf)))|(refine And.intro ?_ ?_;(focus (first|rfl|decide|assumption|omega|decide +kernel|exact ⟨rfl, rfl⟩|exact ⟨rfl, rfl, rfl, rfl⟩|exact fun h => Bool.noConfusion h|exact fun _ => rfl|exact Nat.le_of_ble_eq_true rfl|(simp only [List.length_map, List.length_append, List.length_replicate, List.length_take, List.length_drop, List.length_set, List.length_cons, List.length_nil]; omega)));(conv=>whnf))))
        refine acallI (k_refOpen m sig hm hs (by omega) (by omega) (by omega) (by omega)) rfl fun r hr => ?_
        rw [if_pos hle] at hr
        subst hr
        ((conv=>whnf);repeat' (first|((first|refine pickT ?_ ?_|refine pickT2 ?_ ?_);(focus (first|assumption|exact dT (by first|assumption|omega)|exact nT (by first|assumption|omega)|exact nbT (by assumption)|rfl));(conv=>whnf))|((first|refine pickF ?_ ?_|refine pickF2 ?_ ?_);(focus (first|assumption|exact dF (by first|assumption|omega)|exact nF (by first|assumption|omega)|exact nbF (by assumption)|rfl));(conv=>whnf))|((first|(first|refine splitB ?_ ?_|refine splitB2 ?_ ?_)<;>intro _h|intro _h);all_goals ((first|replace _h:=of_decide_eq_true _h|replace _h:=of_decide_eq_false _h|skip);(try simp only [Bool.not_eq_true',Bool.not_eq_false',Bool.not_true,Bool.not_false,decide_eq_true_eq,decide_eq_false_iff_not] at _h);(try (guard_hyp _h : True;clear _h));first|done|contradiction|(conv=>whnf)))|(refine And.intro ?_ ?_;(focus (first|rfl|decide|assumption|omega|decide +kernel|exact ⟨rfl, rfl⟩|exact ⟨rfl, rfl, rfl, rfl⟩|exact fun h => Bool.noConfusion h|exact fun _ => rfl|exact Nat.le_of_ble_eq_true rfl|(simp only [List.length_map, List.length_append, List.length_replicate, List.length_take, List.length_drop, List.length_set, List.length_cons, List.length_nil]; omega)));(conv=>whnf))))
        exact Ends.imm rfl (by simp)
      · rw [if_neg hle] at hr
        by_cases hge : bn m ≤ bn sig
        · rw [if_pos hge] at hr
          subst hr
          ((conv=>whnf);repeat' (first|((first|refine pickT ?_ ?_|refine pickT2 ?_ ?_);(focus (first|assumption|exact dT (by first|assumption|omega)|exact nT (by first|assumption|omega)|exact nbT (by assumption)|rfl));(conv=>whnf))|((first|refine pickF ?_ ?_|refine pickF2 ?_ ?_);(focus (first|assumption|exact dF (by first|assumption|omega)|exact nF (by first|assumption|omega)|exact nbF (by assumption)|rfl));(conv=>whnf))|((first|(first|refine splitB ?_ ?_|refine splitB2 ?_ ?_)<;>intro _h|intro _h);all_goals ((first|replace _h:=of_decide_eq_true _h|replace _h:=of_decide_eq_false _h|skip);(try simp only [Bool.not_eq_true',Bool.not_eq_false',Bool.not_true,Bool.not_false,decide_eq_true_eq,decide_eq_false_iff_not] at _h);(try (guard_hyp _h : True;clear _h));first|done|contradiction|(conv=>whnf)))|(refine And.intro ?_ ?_;(focus (first|rfl|decide|assumption|omega|decide +kernel|exact ⟨rfl, rfl⟩|exact ⟨rfl, rfl, rfl, rfl⟩|exact fun h => Bool.noConfusion h|exact fun _ => rfl|exact Nat.le_of_ble_eq_true rfl|(simp only [List.length_map, List.length_append, List.length_replicate, List.length_take, List.length_drop, List.length_set, List.length_cons, List.length_nil]; omega)));(conv=>whnf))))
          refine acallI (k_refOpen m sig hm hs (by omega) (by omega) (by omega) (by omega)) rfl fun r hr => ?_
          rw [if_neg hle, if_pos hge] at hr
          subst hr
          ((conv=>whnf);repeat' (first|((first|refine pickT ?_ ?_|refine pickT2 ?_ ?_);(focus (first|assumption|exact dT (by first|assumption|omega)|exact nT (by first|assumption|omega)|exact nbT (by assumption)|rfl));(conv=>whnf))|((first|refine pickF ?_ ?_|refine pickF2 ?_ ?_);(focus (first|assumption|exact dF (by first|assumption|omega)|exact nF (by first|assumption|omega)|exact nbF (by assumption)|rfl));(conv=>whnf))|((first|(first|refine splitB ?_ ?_|refine splitB2 ?_ ?_)<;>intro _h|intro _h);all_goals ((first|replace _h:=of_decide_eq_true _h|replace _h:=of_decide_eq_false _h|skip);(try simp only [Bool.not_eq_true',Bool.not_eq_false',Bool.not_true,Bool.not_false,decide_eq_true_eq,decide_eq_false_iff_not] at _h);(try (guard_hyp _h : True;clear _h));first|done|contradiction|(conv=>whnf)))|(refine And.intro ?_ ?_;(focus (first|rfl|decide|assumption|omega|decide +kernel|exact ⟨rfl, rfl⟩|exact ⟨rfl, rfl, rfl, rfl⟩|exact fun h => Bool.noConfusion h|exact fun _ => rfl|exact Nat.le_of_ble_eq_true rfl|(simp only [List.length_map, List.length_append, List.length_replicate, List.length_take, List.length_drop, List.length_set, List.length_cons, List.length_nil]; omega)));(conv=>whnf))))
          exact Ends.imm rfl (by simp)
        · rw [if_neg hge, if_neg (by decide)] at hr
          subst hr
          ((conv=>whnf);repeat' (first|((first|refine pickT ?_ ?_|refine pickT2 ?_ ?_);(focus (first|assumption|exact dT (by first|assumption|omega)|exact nT (by first|assumption|omega)|exact nbT (by assumption)|rfl));(conv=>whnf))|((first|refine pickF ?_ ?_|refine pickF2 ?_ ?_);(focus (first|assumption|exact dF (by first|assumption|omega)|exact nF (by first|assumption|omega)|exact nbF (by assumption)|rfl));(conv=>whnf))|((first|(first|refine splitB ?_ ?_|refine splitB2 ?_ ?_)<;>intro _h|intro _h);all_goals ((first|replace _h:=of_decide_eq_true _h|replace _h:=of_decide_eq_false _h|skip);(try simp only [Bool.not_eq_true',Bool.not_eq_false',Bool.not_true,Bool.not_false,decide_eq_true_eq,decide_eq_false_iff_not] at _h);(try (guard_hyp _h : True;clear _h));first|done|contradiction|(conv=>whnf)))|(refine And.intro ?_ ?_;(focus (first|rfl|decide|assumption|omega|decide +kernel|exact ⟨rfl, rfl⟩|exact ⟨rfl, rfl, rfl, rfl⟩|exact fun h => Bool.noConfusion h|exact fun _ => rfl|exact Nat.le_of_ble_eq_true rfl|(simp only [List.length_map, List.length_append, List.length_replicate, List.length_take, List.length_drop, List.length_set, List.length_cons, List.length_nil]; omega)));(conv=>whnf))))
          refine acallI (k_refOpen m sig hm hs (by omega) (by omega) (by omega) (by omega)) rfl fun r hr => ?_
          rw [if_neg hle, if_neg hge] at hr
          subst hr
          ((conv=>whnf);repeat' (first|((first|refine pickT ?_ ?_|refine pickT2 ?_ ?_);(focus (first|assumption|exact dT (by first|assumption|omega)|exact nT (by first|assumption|omega)|exact nbT (by assumption)|rfl));(conv=>whnf))|((first|refine pickF ?_ ?_|refine pickF2 ?_ ?_);(focus (first|assumption|exact dF (by first|assumption|omega)|exact nF (by first|assumption|omega)|exact nbF (by assumption)|rfl));(conv=>whnf))|((first|(first|refine splitB ?_ ?_|refine splitB2 ?_ ?_)<;>intro _h|intro _h);all_goals ((first|replace _h:=of_decide_eq_true _h|replace _h:=of_decide_eq_false _h|skip);(try simp only [Bool.not_eq_true',Bool.not_eq_false',Bool.not_true,Bool.not_false,decide_eq_true_eq,decide_eq_false_iff_not] at _h);(try (guard_hyp _h : True;clear _h));first|done|contradiction|(conv=>whnf)))|(refine And.intro ?_ ?_;(focus (first|rfl|decide|assumption|omega|decide +kernel|exact ⟨rfl, rfl⟩|exact ⟨rfl, rfl, rfl, rfl⟩|exact fun h => Bool.noConfusion h|exact fun _ => rfl|exact Nat.le_of_ble_eq_true rfl|(simp only [List.length_map, List.length_append, List.length_replicate, List.length_take, List.length_drop, List.length_set, List.length_cons, List.length_nil]; omega)));(conv=>whnf))))
          exact Ends.imm rfl (by simp)
    · rw [if_pos (by simp [hn])] at hr
      subst hr
      ((conv=>whnf);repeat' (first|((first|refine pickT ?_ ?_|refine pickT2 ?_ ?_);(focus (first|assumption|exact dT (by first|assumption|omega)|exact nT (by first|assumption|omega)|exact nbT (by assumption)|rfl));(conv=>whnf))|((first|refine pickF ?_ ?_|refine pickF2 ?_ ?_);(focus (first|assumption|exact dF (by first|assumption|omega)|exact nF (by first|assumption|omega)|exact nbF (by assumption)|rfl));(conv=>whnf))|((first|(first|refine splitB ?_ ?_|refine splitB2 ?_ ?_)<;>intro _h|intro _h);all_goals ((first|replace _h:=of_decide_eq_true _h|replace _h:=of_decide_eq_false _h|skip);(try simp only [Bool.not_eq_true',Bool.not_eq_false',Bool.not_true,Bool.not_false,decide_eq_true_eq,decide_eq_false_iff_not] at _h);(try (guard_hyp _h : True;clear _h));first|done|contradiction|(conv=>whnf)))|(refine And.intro ?_ ?_;(focus (first|rfl|decide|assumption|omega|decide +kernel|exact ⟨rfl, rfl⟩|exact ⟨rfl, rfl, rfl, rfl⟩|exact fun h => Bool.noConfusion h|exact fun _ => rfl|exact Nat.le_of_ble_eq_true rfl|(simp only [List.length_map, List.length_append, List.length_replicate, List.length_take, List.length_drop, List.length_set, List.length_cons, List.length_nil]; omega)));(conv=>whnf))))
      exact Ends.imm rfl (by simp)
  · exact Ends.imm rfl rfl
end Go.Proofs.YtniaeiikdgbnfaaDoor.R
