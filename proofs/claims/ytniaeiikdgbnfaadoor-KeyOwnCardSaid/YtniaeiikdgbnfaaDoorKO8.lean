/- Parts R5, R6, R7, M3, R8, R9, R10, R11, R12. No condition of its own. -/
import Derived.Test.YtniaeiikdgbnfaaDoorKO7
import Derived.Test.YtniaeiikdgbnfaaDoorKO5

namespace Go.Proofs.YtniaeiikdgbnfaaDoor.R
open Go Go.RowKit Go.Proofs Go.Proofs.YtniaeiikdgbnfaaDoor.AW
set_option linter.unusedSectionVars false
variable [Globs]
set_option maxRecDepth 100000
set_option linter.unusedSimpArgs false
set_option linter.unusedVariables false
set_option maxHeartbeats 4000000

/-- A row's product, a limb further. -/
theorem row_limb {a b d x : Int} (p : Int) {y t c : Int} (h : a + p * c = b + x * d) :
    a + p * ((x * y + t + c) % 4294967296) + p * 4294967296 * ((x * y + t + c) / 4294967296) = b + p * t + x * (d + p * y) := by
  have e : (x * y + t + c) % 4294967296 + 4294967296 * ((x * y + t + c) / 4294967296) = x * y + t + c := by omega
  have : p * ((x * y + t + c) % 4294967296) + p * 4294967296 * ((x * y + t + c) / 4294967296) = p * (x * y + t + c) := by rw [Int.mul_assoc, ← Int.mul_add, e]
  rw [Int.mul_add, Int.mul_add] at this
  have e2 : x * (d + p * y) = x * d + p * (x * y) := by rw [Int.mul_add, ← Int.mul_assoc, ← Int.mul_assoc, Int.mul_comm x p]
  omega

theorem set_row {us ts : List Int} {i : Nat} (h : us.length = i) (hi : i < ts.length) {v : Int} : (us ++ ts.drop i).set i v = us ++ [v] ++ ts.drop (i + 1) := by
  have e : (ts.drop i).set 0 v = v :: ts.drop (i + 1) := by rw [List.drop_eq_getElem_cons hi]; rfl
  rw [List.set_append_right _ _ (by omega), h, Nat.sub_self, e]
  simp
theorem wrap_u32 {n : Int} (h1 : 0 ≤ n) (h2 : n ≤ 4294967295) : IntKind.u32.wrap n = n := wrap_in.2 ⟨h1, h2⟩

theorem wrap_mod (n : Int) : IntKind.u32.wrap n = n % 4294967296 := by simp [IntKind.wrap, IntKind.bits, IntKind.signed]

/-- What a row's product leaves. -/
def rowS (ts ys us : List Int) (x c : Int) : Prop :=
  us.length = ys.length ∧ wfl us ∧ (0 ≤ c ∧ c < 4294967296) ∧ val us + pw ys.length * c = val (ts.take ys.length) + x * val ys

theorem f44 (ts ys : List Int) (x : Int) (ht : wfl ts) (hy : wfl ys) (hx : 0 ≤ x ∧ x < 4294967296) (hl : ys.length ≤ ts.length) (hs : ts.length ≤ 1000000) :
    CSpec Tryd.prog 92 [.own 0, u32 x, .d (nat ys)] [(0, .row .u32 79 ts)] 1 (fun st nx r => ∃ us c, st = [(0, .row .u32 79 (us ++ ts.drop ys.length))] ∧ nx = 1 ∧ r = u32 c ∧ rowS ts ys us x c) := by
  refine CSpec.ends (CSpec.of_awp told0 [] Tryd.func92 rfl (by decide) (Nat.le_of_ble_eq_true rfl) fun _w0 _S0 _E0 _B0 => ?_)
  ((conv => whnf); repeat' (first | (refine And.intro ?_ ?_; (focus (first | rfl | decide | assumption | omega | decide +kernel | exact ⟨rfl, rfl⟩ | exact ⟨rfl, rfl, rfl, rfl⟩ | exact fun h => Bool.noConfusion h | exact fun _ => rfl | exact Nat.le_of_ble_eq_true rfl | (simp only [List.length_map, List.length_append, List.length_replicate, List.length_take, List.length_drop, List.length_set, List.length_cons, List.length_nil]; omega))); (conv => whnf)) | ((refine And.intro ?_ ?_ <;> intro _h); all_goals ((first | replace _h := of_decide_eq_true _h | replace _h := of_decide_eq_false _h | skip); (try simp only [Bool.not_eq_true', Bool.not_eq_false', Bool.not_true, Bool.not_false, decide_eq_true_eq, decide_eq_false_iff_not] at _h); (try (guard_hyp _h : True; clear _h)); first | done | contradiction | exact absurd ((Eq.symm _h).trans (show _ = true by assumption)) (by decide) | exact absurd ((Eq.symm _h).trans (show _ = false by assumption)) (by decide) | (conv => whnf))) | (intro _h; ((first | replace _h := of_decide_eq_true _h | replace _h := of_decide_eq_false _h | skip); (try simp only [Bool.not_eq_true', Bool.not_eq_false', Bool.not_true, Bool.not_false, decide_eq_true_eq, decide_eq_false_iff_not] at _h); (try (guard_hyp _h : True; clear _h)); first | done | contradiction | exact absurd ((Eq.symm _h).trans (show _ = true by assumption)) (by decide) | exact absurd ((Eq.symm _h).trans (show _ = false by assumption)) (by decide) | (conv => whnf)))))
  refine aloop (T := told0) (ι := Nat × List Int × Int) (fun p => [(0, .own 0), (1, u32 x), (13, .d (nat ys)), (14, i64 ys.length), (15, i64 p.1), (7, u32 p.2.2)]) (fun p => [(0, .row .u32 79 (p.2.1 ++ ts.drop p.1))]) 52 1
    (fun p => ys.length - p.1) (fun p => p.1 ≤ ys.length ∧ p.2.1.length = p.1 ∧ wfl p.2.1 ∧ (0 ≤ p.2.2 ∧ p.2.2 < 4294967296) ∧ val p.2.1 + pw p.1 * p.2.2 = val (ts.take p.1) + x * val (ys.take p.1))
    ⟨(0, [], 0), [0], rfl, ⟨by omega, rfl, by simp [wfl], by decide, by simp [val]⟩, by (refine ⟨rfl, rfl, ?_, ?_⟩ <;> repeat' (first | exact True.intro | rfl | decide | (refine And.intro ?_ ?_)))⟩ ?_
  intro ⟨i, us, c⟩ ⟨hi, hul, hu, hc, hv⟩
  dsimp only at hi hul hu hc hv ⊢
  ((conv => whnf); repeat' (first | (refine And.intro ?_ ?_; (focus (first | rfl | decide | assumption | omega | decide +kernel | exact ⟨rfl, rfl⟩ | exact ⟨rfl, rfl, rfl, rfl⟩ | exact fun h => Bool.noConfusion h | exact fun _ => rfl | exact Nat.le_of_ble_eq_true rfl | (simp only [List.length_map, List.length_append, List.length_replicate, List.length_take, List.length_drop, List.length_set, List.length_cons, List.length_nil]; omega))); (conv => whnf)) | ((refine And.intro ?_ ?_ <;> intro _h); all_goals ((first | replace _h := of_decide_eq_true _h | replace _h := of_decide_eq_false _h | skip); (try simp only [Bool.not_eq_true', Bool.not_eq_false', Bool.not_true, Bool.not_false, decide_eq_true_eq, decide_eq_false_iff_not] at _h); (try (guard_hyp _h : True; clear _h)); first | done | contradiction | exact absurd ((Eq.symm _h).trans (show _ = true by assumption)) (by decide) | exact absurd ((Eq.symm _h).trans (show _ = false by assumption)) (by decide) | (conv => whnf))) | (intro _h; ((first | replace _h := of_decide_eq_true _h | replace _h := of_decide_eq_false _h | skip); (try simp only [Bool.not_eq_true', Bool.not_eq_false', Bool.not_true, Bool.not_false, decide_eq_true_eq, decide_eq_false_iff_not] at _h); (try (guard_hyp _h : True; clear _h)); first | done | contradiction | exact absurd ((Eq.symm _h).trans (show _ = true by assumption)) (by decide) | exact absurd ((Eq.symm _h).trans (show _ = false by assumption)) (by decide) | (conv => whnf)))))
  · have hyi := hy.get i
    have hti := ht.get i
    have et : (us ++ ts.drop i).getD (i : Int).toNat 0 = ts.getD i 0 := by
      rw [Int.toNat_natCast, List.getD_eq_getElem?_getD, List.getElem?_append_right (by omega), List.getElem?_drop, ← List.getD_eq_getElem?_getD, hul]
      congr 1; omega
    generalize hy0 : ys.getD i 0 = y at *
    generalize ht0 : ts.getD i 0 = t at *
    have p0 : 0 ≤ x * y := Int.mul_nonneg hx.1 hyi.1
    have p1 : x * y ≤ 4294967295 * 4294967295 := Int.mul_le_mul (by omega) (by omega) hyi.1 (by omega)
    refine acallI (f52 x y hx hyi) (by rw [← hy0]; rfl) fun r hr => ?_
    subst hr
    ((conv => whnf); repeat' (first | (refine And.intro ?_ ?_; (focus (first | rfl | decide | assumption | omega | decide +kernel | exact ⟨rfl, rfl⟩ | exact ⟨rfl, rfl, rfl, rfl⟩ | exact fun h => Bool.noConfusion h | exact fun _ => rfl | exact Nat.le_of_ble_eq_true rfl | (simp only [List.length_map, List.length_append, List.length_replicate, List.length_take, List.length_drop, List.length_set, List.length_cons, List.length_nil]; omega))); (conv => whnf)) | ((refine And.intro ?_ ?_ <;> intro _h); all_goals ((first | replace _h := of_decide_eq_true _h | replace _h := of_decide_eq_false _h | skip); (try simp only [Bool.not_eq_true', Bool.not_eq_false', Bool.not_true, Bool.not_false, decide_eq_true_eq, decide_eq_false_iff_not] at _h); (try (guard_hyp _h : True; clear _h)); first | done | contradiction | exact absurd ((Eq.symm _h).trans (show _ = true by assumption)) (by decide) | exact absurd ((Eq.symm _h).trans (show _ = false by assumption)) (by decide) | (conv => whnf))) | (intro _h; ((first | replace _h := of_decide_eq_true _h | replace _h := of_decide_eq_false _h | skip); (try simp only [Bool.not_eq_true', Bool.not_eq_false', Bool.not_true, Bool.not_false, decide_eq_true_eq, decide_eq_false_iff_not] at _h); (try (guard_hyp _h : True; clear _h)); first | done | contradiction | exact absurd ((Eq.symm _h).trans (show _ = true by assumption)) (by decide) | exact absurd ((Eq.symm _h).trans (show _ = false by assumption)) (by decide) | (conv => whnf)))))
    refine acallI (f45 (x * y % 4294967296) t 0 (by omega) hti (by omega)) (by rw [← et]; rfl) fun r hr => ?_
    subst hr
    ((conv => whnf); repeat' (first | (refine And.intro ?_ ?_; (focus (first | rfl | decide | assumption | omega | decide +kernel | exact ⟨rfl, rfl⟩ | exact ⟨rfl, rfl, rfl, rfl⟩ | exact fun h => Bool.noConfusion h | exact fun _ => rfl | exact Nat.le_of_ble_eq_true rfl | (simp only [List.length_map, List.length_append, List.length_replicate, List.length_take, List.length_drop, List.length_set, List.length_cons, List.length_nil]; omega))); (conv => whnf)) | ((refine And.intro ?_ ?_ <;> intro _h); all_goals ((first | replace _h := of_decide_eq_true _h | replace _h := of_decide_eq_false _h | skip); (try simp only [Bool.not_eq_true', Bool.not_eq_false', Bool.not_true, Bool.not_false, decide_eq_true_eq, decide_eq_false_iff_not] at _h); (try (guard_hyp _h : True; clear _h)); first | done | contradiction | exact absurd ((Eq.symm _h).trans (show _ = true by assumption)) (by decide) | exact absurd ((Eq.symm _h).trans (show _ = false by assumption)) (by decide) | (conv => whnf))) | (intro _h; ((first | replace _h := of_decide_eq_true _h | replace _h := of_decide_eq_false _h | skip); (try simp only [Bool.not_eq_true', Bool.not_eq_false', Bool.not_true, Bool.not_false, decide_eq_true_eq, decide_eq_false_iff_not] at _h); (try (guard_hyp _h : True; clear _h)); first | done | contradiction | exact absurd ((Eq.symm _h).trans (show _ = true by assumption)) (by decide) | exact absurd ((Eq.symm _h).trans (show _ = false by assumption)) (by decide) | (conv => whnf)))))
    refine acallI (f45 _ c 0 (by omega) hc (by omega)) rfl fun r hr => ?_
    subst hr
    ((conv => whnf); repeat' (first | (refine And.intro ?_ ?_; (focus (first | rfl | decide | assumption | omega | decide +kernel | exact ⟨rfl, rfl⟩ | exact ⟨rfl, rfl, rfl, rfl⟩ | exact fun h => Bool.noConfusion h | exact fun _ => rfl | exact Nat.le_of_ble_eq_true rfl | (simp only [List.length_map, List.length_append, List.length_replicate, List.length_take, List.length_drop, List.length_set, List.length_cons, List.length_nil]; omega))); (conv => whnf)) | ((refine And.intro ?_ ?_ <;> intro _h); all_goals ((first | replace _h := of_decide_eq_true _h | replace _h := of_decide_eq_false _h | skip); (try simp only [Bool.not_eq_true', Bool.not_eq_false', Bool.not_true, Bool.not_false, decide_eq_true_eq, decide_eq_false_iff_not] at _h); (try (guard_hyp _h : True; clear _h)); first | done | contradiction | exact absurd ((Eq.symm _h).trans (show _ = true by assumption)) (by decide) | exact absurd ((Eq.symm _h).trans (show _ = false by assumption)) (by decide) | (conv => whnf))) | (intro _h; ((first | replace _h := of_decide_eq_true _h | replace _h := of_decide_eq_false _h | skip); (try simp only [Bool.not_eq_true', Bool.not_eq_false', Bool.not_true, Bool.not_false, decide_eq_true_eq, decide_eq_false_iff_not] at _h); (try (guard_hyp _h : True; clear _h)); first | done | contradiction | exact absurd ((Eq.symm _h).trans (show _ = true by assumption)) (by decide) | exact absurd ((Eq.symm _h).trans (show _ = false by assumption)) (by decide) | (conv => whnf)))))
    generalize hp : x * y = p at *
    have e1 : (((p % 4294967296 + t + 0) % 4294967296 + c + 0) % 4294967296) = (p + t + c) % 4294967296 := by omega
    have e2 : IntKind.u32.wrap (IntKind.u32.wrap (p / 4294967296 + (p % 4294967296 + t + 0) / 4294967296) + ((p % 4294967296 + t + 0) % 4294967296 + c + 0) / 4294967296) = (p + t + c) / 4294967296 := by
      rw [wrap_u32 (n := p / 4294967296 + (p % 4294967296 + t + 0) / 4294967296) (by omega) (by omega), wrap_u32 (by omega) (by omega)]; omega
    refine ⟨(i + 1, us ++ [(p + t + c) % 4294967296], (p + t + c) / 4294967296), [0], by dsimp only; omega, ⟨by dsimp only; omega, by simp [hul], ?_, by dsimp only; omega, ?_⟩, rfl, ?_⟩
    · exact hu.append (wfl.one (by omega))
    · dsimp only
      rw [val_snoc, hul, take_snoc (by omega), take_snoc (by omega), val_snoc, val_snoc, List.length_take, List.length_take, Nat.min_eq_left (by omega), Nat.min_eq_left (by omega), pw_succ, hy0, ht0, ← hp]
      exact row_limb (pw i) hv
    · (refine ⟨rfl, rfl, ?_, ?_⟩ <;> repeat' (first | exact True.intro | rfl | decide | (refine And.intro ?_ ?_)))
      · refine di ?_
        rw [wrap_i64 (by omega) (by omega)]; rfl
      · exact di e2
      · show some (Ob.row .u32 79 ((us ++ ts.drop i).set (i : Int).toNat _)) = some (Ob.row .u32 79 _)
        rw [e1, Int.toNat_natCast, set_row hul (by omega)]
  · have hie : i = ys.length := by omega
    subst hie
    refine ⟨[0], [(0, .row .u32 79 (us ++ ts.drop ys.length))], u32 c, ⟨rfl, ⟨⟨by decide, rfl⟩, trivial⟩, rfl⟩, us, c, rfl, rfl, rfl, hul, hu, hc, ?_⟩
    rw [hv, List.take_of_length_le (Nat.le_refl ys.length)]

theorem mono {P : Program} {f : FuncId} {args : List AVal} {st : List (Nat × Ob)} {m : Nat} {K K' : List (Nat × Ob) → Nat → AVal → Prop} (h : CSpec P f args st m K) (hk : ∀ st nx r, K st nx r → K' st nx r) : CSpec P f args st m K' :=
  ⟨h.1, fun w β S vs h1 h2 h3 => Calls.mono (h.2 w β S vs h1 h2 h3) fun _ _ ⟨v, st', nx', r, β', S', a1, a2, a3, a4, a5, a6, a7, a8⟩ => ⟨v, st', nx', r, β', S', a1, a2, a3, a4, a5, a6, a7, hk _ _ _ a8⟩⟩

theorem f44' (l t ys : List Int) (x : Int) (hl : wfl l) (ht : wfl t) (hy : wfl ys) (hx : 0 ≤ x ∧ x < 4294967296) (hll : l.length = ys.length) (hs : l.length + t.length ≤ 1000000) :
    CSpec Tryd.prog 92 [.own 0, u32 x, .d (nat ys)] [(0, .row .u32 79 (l ++ t))] 1 (fun st nx r => ∃ us c, st = [(0, .row .u32 79 (us ++ t))] ∧ nx = 1 ∧ r = u32 c ∧ us.length = ys.length ∧ wfl us ∧ (0 ≤ c ∧ c < 4294967296) ∧ val us + pw ys.length * c = val l + x * val ys) := by
  refine mono (f44 (l ++ t) ys x (hl.append ht) hy hx (by simp; omega) (by simp; omega)) fun st nx r ⟨us, c, h1, h2, h3, h4, h5, h6, h7⟩ => ⟨us, c, ?_, h2, h3, h4, h5, h6, ?_⟩
  · rw [h1, ← hll, List.drop_left]
  · rw [h7, ← hll, List.take_left]

theorem get_mid {us : List Int} {w : Nat} (h : us.length = w) (p : Int) (t : List Int) : (us ++ p :: t).getD (w : Int).toNat 0 = p := by
  rw [Int.toNat_natCast, List.getD_eq_getElem?_getD, List.getElem?_append_right (by omega), h]
  simp
theorem get_mid1 {us : List Int} {w : Nat} (h : us.length = w) (p q : Int) (t : List Int) : (us ++ p :: q :: t).getD ((w + 1 : Nat) : Int).toNat 0 = q := by
  rw [Int.toNat_natCast, List.getD_eq_getElem?_getD, List.getElem?_append_right (by omega), h, Nat.add_sub_cancel_left]
  simp
theorem set_mid {us : List Int} {w : Nat} (h : us.length = w) (p v : Int) (t : List Int) : (us ++ p :: t).set (w : Int).toNat v = us ++ v :: t := by
  rw [Int.toNat_natCast, List.set_append_right _ _ (by omega), h, Nat.sub_self]; rfl
theorem set_mid1 {us : List Int} {w : Nat} (h : us.length = w) (p q v : Int) (t : List Int) : (us ++ p :: q :: t).set ((w + 1 : Nat) : Int).toNat v = us ++ p :: v :: t := by
  rw [Int.toNat_natCast, List.set_append_right _ _ (by omega), h, Nat.add_sub_cancel_left]; rfl

def told34 : AW.Told := ⟨fun g => g == 92, fun r i => if r == 16 && i == 10 then [99] else [], fun r => if r == 10 then .take 0 (.take 1 (.take 2 (.take 3 (.take 4 (.take 5 (.take 6 (.take 7 (.take 8 (.take 9 (.take 10 (.take 11 (.take 12 (.one 13 (.take 14 .done))))))))))))))
  else if r == 16 then .take 0 (.take 1 (.take 2 (.take 3 (.take 5 (.take 6 (.take 7 (.take 8 (.take 9 (.one 4 (.one 10 (.take 11 .done))))))))))) else .done⟩

theorem shift {us3 : List Int} {w : Nat} (u p q : Int) (hw : us3.length + 1 = w) :
    (((((u :: us3) ++ [p, q]).drop 1).take (((u :: us3) ++ [p, q]).length - 1)).take ((u :: us3) ++ [p, q]).length ++ ((u :: us3) ++ [p, q]).drop ((((u :: us3) ++ [p, q]).drop 1).take (((u :: us3) ++ [p, q]).length - 1)).length).set (w + 1) 0 =
      us3 ++ [p] ++ [q, 0] := by
  have e1 : (((u :: us3) ++ [p, q]).drop 1).take (((u :: us3) ++ [p, q]).length - 1) = us3 ++ [p, q] := by
    have : ((u :: us3) ++ [p, q]).drop 1 = us3 ++ [p, q] := rfl
    rw [this, List.take_of_length_le (by simp)]
  rw [e1, List.take_of_length_le (by simp)]
  have e2 : ((u :: us3) ++ [p, q]).drop (us3 ++ [p, q]).length = [q] := by
    have : (u :: us3) ++ [p, q] = (u :: us3 ++ [p]) ++ [q] := by simp
    rw [this]
    exact List.drop_left' (by simp)
  rw [e2, List.set_append_right _ _ (by simp; omega)]
  have : w + 1 - (us3 ++ [p, q]).length = 0 := by simp; omega
  rw [this]
  simp

theorem val_zero : ∀ k, val (List.replicate k 0) = 0
  | 0 => rfl
  | k + 1 => by simp [List.replicate_succ, val, val_zero k]

/-- The code's short product of elements. -/
theorem f34 (n : List Int) (n0 : Int) (rr a b : List Int) (hn : wfl n) (hn0 : 0 ≤ n0 ∧ n0 < 4294967296) (ha : wfl a) (hb : wfl b) (hbn : bad n = false) (hla : a.length = n.length) (hlb : b.length = n.length) (hinv : (n.getD 0 0 * n0 + 1) % 4294967296 = 0) (hbv : val b < val n) :
    Imm Tryd.prog 60 [.d (ringD n n0 rr), .d (nat a), .d (nat b)] (fun r => ∃ z, r = .d (nat z) ∧ z.length = n.length ∧ wfl z ∧ val z < val n ∧ ∃ Q, pw n.length * val z = val a * val b + Q * val n) := by
  have hbl := hbn
  unfold bad at hbl
  simp at hbl
  have hw : IntKind.i64.wrap ((n.length : Int) + 2) = ((n.length + 2 : Nat) : Int) := by rw [wrap_i64 (by omega) (by omega)]; rfl
  have hw1 : IntKind.i64.wrap ((n.length : Int) + 1) = ((n.length + 1 : Nat) : Int) := by rw [wrap_i64 (by omega) (by omega)]; rfl
  (refine Imm.of_awp told34 [] Tryd.func60 rfl (by decide) (Nat.le_of_ble_eq_true rfl) ?_; intro _w0 _S0 _E0 _B0; ((conv => whnf); repeat' (first | (refine And.intro ?_ ?_; (focus (first | rfl | decide | assumption | omega | decide +kernel | exact ⟨rfl, rfl⟩ | exact ⟨rfl, rfl, rfl, rfl⟩ | exact fun h => Bool.noConfusion h | exact fun _ => rfl | exact Nat.le_of_ble_eq_true rfl | (simp only [List.length_map, List.length_append, List.length_replicate, List.length_take, List.length_drop, List.length_set, List.length_cons, List.length_nil]; omega))); (conv => whnf)) | ((refine And.intro ?_ ?_ <;> intro _h); all_goals ((first | replace _h := of_decide_eq_true _h | replace _h := of_decide_eq_false _h | skip); (try simp only [Bool.not_eq_true', Bool.not_eq_false', Bool.not_true, Bool.not_false, decide_eq_true_eq, decide_eq_false_iff_not] at _h); (try (guard_hyp _h : True; clear _h)); first | done | contradiction | exact absurd ((Eq.symm _h).trans (show _ = true by assumption)) (by decide) | exact absurd ((Eq.symm _h).trans (show _ = false by assumption)) (by decide) | (conv => whnf))) | (intro _h; ((first | replace _h := of_decide_eq_true _h | replace _h := of_decide_eq_false _h | skip); (try simp only [Bool.not_eq_true', Bool.not_eq_false', Bool.not_true, Bool.not_false, decide_eq_true_eq, decide_eq_false_iff_not] at _h); (try (guard_hyp _h : True; clear _h)); first | done | contradiction | exact absurd ((Eq.symm _h).trans (show _ = true by assumption)) (by decide) | exact absurd ((Eq.symm _h).trans (show _ = false by assumption)) (by decide) | (conv => whnf))))))
  rw [hw]
  ((conv => whnf); repeat' (first | (refine And.intro ?_ ?_; (focus (first | rfl | decide | assumption | omega | decide +kernel | exact ⟨rfl, rfl⟩ | exact ⟨rfl, rfl, rfl, rfl⟩ | exact fun h => Bool.noConfusion h | exact fun _ => rfl | exact Nat.le_of_ble_eq_true rfl | (simp only [List.length_map, List.length_append, List.length_replicate, List.length_take, List.length_drop, List.length_set, List.length_cons, List.length_nil]; omega))); (conv => whnf)) | ((refine And.intro ?_ ?_ <;> intro _h); all_goals ((first | replace _h := of_decide_eq_true _h | replace _h := of_decide_eq_false _h | skip); (try simp only [Bool.not_eq_true', Bool.not_eq_false', Bool.not_true, Bool.not_false, decide_eq_true_eq, decide_eq_false_iff_not] at _h); (try (guard_hyp _h : True; clear _h)); first | done | contradiction | exact absurd ((Eq.symm _h).trans (show _ = true by assumption)) (by decide) | exact absurd ((Eq.symm _h).trans (show _ = false by assumption)) (by decide) | (conv => whnf))) | (intro _h; ((first | replace _h := of_decide_eq_true _h | replace _h := of_decide_eq_false _h | skip); (try simp only [Bool.not_eq_true', Bool.not_eq_false', Bool.not_true, Bool.not_false, decide_eq_true_eq, decide_eq_false_iff_not] at _h); (try (guard_hyp _h : True; clear _h)); first | done | contradiction | exact absurd ((Eq.symm _h).trans (show _ = true by assumption)) (by decide) | exact absurd ((Eq.symm _h).trans (show _ = false by assumption)) (by decide) | (conv => whnf)))))
  refine aloop (T := told34) (ι := Nat × List Int × Int × Int) (fun x => [(0, .d (ringD n n0 rr)), (2, .d (nat b)), (7, i64 n.length), (8, .own 0), (22, .d (nat a)), (23, i64 a.length), (24, i64 x.1)]) (fun x => [(0, .row .u32 79 (x.2.1 ++ [x.2.2.1, 0]))]) 106 1
    (fun x => a.length - x.1) (fun x => x.1 ≤ a.length ∧ x.2.1.length = n.length ∧ wfl x.2.1 ∧ (0 ≤ x.2.2.1 ∧ x.2.2.1 < 4294967296) ∧ (0 ≤ x.2.2.2 ∧ x.2.2.2 < pw x.1) ∧ pw x.1 * (val x.2.1 + pw n.length * x.2.2.1) = val (a.take x.1) * val b + x.2.2.2 * val n)
    ⟨(0, List.replicate n.length 0, 0, 0), [0], rfl, ⟨by omega, by simp, ?_, by dsimp only; omega, ⟨by dsimp only; omega, pw_pos 0⟩, ?_⟩, ?_⟩ ?_
  · intro y hy; simp at hy; omega
  · simp [val, val_zero]
  · (refine ⟨rfl, rfl, ?_, ?_⟩ <;> repeat' (first | exact True.intro | rfl | decide | (refine And.intro ?_ ?_)))
    show some (Ob.row .u32 79 (List.replicate ((n.length + 2 : Nat) : Int).toNat 0)) = some (.row .u32 79 (List.replicate n.length 0 ++ [0, 0]))
    rw [Int.toNat_natCast, show List.replicate (n.length + 2) (0 : Int) = List.replicate n.length 0 ++ List.replicate 2 0 by rw [List.replicate_append_replicate]]; rfl
  intro ⟨i, l, p, Q⟩ ⟨hi, hll, hl, hp, hQ, hv⟩
  dsimp only at hi hll hl hp hQ hv ⊢
  have hai := ha.get i
  ((conv => whnf); repeat' (first | (refine And.intro ?_ ?_; (focus (first | rfl | decide | assumption | omega | decide +kernel | exact ⟨rfl, rfl⟩ | exact ⟨rfl, rfl, rfl, rfl⟩ | exact fun h => Bool.noConfusion h | exact fun _ => rfl | exact Nat.le_of_ble_eq_true rfl | (simp only [List.length_map, List.length_append, List.length_replicate, List.length_take, List.length_drop, List.length_set, List.length_cons, List.length_nil]; omega))); (conv => whnf)) | ((refine And.intro ?_ ?_ <;> intro _h); all_goals ((first | replace _h := of_decide_eq_true _h | replace _h := of_decide_eq_false _h | skip); (try simp only [Bool.not_eq_true', Bool.not_eq_false', Bool.not_true, Bool.not_false, decide_eq_true_eq, decide_eq_false_iff_not] at _h); (try (guard_hyp _h : True; clear _h)); first | done | contradiction | exact absurd ((Eq.symm _h).trans (show _ = true by assumption)) (by decide) | exact absurd ((Eq.symm _h).trans (show _ = false by assumption)) (by decide) | (conv => whnf))) | (intro _h; ((first | replace _h := of_decide_eq_true _h | replace _h := of_decide_eq_false _h | skip); (try simp only [Bool.not_eq_true', Bool.not_eq_false', Bool.not_true, Bool.not_false, decide_eq_true_eq, decide_eq_false_iff_not] at _h); (try (guard_hyp _h : True; clear _h)); first | done | contradiction | exact absurd ((Eq.symm _h).trans (show _ = true by assumption)) (by decide) | exact absurd ((Eq.symm _h).trans (show _ = false by assumption)) (by decide) | (conv => whnf)))))
  · refine acall [0] (f44' l [p, 0] b (a.getD i 0) hl (by intro y hy; simp at hy; omega) hb hai (by omega) (by simp; omega)) rfl ⟨⟨by decide, rfl⟩, trivial⟩ rfl (fun h => absurd h (by decide)) fun st' nx' r hr => ?_
    obtain ⟨us, c, rfl, rfl, rfl, hul, hu, hc, hv1⟩ := hr
    have el : us.length = n.length := by omega
    ((conv => whnf); repeat' (first | (refine And.intro ?_ ?_; (focus (first | rfl | decide | assumption | omega | decide +kernel | exact ⟨rfl, rfl⟩ | exact ⟨rfl, rfl, rfl, rfl⟩ | exact fun h => Bool.noConfusion h | exact fun _ => rfl | exact Nat.le_of_ble_eq_true rfl | (simp only [List.length_map, List.length_append, List.length_replicate, List.length_take, List.length_drop, List.length_set, List.length_cons, List.length_nil]; omega))); (conv => whnf)) | ((refine And.intro ?_ ?_ <;> intro _h); all_goals ((first | replace _h := of_decide_eq_true _h | replace _h := of_decide_eq_false _h | skip); (try simp only [Bool.not_eq_true', Bool.not_eq_false', Bool.not_true, Bool.not_false, decide_eq_true_eq, decide_eq_false_iff_not] at _h); (try (guard_hyp _h : True; clear _h)); first | done | contradiction | exact absurd ((Eq.symm _h).trans (show _ = true by assumption)) (by decide) | exact absurd ((Eq.symm _h).trans (show _ = false by assumption)) (by decide) | (conv => whnf))) | (intro _h; ((first | replace _h := of_decide_eq_true _h | replace _h := of_decide_eq_false _h | skip); (try simp only [Bool.not_eq_true', Bool.not_eq_false', Bool.not_true, Bool.not_false, decide_eq_true_eq, decide_eq_false_iff_not] at _h); (try (guard_hyp _h : True; clear _h)); first | done | contradiction | exact absurd ((Eq.symm _h).trans (show _ = true by assumption)) (by decide) | exact absurd ((Eq.symm _h).trans (show _ = false by assumption)) (by decide) | (conv => whnf)))))
    rw [get_mid el]
    refine acallI (f45 p c 0 hp hc (by omega)) rfl fun r hr => ?_
    subst hr
    ((conv => whnf); repeat' (first | (refine And.intro ?_ ?_; (focus (first | rfl | decide | assumption | omega | decide +kernel | exact ⟨rfl, rfl⟩ | exact ⟨rfl, rfl, rfl, rfl⟩ | exact fun h => Bool.noConfusion h | exact fun _ => rfl | exact Nat.le_of_ble_eq_true rfl | (simp only [List.length_map, List.length_append, List.length_replicate, List.length_take, List.length_drop, List.length_set, List.length_cons, List.length_nil]; omega))); (conv => whnf)) | ((refine And.intro ?_ ?_ <;> intro _h); all_goals ((first | replace _h := of_decide_eq_true _h | replace _h := of_decide_eq_false _h | skip); (try simp only [Bool.not_eq_true', Bool.not_eq_false', Bool.not_true, Bool.not_false, decide_eq_true_eq, decide_eq_false_iff_not] at _h); (try (guard_hyp _h : True; clear _h)); first | done | contradiction | exact absurd ((Eq.symm _h).trans (show _ = true by assumption)) (by decide) | exact absurd ((Eq.symm _h).trans (show _ = false by assumption)) (by decide) | (conv => whnf))) | (intro _h; ((first | replace _h := of_decide_eq_true _h | replace _h := of_decide_eq_false _h | skip); (try simp only [Bool.not_eq_true', Bool.not_eq_false', Bool.not_true, Bool.not_false, decide_eq_true_eq, decide_eq_false_iff_not] at _h); (try (guard_hyp _h : True; clear _h)); first | done | contradiction | exact absurd ((Eq.symm _h).trans (show _ = true by assumption)) (by decide) | exact absurd ((Eq.symm _h).trans (show _ = false by assumption)) (by decide) | (conv => whnf)))))
    rw [set_mid el, Int.add_zero]
    ((conv => whnf); repeat' (first | (refine And.intro ?_ ?_; (focus (first | rfl | decide | assumption | omega | decide +kernel | exact ⟨rfl, rfl⟩ | exact ⟨rfl, rfl, rfl, rfl⟩ | exact fun h => Bool.noConfusion h | exact fun _ => rfl | exact Nat.le_of_ble_eq_true rfl | (simp only [List.length_map, List.length_append, List.length_replicate, List.length_take, List.length_drop, List.length_set, List.length_cons, List.length_nil]; omega))); (conv => whnf)) | ((refine And.intro ?_ ?_ <;> intro _h); all_goals ((first | replace _h := of_decide_eq_true _h | replace _h := of_decide_eq_false _h | skip); (try simp only [Bool.not_eq_true', Bool.not_eq_false', Bool.not_true, Bool.not_false, decide_eq_true_eq, decide_eq_false_iff_not] at _h); (try (guard_hyp _h : True; clear _h)); first | done | contradiction | exact absurd ((Eq.symm _h).trans (show _ = true by assumption)) (by decide) | exact absurd ((Eq.symm _h).trans (show _ = false by assumption)) (by decide) | (conv => whnf))) | (intro _h; ((first | replace _h := of_decide_eq_true _h | replace _h := of_decide_eq_false _h | skip); (try simp only [Bool.not_eq_true', Bool.not_eq_false', Bool.not_true, Bool.not_false, decide_eq_true_eq, decide_eq_false_iff_not] at _h); (try (guard_hyp _h : True; clear _h)); first | done | contradiction | exact absurd ((Eq.symm _h).trans (show _ = true by assumption)) (by decide) | exact absurd ((Eq.symm _h).trans (show _ = false by assumption)) (by decide) | (conv => whnf)))))
    rw [hw1]
    ((conv => whnf); repeat' (first | (refine And.intro ?_ ?_; (focus (first | rfl | decide | assumption | omega | decide +kernel | exact ⟨rfl, rfl⟩ | exact ⟨rfl, rfl, rfl, rfl⟩ | exact fun h => Bool.noConfusion h | exact fun _ => rfl | exact Nat.le_of_ble_eq_true rfl | (simp only [List.length_map, List.length_append, List.length_replicate, List.length_take, List.length_drop, List.length_set, List.length_cons, List.length_nil]; omega))); (conv => whnf)) | ((refine And.intro ?_ ?_ <;> intro _h); all_goals ((first | replace _h := of_decide_eq_true _h | replace _h := of_decide_eq_false _h | skip); (try simp only [Bool.not_eq_true', Bool.not_eq_false', Bool.not_true, Bool.not_false, decide_eq_true_eq, decide_eq_false_iff_not] at _h); (try (guard_hyp _h : True; clear _h)); first | done | contradiction | exact absurd ((Eq.symm _h).trans (show _ = true by assumption)) (by decide) | exact absurd ((Eq.symm _h).trans (show _ = false by assumption)) (by decide) | (conv => whnf))) | (intro _h; ((first | replace _h := of_decide_eq_true _h | replace _h := of_decide_eq_false _h | skip); (try simp only [Bool.not_eq_true', Bool.not_eq_false', Bool.not_true, Bool.not_false, decide_eq_true_eq, decide_eq_false_iff_not] at _h); (try (guard_hyp _h : True; clear _h)); first | done | contradiction | exact absurd ((Eq.symm _h).trans (show _ = true by assumption)) (by decide) | exact absurd ((Eq.symm _h).trans (show _ = false by assumption)) (by decide) | (conv => whnf)))))
    rw [get_mid1 el, set_mid1 el, Int.zero_add, wrap_u32 (n := (p + c) / 4294967296) (by omega) (by omega)]
    ((conv => whnf); repeat' (first | (refine And.intro ?_ ?_; (focus (first | rfl | decide | assumption | omega | decide +kernel | exact ⟨rfl, rfl⟩ | exact ⟨rfl, rfl, rfl, rfl⟩ | exact fun h => Bool.noConfusion h | exact fun _ => rfl | exact Nat.le_of_ble_eq_true rfl | (simp only [List.length_map, List.length_append, List.length_replicate, List.length_take, List.length_drop, List.length_set, List.length_cons, List.length_nil]; omega))); (conv => whnf)) | ((refine And.intro ?_ ?_ <;> intro _h); all_goals ((first | replace _h := of_decide_eq_true _h | replace _h := of_decide_eq_false _h | skip); (try simp only [Bool.not_eq_true', Bool.not_eq_false', Bool.not_true, Bool.not_false, decide_eq_true_eq, decide_eq_false_iff_not] at _h); (try (guard_hyp _h : True; clear _h)); first | done | contradiction | exact absurd ((Eq.symm _h).trans (show _ = true by assumption)) (by decide) | exact absurd ((Eq.symm _h).trans (show _ = false by assumption)) (by decide) | (conv => whnf))) | (intro _h; ((first | replace _h := of_decide_eq_true _h | replace _h := of_decide_eq_false _h | skip); (try simp only [Bool.not_eq_true', Bool.not_eq_false', Bool.not_true, Bool.not_false, decide_eq_true_eq, decide_eq_false_iff_not] at _h); (try (guard_hyp _h : True; clear _h)); first | done | contradiction | exact absurd ((Eq.symm _h).trans (show _ = true by assumption)) (by decide) | exact absurd ((Eq.symm _h).trans (show _ = false by assumption)) (by decide) | (conv => whnf)))))
    have e0 : IntKind.u32.wrap ((us ++ [(p + c) % 4294967296, (p + c) / 4294967296]).getD (0 : Int).toNat 0 * n0) = (us.getD 0 0 * n0) % 4294967296 := by
      rw [wrap_mod]
      congr 2
      show (us ++ _).getD 0 0 = _
      rw [List.getD_eq_getElem?_getD, List.getElem?_append_left (by omega), ← List.getD_eq_getElem?_getD]
    refine acall [0] (f44' us [(p + c) % 4294967296, (p + c) / 4294967296] n ((us.getD 0 0 * n0) % 4294967296) hu (by intro y hy; simp at hy; omega) hn (by omega) el (by simp; omega)) rfl ⟨⟨by decide, rfl⟩, trivial⟩ (by rw [← e0]; rfl) (fun h => absurd h (by decide)) fun st' nx' r hr => ?_
    obtain ⟨us2, c2, rfl, rfl, rfl, hul2, hu2, hc2, hv2⟩ := hr
    ((conv => whnf); repeat' (first | (refine And.intro ?_ ?_; (focus (first | rfl | decide | assumption | omega | decide +kernel | exact ⟨rfl, rfl⟩ | exact ⟨rfl, rfl, rfl, rfl⟩ | exact fun h => Bool.noConfusion h | exact fun _ => rfl | exact Nat.le_of_ble_eq_true rfl | (simp only [List.length_map, List.length_append, List.length_replicate, List.length_take, List.length_drop, List.length_set, List.length_cons, List.length_nil]; omega))); (conv => whnf)) | ((refine And.intro ?_ ?_ <;> intro _h); all_goals ((first | replace _h := of_decide_eq_true _h | replace _h := of_decide_eq_false _h | skip); (try simp only [Bool.not_eq_true', Bool.not_eq_false', Bool.not_true, Bool.not_false, decide_eq_true_eq, decide_eq_false_iff_not] at _h); (try (guard_hyp _h : True; clear _h)); first | done | contradiction | exact absurd ((Eq.symm _h).trans (show _ = true by assumption)) (by decide) | exact absurd ((Eq.symm _h).trans (show _ = false by assumption)) (by decide) | (conv => whnf))) | (intro _h; ((first | replace _h := of_decide_eq_true _h | replace _h := of_decide_eq_false _h | skip); (try simp only [Bool.not_eq_true', Bool.not_eq_false', Bool.not_true, Bool.not_false, decide_eq_true_eq, decide_eq_false_iff_not] at _h); (try (guard_hyp _h : True; clear _h)); first | done | contradiction | exact absurd ((Eq.symm _h).trans (show _ = true by assumption)) (by decide) | exact absurd ((Eq.symm _h).trans (show _ = false by assumption)) (by decide) | (conv => whnf)))))
    rw [get_mid hul2]
    refine acallI (f45 ((p + c) % 4294967296) c2 0 (by omega) hc2 (by omega)) rfl fun r hr => ?_
    subst hr
    ((conv => whnf); repeat' (first | (refine And.intro ?_ ?_; (focus (first | rfl | decide | assumption | omega | decide +kernel | exact ⟨rfl, rfl⟩ | exact ⟨rfl, rfl, rfl, rfl⟩ | exact fun h => Bool.noConfusion h | exact fun _ => rfl | exact Nat.le_of_ble_eq_true rfl | (simp only [List.length_map, List.length_append, List.length_replicate, List.length_take, List.length_drop, List.length_set, List.length_cons, List.length_nil]; omega))); (conv => whnf)) | ((refine And.intro ?_ ?_ <;> intro _h); all_goals ((first | replace _h := of_decide_eq_true _h | replace _h := of_decide_eq_false _h | skip); (try simp only [Bool.not_eq_true', Bool.not_eq_false', Bool.not_true, Bool.not_false, decide_eq_true_eq, decide_eq_false_iff_not] at _h); (try (guard_hyp _h : True; clear _h)); first | done | contradiction | exact absurd ((Eq.symm _h).trans (show _ = true by assumption)) (by decide) | exact absurd ((Eq.symm _h).trans (show _ = false by assumption)) (by decide) | (conv => whnf))) | (intro _h; ((first | replace _h := of_decide_eq_true _h | replace _h := of_decide_eq_false _h | skip); (try simp only [Bool.not_eq_true', Bool.not_eq_false', Bool.not_true, Bool.not_false, decide_eq_true_eq, decide_eq_false_iff_not] at _h); (try (guard_hyp _h : True; clear _h)); first | done | contradiction | exact absurd ((Eq.symm _h).trans (show _ = true by assumption)) (by decide) | exact absurd ((Eq.symm _h).trans (show _ = false by assumption)) (by decide) | (conv => whnf)))))
    rw [set_mid hul2, Int.add_zero]
    ((conv => whnf); repeat' (first | (refine And.intro ?_ ?_; (focus (first | rfl | decide | assumption | omega | decide +kernel | exact ⟨rfl, rfl⟩ | exact ⟨rfl, rfl, rfl, rfl⟩ | exact fun h => Bool.noConfusion h | exact fun _ => rfl | exact Nat.le_of_ble_eq_true rfl | (simp only [List.length_map, List.length_append, List.length_replicate, List.length_take, List.length_drop, List.length_set, List.length_cons, List.length_nil]; omega))); (conv => whnf)) | ((refine And.intro ?_ ?_ <;> intro _h); all_goals ((first | replace _h := of_decide_eq_true _h | replace _h := of_decide_eq_false _h | skip); (try simp only [Bool.not_eq_true', Bool.not_eq_false', Bool.not_true, Bool.not_false, decide_eq_true_eq, decide_eq_false_iff_not] at _h); (try (guard_hyp _h : True; clear _h)); first | done | contradiction | exact absurd ((Eq.symm _h).trans (show _ = true by assumption)) (by decide) | exact absurd ((Eq.symm _h).trans (show _ = false by assumption)) (by decide) | (conv => whnf))) | (intro _h; ((first | replace _h := of_decide_eq_true _h | replace _h := of_decide_eq_false _h | skip); (try simp only [Bool.not_eq_true', Bool.not_eq_false', Bool.not_true, Bool.not_false, decide_eq_true_eq, decide_eq_false_iff_not] at _h); (try (guard_hyp _h : True; clear _h)); first | done | contradiction | exact absurd ((Eq.symm _h).trans (show _ = true by assumption)) (by decide) | exact absurd ((Eq.symm _h).trans (show _ = false by assumption)) (by decide) | (conv => whnf)))))
    rw [hw1]
    ((conv => whnf); repeat' (first | (refine And.intro ?_ ?_; (focus (first | rfl | decide | assumption | omega | decide +kernel | exact ⟨rfl, rfl⟩ | exact ⟨rfl, rfl, rfl, rfl⟩ | exact fun h => Bool.noConfusion h | exact fun _ => rfl | exact Nat.le_of_ble_eq_true rfl | (simp only [List.length_map, List.length_append, List.length_replicate, List.length_take, List.length_drop, List.length_set, List.length_cons, List.length_nil]; omega))); (conv => whnf)) | ((refine And.intro ?_ ?_ <;> intro _h); all_goals ((first | replace _h := of_decide_eq_true _h | replace _h := of_decide_eq_false _h | skip); (try simp only [Bool.not_eq_true', Bool.not_eq_false', Bool.not_true, Bool.not_false, decide_eq_true_eq, decide_eq_false_iff_not] at _h); (try (guard_hyp _h : True; clear _h)); first | done | contradiction | exact absurd ((Eq.symm _h).trans (show _ = true by assumption)) (by decide) | exact absurd ((Eq.symm _h).trans (show _ = false by assumption)) (by decide) | (conv => whnf))) | (intro _h; ((first | replace _h := of_decide_eq_true _h | replace _h := of_decide_eq_false _h | skip); (try simp only [Bool.not_eq_true', Bool.not_eq_false', Bool.not_true, Bool.not_false, decide_eq_true_eq, decide_eq_false_iff_not] at _h); (try (guard_hyp _h : True; clear _h)); first | done | contradiction | exact absurd ((Eq.symm _h).trans (show _ = true by assumption)) (by decide) | exact absurd ((Eq.symm _h).trans (show _ = false by assumption)) (by decide) | (conv => whnf)))))
    rw [get_mid1 hul2, set_mid1 hul2, wrap_u32 (n := (p + c) / 4294967296 + ((p + c) % 4294967296 + c2) / 4294967296) (by omega) (by omega)]
    ((conv => whnf); repeat' (first | (refine And.intro ?_ ?_; (focus (first | rfl | decide | assumption | omega | decide +kernel | exact ⟨rfl, rfl⟩ | exact ⟨rfl, rfl, rfl, rfl⟩ | exact fun h => Bool.noConfusion h | exact fun _ => rfl | exact Nat.le_of_ble_eq_true rfl | (simp only [List.length_map, List.length_append, List.length_replicate, List.length_take, List.length_drop, List.length_set, List.length_cons, List.length_nil]; omega))); (conv => whnf)) | ((refine And.intro ?_ ?_ <;> intro _h); all_goals ((first | replace _h := of_decide_eq_true _h | replace _h := of_decide_eq_false _h | skip); (try simp only [Bool.not_eq_true', Bool.not_eq_false', Bool.not_true, Bool.not_false, decide_eq_true_eq, decide_eq_false_iff_not] at _h); (try (guard_hyp _h : True; clear _h)); first | done | contradiction | exact absurd ((Eq.symm _h).trans (show _ = true by assumption)) (by decide) | exact absurd ((Eq.symm _h).trans (show _ = false by assumption)) (by decide) | (conv => whnf))) | (intro _h; ((first | replace _h := of_decide_eq_true _h | replace _h := of_decide_eq_false _h | skip); (try simp only [Bool.not_eq_true', Bool.not_eq_false', Bool.not_true, Bool.not_false, decide_eq_true_eq, decide_eq_false_iff_not] at _h); (try (guard_hyp _h : True; clear _h)); first | done | contradiction | exact absurd ((Eq.symm _h).trans (show _ = true by assumption)) (by decide) | exact absurd ((Eq.symm _h).trans (show _ = false by assumption)) (by decide) | (conv => whnf)))))
    obtain ⟨w', hw'⟩ : ∃ w', n.length = w' + 1 := ⟨n.length - 1, by have := List.length_pos_iff.2 hbl.1; omega⟩
    have hz := mont_zero (w := w') hu2 (by rw [← hw']; exact hv2) hinv
    obtain ⟨u0, us3, rfl⟩ : ∃ u us3, us2 = u :: us3 := by
      cases us2 with
      | nil => simp at hul2; omega
      | cons u us3 => exact ⟨u, us3, rfl⟩
    have hz0 : u0 = 0 := by simpa using hz
    subst hz0
    have hl3 : us3.length = w' := by simp at hul2; omega
    have hq : 0 ≤ (us.getD 0 0 * n0) % 4294967296 ∧ (us.getD 0 0 * n0) % 4294967296 < 4294967296 := by omega
    refine ⟨(i + 1, us3 ++ [((p + c) % 4294967296 + c2) % 4294967296], (p + c) / 4294967296 + ((p + c) % 4294967296 + c2) / 4294967296, Q + pw i * ((us.getD 0 0 * n0) % 4294967296)), [0], by dsimp only; omega,
      ⟨by dsimp only; omega, by simp [hl3, hw'], ?_, by dsimp only; omega, mont_bound i hQ hq, ?_⟩, rfl, ?_⟩
    · exact hu2.cons.2.append (wfl.one (by omega))
    · dsimp only
      have hr1 : val us + pw (w' + 1) * c = val l + a.getD i 0 * val b := by rw [← hw', ← hlb]; exact hv1
      have hr2 : val (0 :: us3) + pw (w' + 1) * c2 = val us + (us.getD 0 0 * n0) % 4294967296 * val n := by rw [← hw']; exact hv2
      have hr := mont_round (w := w') hl3 hr1 hr2 (p := p)
      rw [take_snoc (by omega), val_snoc (a.take i), List.length_take, Nat.min_eq_left (by omega)]
      rw [hw'] at hv ⊢
      exact mont_inv i hv hr
    · (refine ⟨rfl, rfl, ?_, ?_⟩ <;> repeat' (first | exact True.intro | rfl | decide | (refine And.intro ?_ ?_)))
      · refine di ?_
        rw [wrap_i64 (by omega) (by omega)]; rfl
      · exact congrArg (fun x => some (Ob.row .u32 79 x)) (shift 0 _ _ (by omega))
  · have hia : i = a.length := by omega
    subst hia
    have hne : l ≠ [] := by intro h; subst h; simp at hll; exact hbl.1 (List.eq_nil_of_length_eq_zero hll.symm)
    refine acallP [] [] (f46 l hne (by omega)) rfl trivial trivial ?_ (fun _ => rfl) fun st' nx' r ⟨e1, e2, e3⟩ => ?_
    · show [AVal.d (nat l)] = [if 0 + ((n.length : Int).toNat - 0) ≤ (l ++ [p, 0]).length then AVal.d (D.ints .u32 (((l ++ [p, 0]).drop 0).take ((n.length : Int).toNat - 0))) else .any]
      rw [if_pos (by simp; omega), List.drop_zero, Int.toNat_natCast, Nat.sub_zero, ← hll, List.take_left]
    subst e1; subst e2; subst e3
    refine ⟨rfl, rfl, ?_⟩
    ((conv => whnf); repeat' (first | (refine And.intro ?_ ?_; (focus (first | rfl | decide | assumption | omega | decide +kernel | exact ⟨rfl, rfl⟩ | exact ⟨rfl, rfl, rfl, rfl⟩ | exact fun h => Bool.noConfusion h | exact fun _ => rfl | exact Nat.le_of_ble_eq_true rfl | (simp only [List.length_map, List.length_append, List.length_replicate, List.length_take, List.length_drop, List.length_set, List.length_cons, List.length_nil]; omega))); (conv => whnf)) | ((refine And.intro ?_ ?_ <;> intro _h); all_goals ((first | replace _h := of_decide_eq_true _h | replace _h := of_decide_eq_false _h | skip); (try simp only [Bool.not_eq_true', Bool.not_eq_false', Bool.not_true, Bool.not_false, decide_eq_true_eq, decide_eq_false_iff_not] at _h); (try (guard_hyp _h : True; clear _h)); first | done | contradiction | exact absurd ((Eq.symm _h).trans (show _ = true by assumption)) (by decide) | exact absurd ((Eq.symm _h).trans (show _ = false by assumption)) (by decide) | (conv => whnf))) | (intro _h; ((first | replace _h := of_decide_eq_true _h | replace _h := of_decide_eq_false _h | skip); (try simp only [Bool.not_eq_true', Bool.not_eq_false', Bool.not_true, Bool.not_false, decide_eq_true_eq, decide_eq_false_iff_not] at _h); (try (guard_hyp _h : True; clear _h)); first | done | contradiction | exact absurd ((Eq.symm _h).trans (show _ = true by assumption)) (by decide) | exact absurd ((Eq.symm _h).trans (show _ = false by assumption)) (by decide) | (conv => whnf)))))
    rw [get_mid hll]
    refine acallI (f41 n n0 rr l (!decide (p = 0)) hn hl hbn hll) rfl fun r hr => ?_
    obtain ⟨z, rfl, hz1, hz2, hz3⟩ := hr
    ((conv => whnf); repeat' (first | (refine And.intro ?_ ?_; (focus (first | rfl | decide | assumption | omega | decide +kernel | exact ⟨rfl, rfl⟩ | exact ⟨rfl, rfl, rfl, rfl⟩ | exact fun h => Bool.noConfusion h | exact fun _ => rfl | exact Nat.le_of_ble_eq_true rfl | (simp only [List.length_map, List.length_append, List.length_replicate, List.length_take, List.length_drop, List.length_set, List.length_cons, List.length_nil]; omega))); (conv => whnf)) | ((refine And.intro ?_ ?_ <;> intro _h); all_goals ((first | replace _h := of_decide_eq_true _h | replace _h := of_decide_eq_false _h | skip); (try simp only [Bool.not_eq_true', Bool.not_eq_false', Bool.not_true, Bool.not_false, decide_eq_true_eq, decide_eq_false_iff_not] at _h); (try (guard_hyp _h : True; clear _h)); first | done | contradiction | exact absurd ((Eq.symm _h).trans (show _ = true by assumption)) (by decide) | exact absurd ((Eq.symm _h).trans (show _ = false by assumption)) (by decide) | (conv => whnf))) | (intro _h; ((first | replace _h := of_decide_eq_true _h | replace _h := of_decide_eq_false _h | skip); (try simp only [Bool.not_eq_true', Bool.not_eq_false', Bool.not_true, Bool.not_false, decide_eq_true_eq, decide_eq_false_iff_not] at _h); (try (guard_hyp _h : True; clear _h)); first | done | contradiction | exact absurd ((Eq.symm _h).trans (show _ = true by assumption)) (by decide) | exact absurd ((Eq.symm _h).trans (show _ = false by assumption)) (by decide) | (conv => whnf)))))
    refine Ends.imm rfl ⟨z, rfl, hz1, hz2, ?_⟩
    rw [List.take_of_length_le (Nat.le_refl _)] at hv
    rw [hla] at hv hQ
    refine mont_less hl hll hn rfl hz2 hz1 hp.1 hv ⟨val_nonneg ha, ?_⟩ hQ ⟨val_nonneg hb, hbv⟩ hz3
    rw [← hla]; exact val_lt ha


/-- What is no element. -/
def notEl (n x : List Int) : Bool := decide (x.length ≠ n.length) || decide (val n ≤ val x)

theorem sgn_nonneg (x y : Int) : 0 ≤ sgn x y ↔ y ≤ x := by
  unfold sgn
  split
  · omega
  · split <;> omega

theorem f43 (n : List Int) (n0 : Int) (rr x : List Int) (hn : wfl n) (hx : wfl x) (hbn : bad n = false) : Imm Tryd.prog 90 [.d (nat x), .d (.ptr (ringD n n0 rr))] (fun r => r = bool (notEl n x)) := by
  (refine Imm.of_awp told0 [] Tryd.func90 rfl (by decide) (Nat.le_of_ble_eq_true rfl) ?_; intro _w0 _S0 _E0 _B0; ((conv => whnf); repeat' (first | (refine And.intro ?_ ?_; (focus (first | rfl | decide | assumption | omega | decide +kernel | exact ⟨rfl, rfl⟩ | exact ⟨rfl, rfl, rfl, rfl⟩ | exact fun h => Bool.noConfusion h | exact fun _ => rfl | exact Nat.le_of_ble_eq_true rfl | (simp only [List.length_map, List.length_append, List.length_replicate, List.length_take, List.length_drop, List.length_set, List.length_cons, List.length_nil]; omega))); (conv => whnf)) | ((refine And.intro ?_ ?_ <;> intro _h); all_goals ((first | replace _h := of_decide_eq_true _h | replace _h := of_decide_eq_false _h | skip); (try simp only [Bool.not_eq_true', Bool.not_eq_false', Bool.not_true, Bool.not_false, decide_eq_true_eq, decide_eq_false_iff_not] at _h); (try (guard_hyp _h : True; clear _h)); first | done | contradiction | exact absurd ((Eq.symm _h).trans (show _ = true by assumption)) (by decide) | exact absurd ((Eq.symm _h).trans (show _ = false by assumption)) (by decide) | (conv => whnf))) | (intro _h; ((first | replace _h := of_decide_eq_true _h | replace _h := of_decide_eq_false _h | skip); (try simp only [Bool.not_eq_true', Bool.not_eq_false', Bool.not_true, Bool.not_false, decide_eq_true_eq, decide_eq_false_iff_not] at _h); (try (guard_hyp _h : True; clear _h)); first | done | contradiction | exact absurd ((Eq.symm _h).trans (show _ = true by assumption)) (by decide) | exact absurd ((Eq.symm _h).trans (show _ = false by assumption)) (by decide) | (conv => whnf))))))
  · have hl : x.length = n.length := by omega
    refine acallI (f23 x n hx hn (by unfold bad at hbn ⊢; rw [hl]; exact hbn) hbn) rfl fun r hr => ?_
    subst hr
    ((conv => whnf); repeat' (first | (refine And.intro ?_ ?_; (focus (first | rfl | decide | assumption | omega | decide +kernel | exact ⟨rfl, rfl⟩ | exact ⟨rfl, rfl, rfl, rfl⟩ | exact fun h => Bool.noConfusion h | exact fun _ => rfl | exact Nat.le_of_ble_eq_true rfl | (simp only [List.length_map, List.length_append, List.length_replicate, List.length_take, List.length_drop, List.length_set, List.length_cons, List.length_nil]; omega))); (conv => whnf)) | ((refine And.intro ?_ ?_ <;> intro _h); all_goals ((first | replace _h := of_decide_eq_true _h | replace _h := of_decide_eq_false _h | skip); (try simp only [Bool.not_eq_true', Bool.not_eq_false', Bool.not_true, Bool.not_false, decide_eq_true_eq, decide_eq_false_iff_not] at _h); (try (guard_hyp _h : True; clear _h)); first | done | contradiction | exact absurd ((Eq.symm _h).trans (show _ = true by assumption)) (by decide) | exact absurd ((Eq.symm _h).trans (show _ = false by assumption)) (by decide) | (conv => whnf))) | (intro _h; ((first | replace _h := of_decide_eq_true _h | replace _h := of_decide_eq_false _h | skip); (try simp only [Bool.not_eq_true', Bool.not_eq_false', Bool.not_true, Bool.not_false, decide_eq_true_eq, decide_eq_false_iff_not] at _h); (try (guard_hyp _h : True; clear _h)); first | done | contradiction | exact absurd ((Eq.symm _h).trans (show _ = true by assumption)) (by decide) | exact absurd ((Eq.symm _h).trans (show _ = false by assumption)) (by decide) | (conv => whnf)))))
    refine Ends.imm rfl ?_
    unfold bool notEl
    congr 2
    rw [show decide (x.length ≠ n.length) = false by simp [hl], Bool.false_or, decide_eq_decide]
    exact sgn_nonneg _ _
  · refine Ends.imm rfl ?_
    unfold bool notEl
    congr 2
    rw [show decide (x.length ≠ n.length) = true by simp; omega, Bool.true_or]

def told33 : AW.Told := ⟨fun _ => false, fun r i => if r == 1 && i == 1 then [2] else [], fun _ => .done⟩

theorem f33 (n : List Int) (n0 : Int) (rr : List Int) (xss : List (List Int)) (hn : wfl n) (hxs : ∀ x ∈ xss, wfl x) (hbn : bad n = false) :
    Imm Tryd.prog 59 [.d (ringD n n0 rr), .d (.sl 1 (xss.map nat))] (fun r => r = bool (!xss.any (notEl n))) := by
  (refine Imm.of_awp told33 [] Tryd.func59 rfl (by decide) (Nat.le_of_ble_eq_true rfl) ?_; intro _w0 _S0 _E0 _B0; ((conv => whnf); repeat' (first | (refine And.intro ?_ ?_; (focus (first | rfl | decide | assumption | omega | decide +kernel | exact ⟨rfl, rfl⟩ | exact ⟨rfl, rfl, rfl, rfl⟩ | exact fun h => Bool.noConfusion h | exact fun _ => rfl | exact Nat.le_of_ble_eq_true rfl | (simp only [List.length_map, List.length_append, List.length_replicate, List.length_take, List.length_drop, List.length_set, List.length_cons, List.length_nil]; omega))); (conv => whnf)) | ((refine And.intro ?_ ?_ <;> intro _h); all_goals ((first | replace _h := of_decide_eq_true _h | replace _h := of_decide_eq_false _h | skip); (try simp only [Bool.not_eq_true', Bool.not_eq_false', Bool.not_true, Bool.not_false, decide_eq_true_eq, decide_eq_false_iff_not] at _h); (try (guard_hyp _h : True; clear _h)); first | done | contradiction | exact absurd ((Eq.symm _h).trans (show _ = true by assumption)) (by decide) | exact absurd ((Eq.symm _h).trans (show _ = false by assumption)) (by decide) | (conv => whnf))) | (intro _h; ((first | replace _h := of_decide_eq_true _h | replace _h := of_decide_eq_false _h | skip); (try simp only [Bool.not_eq_true', Bool.not_eq_false', Bool.not_true, Bool.not_false, decide_eq_true_eq, decide_eq_false_iff_not] at _h); (try (guard_hyp _h : True; clear _h)); first | done | contradiction | exact absurd ((Eq.symm _h).trans (show _ = true by assumption)) (by decide) | exact absurd ((Eq.symm _h).trans (show _ = false by assumption)) (by decide) | (conv => whnf))))))
  refine acallI (f42 90 [.ptr (ringD n n0 rr)] (notEl n) xss rfl fun x hx => f43 n n0 rr x hn (hxs x hx) hbn) rfl fun r hr => ?_
  subst hr
  ((conv => whnf); repeat' (first | (refine And.intro ?_ ?_; (focus (first | rfl | decide | assumption | omega | decide +kernel | exact ⟨rfl, rfl⟩ | exact ⟨rfl, rfl, rfl, rfl⟩ | exact fun h => Bool.noConfusion h | exact fun _ => rfl | exact Nat.le_of_ble_eq_true rfl | (simp only [List.length_map, List.length_append, List.length_replicate, List.length_take, List.length_drop, List.length_set, List.length_cons, List.length_nil]; omega))); (conv => whnf)) | ((refine And.intro ?_ ?_ <;> intro _h); all_goals ((first | replace _h := of_decide_eq_true _h | replace _h := of_decide_eq_false _h | skip); (try simp only [Bool.not_eq_true', Bool.not_eq_false', Bool.not_true, Bool.not_false, decide_eq_true_eq, decide_eq_false_iff_not] at _h); (try (guard_hyp _h : True; clear _h)); first | done | contradiction | exact absurd ((Eq.symm _h).trans (show _ = true by assumption)) (by decide) | exact absurd ((Eq.symm _h).trans (show _ = false by assumption)) (by decide) | (conv => whnf))) | (intro _h; ((first | replace _h := of_decide_eq_true _h | replace _h := of_decide_eq_false _h | skip); (try simp only [Bool.not_eq_true', Bool.not_eq_false', Bool.not_true, Bool.not_false, decide_eq_true_eq, decide_eq_false_iff_not] at _h); (try (guard_hyp _h : True; clear _h)); first | done | contradiction | exact absurd ((Eq.symm _h).trans (show _ = true by assumption)) (by decide) | exact absurd ((Eq.symm _h).trans (show _ = false by assumption)) (by decide) | (conv => whnf)))))
  exact Ends.imm rfl rfl

/-- What is odd divides no power of 2 out. -/
theorem odd_cancel {n : List Int} {n0 : Int} (hinv : (n.getD 0 0 * n0 + 1) % 4294967296 = 0) : ∃ u v : Int, u * 4294967296 + v * val n = 1 := by
  have e3 := val_step n
  generalize n.getD 0 0 = m at *
  have e5 : m * n0 + 1 = 4294967296 * ((m * n0 + 1) / 4294967296) := by omega
  generalize (m * n0 + 1) / 4294967296 = e at *
  refine ⟨e + n0 * val n.tail, -n0, ?_⟩
  rw [e3]
  grind

theorem pw_cancel {n : List Int} {n0 : Int} (hinv : (n.getD 0 0 * n0 + 1) % 4294967296 = 0) : ∀ w, ∃ u v : Int, u * pw w + v * val n = 1
  | 0 => ⟨1, 0, by simp [pw_zero]⟩
  | w + 1 => by
    obtain ⟨u, v, h⟩ := pw_cancel hinv w
    obtain ⟨u', v', h'⟩ := odd_cancel hinv
    refine ⟨u * u', v + u * pw w * v', ?_⟩
    rw [pw_succ]
    grind

/-- Equal by a power of 2, equal. -/
theorem cancel {n : List Int} {n0 : Int} (hinv : (n.getD 0 0 * n0 + 1) % 4294967296 = 0) {w : Nat} {x y Q : Int} (h : pw w * x = pw w * y + Q * val n) : ∃ Q', x = y + Q' * val n := by
  obtain ⟨u, v, e⟩ := pw_cancel hinv w
  refine ⟨u * Q + v * (x - y), ?_⟩
  grind

theorem mod_eq {N x y Q : Int} (h : x = y + Q * N) (h0 : 0 ≤ x) (h1 : x < N) : x = y % N := by
  have : y = x + -Q * N := by grind
  rw [this, Int.add_mul_emod_self_right, Int.emod_eq_of_lt h0 h1]

/-- A ring that is right. -/
structure Ring (n : List Int) (n0 : Int) (rr : List Int) : Prop where
  hn : wfl n
  hbn : bad n = false
  hn0 : 0 ≤ n0 ∧ n0 < 4294967296
  hinv : (n.getD 0 0 * n0 + 1) % 4294967296 = 0
  hr : wfl rr
  hrl : rr.length = n.length
  hrv : val rr < val n
  h1 : 1 < val n
  hrr : ∃ Q, pw n.length * pw n.length = val rr + Q * val n

def told25 : AW.Told := ⟨fun _ => false, fun r i => if r == 1 && i == 4 then [11] else [], fun _ => .done⟩

theorem el_of {n x : List Int} (h : notEl n x = false) : x.length = n.length ∧ val x < val n := by
  unfold notEl at h
  simp at h
  omega

/-- What a product short of a factor is. -/
def shortS (n a b z : List Int) : Prop := z.length = n.length ∧ wfl z ∧ val z < val n ∧ ∃ Q, pw n.length * val z = val a * val b + Q * val n

theorem Ring.short {n : List Int} {n0 : Int} {rr a b : List Int} (h : Ring n n0 rr) (ha : wfl a) (hb : wfl b) (hla : a.length = n.length) (hlb : b.length = n.length) (hbv : val b < val n) :
    Imm Tryd.prog 60 [.d (ringD n n0 rr), .d (nat a), .d (nat b)] (fun r => ∃ z, r = .d (nat z) ∧ shortS n a b z) :=
  f34 n n0 rr a b h.hn h.hn0 ha hb h.hbn hla hlb h.hinv hbv


/-- A big-endian number. -/
def ev (bs : List Int) : Nat := bs.foldl (fun acc b => acc * 256 + b.toNat) 0
theorem ev_snoc (bs : List Int) (b : Int) : ev (bs ++ [b]) = ev bs * 256 + b.toNat := by simp [ev]

/-- 'o' stands for 'v' times the width's power. -/
def rep (n o : List Int) (v : Int) : Prop := o.length = n.length ∧ wfl o ∧ val o < val n ∧ ∃ Q, val o = pw n.length * v + Q * val n

theorem rep_short {n : List Int} {n0 : Int} (hinv : (n.getD 0 0 * n0 + 1) % 4294967296 = 0) {a b z : List Int} {x y : Int} (ha : rep n a x) (hb : rep n b y) (hz : shortS n a b z) : rep n z (x * y) := by
  obtain ⟨_, _, _, Q1, h1⟩ := ha
  obtain ⟨_, _, _, Q2, h2⟩ := hb
  obtain ⟨h3, h4, h5, Q3, h6⟩ := hz
  refine ⟨h3, h4, h5, ?_⟩
  have : pw n.length * val z = pw n.length * (pw n.length * (x * y)) + (pw n.length * x * Q2 + Q1 * val b + Q3) * val n := by rw [h6, h1, h2]; grind
  exact cancel hinv this

theorem rep_in {n : List Int} {n0 : Int} (hinv : (n.getD 0 0 * n0 + 1) % 4294967296 = 0) {a rr z : List Int} {Q0 : Int} (h0 : pw n.length * pw n.length = val rr + Q0 * val n) (hz : shortS n a rr z) : rep n z (val a) := by
  obtain ⟨h3, h4, h5, Q3, h6⟩ := hz
  refine ⟨h3, h4, h5, ?_⟩
  have : pw n.length * val z = pw n.length * (pw n.length * val a) + (Q3 - val a * Q0) * val n := by rw [h6]; grind
  exact cancel hinv this

theorem rep_out {n : List Int} {n0 : Int} (hinv : (n.getD 0 0 * n0 + 1) % 4294967296 = 0) {a one z : List Int} {x : Int} (ha : rep n a x) (h1 : val one = 1) (hz : shortS n a one z) : val z = x % val n := by
  obtain ⟨_, _, _, Q1, h2⟩ := ha
  obtain ⟨h3, h4, h5, Q3, h6⟩ := hz
  have : pw n.length * val z = pw n.length * x + (Q1 + Q3) * val n := by rw [h6, h1, h2]; grind
  obtain ⟨Q, hQ⟩ := cancel hinv this
  exact mod_eq hQ (val_nonneg h4) h5

/-- A 1, in limbs. -/
def oneL (w : Nat) : List Int := (List.replicate w 0).set 0 1
theorem oneL_len (w : Nat) : (oneL w).length = w := by simp [oneL]
theorem oneL_val {w : Nat} (h : 0 < w) : val (oneL w) = 1 := by
  cases w with
  | zero => omega
  | succ w => simp [oneL, List.replicate_succ, val, val_zero]
theorem oneL_wf (w : Nat) : wfl (oneL w) := by
  unfold oneL
  refine wfl.set (fun x hx => ?_) 0 (by omega)
  simp at hx; omega

theorem bit_u8 {c : Int} (h0 : 0 ≤ c) (h1 : c < 256) (m : Nat) (hm : m ≤ 7) : bitsK .and .u8 (c / 2 ^ (min (m : Int).toNat (IntKind.bits .u8))) 1 = (c / 2 ^ m) % 2 := by
  rw [Int.toNat_natCast, Nat.min_eq_left (by simp [IntKind.bits]; omega)]
  have hd : 0 ≤ c / 2 ^ m := Int.ediv_nonneg h0 (by exact Int.le_of_lt (Int.pow_pos (by omega)))
  have hd2 : c / 2 ^ m ≤ c := Int.ediv_le_self _ h0
  generalize c / 2 ^ m = d at *
  obtain ⟨k, rfl⟩ : ∃ k : Nat, d = k := ⟨d.toNat, by omega⟩
  have hk : k < 256 := by omega
  have : ∀ k : Fin 256, bitsK .and .u8 ((k.val : Nat) : Int) 1 = ((k.val : Nat) : Int) % 2 := by decide +kernel
  exact this ⟨k, hk⟩

theorem exp_step (e c m : Nat) (hm : m + 1 ≤ 8) : e * 2 ^ (8 - m) + c / 2 ^ m = 2 * (e * 2 ^ (8 - (m + 1)) + c / 2 ^ (m + 1)) + c / 2 ^ m % 2 := by
  have e1 : 8 - m = (8 - (m + 1)) + 1 := by omega
  have e2 : c / 2 ^ (m + 1) = c / 2 ^ m / 2 := by rw [Nat.pow_succ, Nat.div_div_eq_div_mul]
  rw [e2, e1, Nat.pow_succ, ← Nat.mul_assoc]
  omega

def told18 : AW.Told := ⟨fun _ => false, fun r i => if r == 1 && i == 3 then [17] else if r == 8 && i == 6 then [40] else [], fun _ => .done⟩

theorem f18 (n : List Int) (n0 : Int) (rr a exp : List Int) (h : Ring n n0 rr) (ha : wfl a) (he : ∀ b ∈ exp, 0 ≤ b ∧ b < 256) :
    Imm Tryd.prog 79 [.d (ringD n n0 rr), .d (nat a), .d (.ints .u8 exp)] (fun r => if notEl n a then r = .tup [.nls (nat []), i64 13] else if 1024 < exp.length then r = .tup [.nls (nat []), i64 11] else ∃ z, r = .tup [.d (nat z), i64 0] ∧ z.length = n.length ∧ wfl z ∧ val z = (val a ^ ev exp) % val n) := by
  have hbl := h.hbn
  unfold bad at hbl
  simp at hbl
  have hnp : 0 < n.length := List.length_pos_iff.2 hbl.1
  (refine Imm.of_awp told18 [] Tryd.func79 rfl (by decide) (Nat.le_of_ble_eq_true rfl) ?_; intro _w0 _S0 _E0 _B0; ((conv => whnf); repeat' (first | (refine And.intro ?_ ?_; (focus (first | rfl | decide | assumption | omega | decide +kernel | exact ⟨rfl, rfl⟩ | exact ⟨rfl, rfl, rfl, rfl⟩ | exact fun h => Bool.noConfusion h | exact fun _ => rfl | exact Nat.le_of_ble_eq_true rfl | (simp only [List.length_map, List.length_append, List.length_replicate, List.length_take, List.length_drop, List.length_set, List.length_cons, List.length_nil]; omega))); (conv => whnf)) | ((refine And.intro ?_ ?_ <;> intro _h); all_goals ((first | replace _h := of_decide_eq_true _h | replace _h := of_decide_eq_false _h | skip); (try simp only [Bool.not_eq_true', Bool.not_eq_false', Bool.not_true, Bool.not_false, decide_eq_true_eq, decide_eq_false_iff_not] at _h); (try (guard_hyp _h : True; clear _h)); first | done | contradiction | exact absurd ((Eq.symm _h).trans (show _ = true by assumption)) (by decide) | exact absurd ((Eq.symm _h).trans (show _ = false by assumption)) (by decide) | (conv => whnf))) | (intro _h; ((first | replace _h := of_decide_eq_true _h | replace _h := of_decide_eq_false _h | skip); (try simp only [Bool.not_eq_true', Bool.not_eq_false', Bool.not_true, Bool.not_false, decide_eq_true_eq, decide_eq_false_iff_not] at _h); (try (guard_hyp _h : True; clear _h)); first | done | contradiction | exact absurd ((Eq.symm _h).trans (show _ = true by assumption)) (by decide) | exact absurd ((Eq.symm _h).trans (show _ = false by assumption)) (by decide) | (conv => whnf))))))
  refine acallI (f33 n n0 rr [a] h.hn (by intro x hx; simp at hx; subst hx; assumption) h.hbn) rfl fun r hr => ?_
  subst hr
  ((conv => whnf); repeat' (first | (refine And.intro ?_ ?_; (focus (first | rfl | decide | assumption | omega | decide +kernel | exact ⟨rfl, rfl⟩ | exact ⟨rfl, rfl, rfl, rfl⟩ | exact fun h => Bool.noConfusion h | exact fun _ => rfl | exact Nat.le_of_ble_eq_true rfl | (simp only [List.length_map, List.length_append, List.length_replicate, List.length_take, List.length_drop, List.length_set, List.length_cons, List.length_nil]; omega))); (conv => whnf)) | ((refine And.intro ?_ ?_ <;> intro _h); all_goals ((first | replace _h := of_decide_eq_true _h | replace _h := of_decide_eq_false _h | skip); (try simp only [Bool.not_eq_true', Bool.not_eq_false', Bool.not_true, Bool.not_false, decide_eq_true_eq, decide_eq_false_iff_not] at _h); (try (guard_hyp _h : True; clear _h)); first | done | contradiction | exact absurd ((Eq.symm _h).trans (show _ = true by assumption)) (by decide) | exact absurd ((Eq.symm _h).trans (show _ = false by assumption)) (by decide) | (conv => whnf))) | (intro _h; ((first | replace _h := of_decide_eq_true _h | replace _h := of_decide_eq_false _h | skip); (try simp only [Bool.not_eq_true', Bool.not_eq_false', Bool.not_true, Bool.not_false, decide_eq_true_eq, decide_eq_false_iff_not] at _h); (try (guard_hyp _h : True; clear _h)); first | done | contradiction | exact absurd ((Eq.symm _h).trans (show _ = true by assumption)) (by decide) | exact absurd ((Eq.symm _h).trans (show _ = false by assumption)) (by decide) | (conv => whnf)))))
  · refine Ends.imm rfl ?_
    simp at _h
    rw [if_pos _h]
  · refine Ends.imm rfl ?_
    rename_i h1
    simp at h1
    rw [if_neg (by simp [h1]), if_pos (by omega)]
  · rename_i h1
    simp at h1
    obtain ⟨ha1, ha2⟩ := el_of h1
    obtain ⟨Q0, hQ0⟩ := h.hrr
    refine acallI (h.short ha h.hr ha1 h.hrl h.hrv) rfl fun r hr => ?_
    obtain ⟨base, rfl, hb⟩ := hr
    have rb := rep_in h.hinv hQ0 hb
    ((conv => whnf); repeat' (first | (refine And.intro ?_ ?_; (focus (first | rfl | decide | assumption | omega | decide +kernel | exact ⟨rfl, rfl⟩ | exact ⟨rfl, rfl, rfl, rfl⟩ | exact fun h => Bool.noConfusion h | exact fun _ => rfl | exact Nat.le_of_ble_eq_true rfl | (simp only [List.length_map, List.length_append, List.length_replicate, List.length_take, List.length_drop, List.length_set, List.length_cons, List.length_nil]; omega))); (conv => whnf)) | ((refine And.intro ?_ ?_ <;> intro _h); all_goals ((first | replace _h := of_decide_eq_true _h | replace _h := of_decide_eq_false _h | skip); (try simp only [Bool.not_eq_true', Bool.not_eq_false', Bool.not_true, Bool.not_false, decide_eq_true_eq, decide_eq_false_iff_not] at _h); (try (guard_hyp _h : True; clear _h)); first | done | contradiction | exact absurd ((Eq.symm _h).trans (show _ = true by assumption)) (by decide) | exact absurd ((Eq.symm _h).trans (show _ = false by assumption)) (by decide) | (conv => whnf))) | (intro _h; ((first | replace _h := of_decide_eq_true _h | replace _h := of_decide_eq_false _h | skip); (try simp only [Bool.not_eq_true', Bool.not_eq_false', Bool.not_true, Bool.not_false, decide_eq_true_eq, decide_eq_false_iff_not] at _h); (try (guard_hyp _h : True; clear _h)); first | done | contradiction | exact absurd ((Eq.symm _h).trans (show _ = true by assumption)) (by decide) | exact absurd ((Eq.symm _h).trans (show _ = false by assumption)) (by decide) | (conv => whnf)))))
    refine acallI (h.short (oneL_wf n.length) h.hr (oneL_len _) h.hrl h.hrv) rfl fun r hr => ?_
    obtain ⟨out, rfl, ho⟩ := hr
    have ro := rep_in h.hinv hQ0 ho
    rw [oneL_val hnp] at ro
    ((conv => whnf); repeat' (first | (refine And.intro ?_ ?_; (focus (first | rfl | decide | assumption | omega | decide +kernel | exact ⟨rfl, rfl⟩ | exact ⟨rfl, rfl, rfl, rfl⟩ | exact fun h => Bool.noConfusion h | exact fun _ => rfl | exact Nat.le_of_ble_eq_true rfl | (simp only [List.length_map, List.length_append, List.length_replicate, List.length_take, List.length_drop, List.length_set, List.length_cons, List.length_nil]; omega))); (conv => whnf)) | ((refine And.intro ?_ ?_ <;> intro _h); all_goals ((first | replace _h := of_decide_eq_true _h | replace _h := of_decide_eq_false _h | skip); (try simp only [Bool.not_eq_true', Bool.not_eq_false', Bool.not_true, Bool.not_false, decide_eq_true_eq, decide_eq_false_iff_not] at _h); (try (guard_hyp _h : True; clear _h)); first | done | contradiction | exact absurd ((Eq.symm _h).trans (show _ = true by assumption)) (by decide) | exact absurd ((Eq.symm _h).trans (show _ = false by assumption)) (by decide) | (conv => whnf))) | (intro _h; ((first | replace _h := of_decide_eq_true _h | replace _h := of_decide_eq_false _h | skip); (try simp only [Bool.not_eq_true', Bool.not_eq_false', Bool.not_true, Bool.not_false, decide_eq_true_eq, decide_eq_false_iff_not] at _h); (try (guard_hyp _h : True; clear _h)); first | done | contradiction | exact absurd ((Eq.symm _h).trans (show _ = true by assumption)) (by decide) | exact absurd ((Eq.symm _h).trans (show _ = false by assumption)) (by decide) | (conv => whnf)))))
    refine aloop (T := told18) (ι := Nat × List Int) (fun x => [(0, .d (ringD n n0 rr)), (8, .d (nat (oneL n.length))), (9, .d (nat base)), (10, .d (nat x.2)), (46, .d (.ints .u8 exp)), (47, i64 exp.length), (48, i64 x.1)]) (fun x => []) 74 0
      (fun x => exp.length - x.1) (fun x => x.1 ≤ exp.length ∧ rep n x.2 (val a ^ ev (exp.take x.1))) ⟨(0, out), [], rfl, ⟨by omega, by simpa [ev] using ro⟩, by (refine ⟨rfl, rfl, ?_, ?_⟩ <;> repeat' (first | exact True.intro | rfl | decide | (refine And.intro ?_ ?_)))⟩ ?_
    intro ⟨i, o⟩ ⟨hi, hro⟩
    dsimp only at hi hro ⊢
    ((conv => whnf); repeat' (first | (refine And.intro ?_ ?_; (focus (first | rfl | decide | assumption | omega | decide +kernel | exact ⟨rfl, rfl⟩ | exact ⟨rfl, rfl, rfl, rfl⟩ | exact fun h => Bool.noConfusion h | exact fun _ => rfl | exact Nat.le_of_ble_eq_true rfl | (simp only [List.length_map, List.length_append, List.length_replicate, List.length_take, List.length_drop, List.length_set, List.length_cons, List.length_nil]; omega))); (conv => whnf)) | ((refine And.intro ?_ ?_ <;> intro _h); all_goals ((first | replace _h := of_decide_eq_true _h | replace _h := of_decide_eq_false _h | skip); (try simp only [Bool.not_eq_true', Bool.not_eq_false', Bool.not_true, Bool.not_false, decide_eq_true_eq, decide_eq_false_iff_not] at _h); (try (guard_hyp _h : True; clear _h)); first | done | contradiction | exact absurd ((Eq.symm _h).trans (show _ = true by assumption)) (by decide) | exact absurd ((Eq.symm _h).trans (show _ = false by assumption)) (by decide) | (conv => whnf))) | (intro _h; ((first | replace _h := of_decide_eq_true _h | replace _h := of_decide_eq_false _h | skip); (try simp only [Bool.not_eq_true', Bool.not_eq_false', Bool.not_true, Bool.not_false, decide_eq_true_eq, decide_eq_false_iff_not] at _h); (try (guard_hyp _h : True; clear _h)); first | done | contradiction | exact absurd ((Eq.symm _h).trans (show _ = true by assumption)) (by decide) | exact absurd ((Eq.symm _h).trans (show _ = false by assumption)) (by decide) | (conv => whnf)))))
    · obtain ⟨c, hc⟩ : ∃ c, exp.getD (i : Int).toNat 0 = c := ⟨_, rfl⟩
      have hcm : c ∈ exp := by
        rw [← hc, Int.toNat_natCast, List.getD_eq_getElem?_getD, List.getElem?_eq_getElem (by omega)]
        exact List.getElem_mem _
      have hcb := he c hcm
      rw [hc]
      refine aloop (T := told18) (ι := Nat × List Int) (fun x => [(0, .d (ringD n n0 rr)), (8, .d (nat (oneL n.length))), (9, .d (nat base)), (10, .d (nat x.2)), (46, .d (.ints .u8 exp)), (47, i64 exp.length), (48, i64 i), (12, .d (.int .u8 c)), (13, i64 ((x.1 : Int) - 1))]) (fun x => []) 74 0
        (fun x => x.1) (fun x => x.1 ≤ 8 ∧ rep n x.2 (val a ^ (ev (exp.take i) * 2 ^ (8 - x.1) + c.toNat / 2 ^ x.1))) ⟨(8, o), [], rfl, ⟨by omega, ?_⟩, by (refine ⟨rfl, rfl, ?_, ?_⟩ <;> repeat' (first | exact True.intro | rfl | decide | (refine And.intro ?_ ?_)))⟩ ?_
      · have : c.toNat / 2 ^ 8 = 0 := Nat.div_eq_of_lt (by omega)
        simpa [this] using hro
      intro ⟨m, o2⟩ ⟨hm, hro2⟩
      dsimp only at hm hro2 ⊢
      ((conv => whnf); repeat' (first | (refine And.intro ?_ ?_; (focus (first | rfl | decide | assumption | omega | decide +kernel | exact ⟨rfl, rfl⟩ | exact ⟨rfl, rfl, rfl, rfl⟩ | exact fun h => Bool.noConfusion h | exact fun _ => rfl | exact Nat.le_of_ble_eq_true rfl | (simp only [List.length_map, List.length_append, List.length_replicate, List.length_take, List.length_drop, List.length_set, List.length_cons, List.length_nil]; omega))); (conv => whnf)) | ((refine And.intro ?_ ?_ <;> intro _h); all_goals ((first | replace _h := of_decide_eq_true _h | replace _h := of_decide_eq_false _h | skip); (try simp only [Bool.not_eq_true', Bool.not_eq_false', Bool.not_true, Bool.not_false, decide_eq_true_eq, decide_eq_false_iff_not] at _h); (try (guard_hyp _h : True; clear _h)); first | done | contradiction | exact absurd ((Eq.symm _h).trans (show _ = true by assumption)) (by decide) | exact absurd ((Eq.symm _h).trans (show _ = false by assumption)) (by decide) | (conv => whnf))) | (intro _h; ((first | replace _h := of_decide_eq_true _h | replace _h := of_decide_eq_false _h | skip); (try simp only [Bool.not_eq_true', Bool.not_eq_false', Bool.not_true, Bool.not_false, decide_eq_true_eq, decide_eq_false_iff_not] at _h); (try (guard_hyp _h : True; clear _h)); first | done | contradiction | exact absurd ((Eq.symm _h).trans (show _ = true by assumption)) (by decide) | exact absurd ((Eq.symm _h).trans (show _ = false by assumption)) (by decide) | (conv => whnf)))))
      · obtain ⟨m', rfl⟩ : ∃ k, m = k + 1 := ⟨m - 1, by omega⟩
        have em : ((m' + 1 : Nat) : Int) - 1 = m' := by omega
        rw [em]
        refine acallI (h.short hro2.2.1 hro2.2.1 hro2.1 hro2.1 hro2.2.2.1) rfl fun r hr => ?_
        obtain ⟨sq, rfl, hsq⟩ := hr
        have rsq := rep_short h.hinv hro2 hro2 hsq
        have hes := exp_step (ev (exp.take i)) c.toNat m' hm
        have hbit : (c / 2 ^ m') % 2 = ((c.toNat / 2 ^ m' % 2 : Nat) : Int) := by
          obtain ⟨k, rfl⟩ : ∃ k : Nat, c = k := ⟨c.toNat, by omega⟩
          simp
        have hpp : val a ^ (ev (exp.take i) * 2 ^ (8 - (m' + 1)) + c.toNat / 2 ^ (m' + 1)) * val a ^ (ev (exp.take i) * 2 ^ (8 - (m' + 1)) + c.toNat / 2 ^ (m' + 1)) = val a ^ (2 * (ev (exp.take i) * 2 ^ (8 - (m' + 1)) + c.toNat / 2 ^ (m' + 1))) := by
          rw [← Int.pow_add]; congr 1; omega
        rw [hpp] at rsq
        ((conv => whnf); repeat' (first | (refine And.intro ?_ ?_; (focus (first | rfl | decide | assumption | omega | decide +kernel | exact ⟨rfl, rfl⟩ | exact ⟨rfl, rfl, rfl, rfl⟩ | exact fun h => Bool.noConfusion h | exact fun _ => rfl | exact Nat.le_of_ble_eq_true rfl | (simp only [List.length_map, List.length_append, List.length_replicate, List.length_take, List.length_drop, List.length_set, List.length_cons, List.length_nil]; omega))); (conv => whnf)) | ((refine And.intro ?_ ?_ <;> intro _h); all_goals ((first | replace _h := of_decide_eq_true _h | replace _h := of_decide_eq_false _h | skip); (try simp only [Bool.not_eq_true', Bool.not_eq_false', Bool.not_true, Bool.not_false, decide_eq_true_eq, decide_eq_false_iff_not] at _h); (try (guard_hyp _h : True; clear _h)); first | done | contradiction | exact absurd ((Eq.symm _h).trans (show _ = true by assumption)) (by decide) | exact absurd ((Eq.symm _h).trans (show _ = false by assumption)) (by decide) | (conv => whnf))) | (intro _h; ((first | replace _h := of_decide_eq_true _h | replace _h := of_decide_eq_false _h | skip); (try simp only [Bool.not_eq_true', Bool.not_eq_false', Bool.not_true, Bool.not_false, decide_eq_true_eq, decide_eq_false_iff_not] at _h); (try (guard_hyp _h : True; clear _h)); first | done | contradiction | exact absurd ((Eq.symm _h).trans (show _ = true by assumption)) (by decide) | exact absurd ((Eq.symm _h).trans (show _ = false by assumption)) (by decide) | (conv => whnf)))))
        · rw [bit_u8 hcb.1 hcb.2 m' (by omega), hbit] at _h
          refine acallI (h.short rsq.2.1 rb.2.1 rsq.1 rb.1 rb.2.2.1) rfl fun r hr => ?_
          obtain ⟨z, rfl, hz⟩ := hr
          have rz := rep_short h.hinv rsq rb hz
          ((conv => whnf); repeat' (first | (refine And.intro ?_ ?_; (focus (first | rfl | decide | assumption | omega | decide +kernel | exact ⟨rfl, rfl⟩ | exact ⟨rfl, rfl, rfl, rfl⟩ | exact fun h => Bool.noConfusion h | exact fun _ => rfl | exact Nat.le_of_ble_eq_true rfl | (simp only [List.length_map, List.length_append, List.length_replicate, List.length_take, List.length_drop, List.length_set, List.length_cons, List.length_nil]; omega))); (conv => whnf)) | ((refine And.intro ?_ ?_ <;> intro _h); all_goals ((first | replace _h := of_decide_eq_true _h | replace _h := of_decide_eq_false _h | skip); (try simp only [Bool.not_eq_true', Bool.not_eq_false', Bool.not_true, Bool.not_false, decide_eq_true_eq, decide_eq_false_iff_not] at _h); (try (guard_hyp _h : True; clear _h)); first | done | contradiction | exact absurd ((Eq.symm _h).trans (show _ = true by assumption)) (by decide) | exact absurd ((Eq.symm _h).trans (show _ = false by assumption)) (by decide) | (conv => whnf))) | (intro _h; ((first | replace _h := of_decide_eq_true _h | replace _h := of_decide_eq_false _h | skip); (try simp only [Bool.not_eq_true', Bool.not_eq_false', Bool.not_true, Bool.not_false, decide_eq_true_eq, decide_eq_false_iff_not] at _h); (try (guard_hyp _h : True; clear _h)); first | done | contradiction | exact absurd ((Eq.symm _h).trans (show _ = true by assumption)) (by decide) | exact absurd ((Eq.symm _h).trans (show _ = false by assumption)) (by decide) | (conv => whnf)))))
          refine ⟨(m', z), [], by dsimp only; omega, ⟨by dsimp only; omega, ?_⟩, rfl, ?_⟩
          · dsimp only
            rw [hes, show c.toNat / 2 ^ m' % 2 = 1 by omega, Int.pow_succ]
            exact rz
          · (refine ⟨rfl, rfl, ?_, ?_⟩ <;> repeat' (first | exact True.intro | rfl | decide | (refine And.intro ?_ ?_)))
            refine di ?_
            rw [wrap_i64 (by omega) (by omega)]
        · rw [bit_u8 hcb.1 hcb.2 m' (by omega), hbit] at _h
          refine ⟨(m', sq), [], by dsimp only; omega, ⟨by dsimp only; omega, ?_⟩, rfl, ?_⟩
          · dsimp only
            rw [hes, show c.toNat / 2 ^ m' % 2 = 0 by omega, Nat.add_zero]
            exact rsq
          · (refine ⟨rfl, rfl, ?_, ?_⟩ <;> repeat' (first | exact True.intro | rfl | decide | (refine And.intro ?_ ?_)))
            refine di ?_
            rw [wrap_i64 (by omega) (by omega)]
      · have hm0 : m = 0 := by omega
        subst hm0
        refine ⟨(i + 1, o2), [], by dsimp only; omega, ⟨by dsimp only; omega, ?_⟩, rfl, ?_⟩
        · dsimp only
          have hc' : exp.getD i 0 = c := hc
          rw [take_snoc (by omega), ev_snoc, hc']
          simpa using hro2
        · (refine ⟨rfl, rfl, ?_, ?_⟩ <;> repeat' (first | exact True.intro | rfl | decide | (refine And.intro ?_ ?_)))
          refine di ?_
          rw [wrap_i64 (by omega) (by omega)]; rfl
    · have hie : i = exp.length := by omega
      subst hie
      have h1v : val (oneL n.length) < val n := by
        rw [oneL_val hnp]
        exact h.h1
      refine acallI (h.short hro.2.1 (oneL_wf n.length) hro.1 (oneL_len _) h1v) rfl fun r hr => ?_
      obtain ⟨z, rfl, hz⟩ := hr
      ((conv => whnf); repeat' (first | (refine And.intro ?_ ?_; (focus (first | rfl | decide | assumption | omega | decide +kernel | exact ⟨rfl, rfl⟩ | exact ⟨rfl, rfl, rfl, rfl⟩ | exact fun h => Bool.noConfusion h | exact fun _ => rfl | exact Nat.le_of_ble_eq_true rfl | (simp only [List.length_map, List.length_append, List.length_replicate, List.length_take, List.length_drop, List.length_set, List.length_cons, List.length_nil]; omega))); (conv => whnf)) | ((refine And.intro ?_ ?_ <;> intro _h); all_goals ((first | replace _h := of_decide_eq_true _h | replace _h := of_decide_eq_false _h | skip); (try simp only [Bool.not_eq_true', Bool.not_eq_false', Bool.not_true, Bool.not_false, decide_eq_true_eq, decide_eq_false_iff_not] at _h); (try (guard_hyp _h : True; clear _h)); first | done | contradiction | exact absurd ((Eq.symm _h).trans (show _ = true by assumption)) (by decide) | exact absurd ((Eq.symm _h).trans (show _ = false by assumption)) (by decide) | (conv => whnf))) | (intro _h; ((first | replace _h := of_decide_eq_true _h | replace _h := of_decide_eq_false _h | skip); (try simp only [Bool.not_eq_true', Bool.not_eq_false', Bool.not_true, Bool.not_false, decide_eq_true_eq, decide_eq_false_iff_not] at _h); (try (guard_hyp _h : True; clear _h)); first | done | contradiction | exact absurd ((Eq.symm _h).trans (show _ = true by assumption)) (by decide) | exact absurd ((Eq.symm _h).trans (show _ = false by assumption)) (by decide) | (conv => whnf)))))
      refine Ends.imm rfl ?_
      rw [if_neg (by simp [h1]), if_neg (by omega)]
      refine ⟨z, rfl, hz.1, hz.2.1, ?_⟩
      have := rep_out h.hinv hro (oneL_val hnp) hz
      rwa [List.take_of_length_le (Nat.le_refl _)] at this

end Go.Proofs.YtniaeiikdgbnfaaDoor.R
namespace Go.Proofs.YtniaeiikdgbnfaaDoor.R

/-- What digits are worth: the lowest first. -/
def dval : List Int → Int
  | [] => 0
  | x :: xs => x + 256 * dval xs

def wfd (xs : List Int) : Prop := ∀ x ∈ xs, 0 ≤ x ∧ x < 256

theorem wfd.cons {x : Int} {xs : List Int} (h : wfd (x :: xs)) : (0 ≤ x ∧ x < 256) ∧ wfd xs := ⟨h x (by simp), fun y hy => h y (by simp [hy])⟩
theorem wfd.append {xs ys : List Int} (h1 : wfd xs) (h2 : wfd ys) : wfd (xs ++ ys) := fun x hx => by
  rcases List.mem_append.1 hx with h | h
  · exact h1 x h
  · exact h2 x h
theorem wfd.take {xs : List Int} (h : wfd xs) (n : Nat) : wfd (xs.take n) := fun x hx => h x (List.mem_of_mem_take hx)
theorem wfd.drop {xs : List Int} (h : wfd xs) (n : Nat) : wfd (xs.drop n) := fun x hx => h x (List.mem_of_mem_drop hx)
theorem wfd.get {xs : List Int} (h : wfd xs) (i : Nat) : 0 ≤ xs.getD i 0 ∧ xs.getD i 0 < 256 := by
  rw [List.getD_eq_getElem?_getD]
  rcases Nat.lt_or_ge i xs.length with hi | hi
  · rw [List.getElem?_eq_getElem hi]; exact h _ (List.getElem_mem hi)
  · rw [List.getElem?_eq_none hi]; simp
theorem wfd.one {x : Int} (h : 0 ≤ x ∧ x < 256) : wfd [x] := fun y hy => by simp at hy; subst hy; exact h
theorem wfd.set {xs : List Int} (h : wfd xs) (i : Nat) {x : Int} (hx : 0 ≤ x ∧ x < 256) : wfd (xs.set i x) := fun y hy => by
  rcases List.mem_or_eq_of_mem_set hy with h' | h'
  · exact h y h'
  · subst h'; exact hx

/-- The weight of digit number n. -/
def dpw (n : Nat) : Int := 256 ^ n
theorem dpw_zero : dpw 0 = 1 := rfl
theorem dpw_succ (n : Nat) : dpw (n + 1) = dpw n * 256 := Int.pow_succ ..
theorem dpw_pos (n : Nat) : 0 < dpw n := Int.pow_pos (by omega)
theorem dval_append : ∀ (xs ys : List Int), dval (xs ++ ys) = dval xs + dpw xs.length * dval ys
  | [], ys => by simp [dval, dpw_zero]
  | x :: xs, ys => by
    simp only [List.cons_append, dval, dval_append xs ys, List.length_cons, dpw_succ, Int.mul_add, Int.add_assoc]
    rw [Int.mul_comm (dpw xs.length) 256, Int.mul_assoc]
theorem dval_snoc (xs : List Int) (x : Int) : dval (xs ++ [x]) = dval xs + dpw xs.length * x := by
  rw [dval_append]; simp [dval]

theorem dval_nonneg : ∀ {xs : List Int}, wfd xs → 0 ≤ dval xs
  | [], _ => by simp [dval]
  | x :: xs, h => by
    have := dval_nonneg h.cons.2
    have := h.cons.1
    simp only [dval]; omega
theorem dval_lt : ∀ {xs : List Int}, wfd xs → dval xs < dpw xs.length
  | [], _ => by simp [dval, dpw_zero]
  | x :: xs, h => by
    have := dval_lt h.cons.2
    have := h.cons.1
    simp only [dval, List.length_cons, dpw_succ]; omega

/-- Without noughts at its upper end. -/
def trimmed (xs : List Int) : Prop := xs = [] ∨ xs.getD (xs.length - 1) 0 ≠ 0

end Go.Proofs.YtniaeiikdgbnfaaDoor.R
namespace Go.Proofs.YtniaeiikdgbnfaaDoor.R
open Go Go.RowKit Go.Proofs Go.Proofs.YtniaeiikdgbnfaaDoor.AW
set_option linter.unusedSectionVars false
variable [Globs]
set_option maxRecDepth 100000
set_option linter.unusedSimpArgs false
set_option linter.unusedVariables false
set_option maxHeartbeats 4000000

abbrev digs (xs : List Int) : D := .ints .i64 xs

/-- Is the one not less than the other, from above? -/
theorem dvstep (xs : List Int) : dval xs = xs.getD 0 0 + 256 * dval xs.tail := by
  cases xs with
  | nil => simp [dval]
  | cons x xs => simp [dval]
theorem wfd.tail {xs : List Int} (h : wfd xs) : wfd xs.tail := fun x hx => h x (List.mem_of_mem_tail hx)
def told31 : AW.Told := ⟨fun _ => false, fun _ _ => [], fun r => if r == 4 then .take 0 (.take 1 (.take 2 (.take 3 (.take 4 (.take 5 (.take 6 (.take 7 (.take 8 .done))))))))
  else if r == 5 then .take 0 (.take 1 (.take 2 (.take 3 (.take 4 (.take 5 (.take 6 (.take 7 (.take 8 (.take 9 .done))))))))) else .done⟩

def told32 : AW.Told := ⟨fun _ => false, fun _ _ => [], fun r => if r == 4 then .take 0 (.take 1 (.take 2 (.take 3 (.take 4 (.take 5 (.take 6 (.take 7 (.take 8 (.take 9 (.take 10 (.take 11 .done))))))))))) else .done⟩



def told26 : AW.Told := ⟨fun _ => false, fun _ _ => [], fun r => if r == 8 || r == 10 then .take 0 (.take 1 (.take 2 (.take 3 (.take 4 (.take 5 (.take 6 (.take 7 (.take 8 .done)))))))) else .done⟩


theorem pw_two (n : Nat) : pw n = 2 ^ (32 * n) := by
  unfold pw
  rw [Int.pow_mul]
  rfl
theorem val_take_succ {m : List Int} {i : Nat} (h : i < m.length) : val (m.take (i + 1)) = val (m.take i) + pw i * m.getD i 0 := by
  rw [take_snoc h, val_snoc, List.length_take, Nat.min_eq_left (by omega)]

def told12 : AW.Told := ⟨fun _ => false, fun r i => if r == 11 && i == 1 then [29] else [], fun _ => .done⟩

def told20 : AW.Told := ⟨fun _ => false, fun r i => if r == 14 && i == 1 then [65] else [], fun r => if r == 11 then .take 0 (.take 1 (.take 2 (.take 3 (.take 4 (.take 5 (.take 6 (.take 7 (.take 8 (.take 9 (.take 10 (.take 11 .done))))))))))) else .done⟩

end Go.Proofs.YtniaeiikdgbnfaaDoor.R
