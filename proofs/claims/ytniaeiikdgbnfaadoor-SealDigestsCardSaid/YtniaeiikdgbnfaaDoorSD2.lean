/- Parts AW6, AW7, AW8. No condition of its own. -/
import Derived.Test.YtniaeiikdgbnfaaDoorSD1

namespace Go.Proofs.YtniaeiikdgbnfaaDoor.AW
open Go Go.RowKit
set_option linter.unusedSectionVars false
set_option linter.unusedSimpArgs false
variable [Globs]

section
variable {P : Program} {C : Ctx} {s : AState} {β : Nat → Option Value} {S : Nat → Prop} {a : Act} {w : World}

theorem vrel_int {k : IntKind} {n : Int} (h : k.wrap n = n) : VRel w β S (.d (.int k n)) (.int k n) := by
  simp only [VRel, Rep]; exact ⟨_, ⟨rfl, h⟩, rfl⟩
theorem vrel_bool {b : Bool} : VRel w β S (.d (.bool b)) (.bool b) := by simp only [VRel, Rep]; exact ⟨_, rfl, rfl⟩
theorem d_bool {v : Value} {b : Bool} (hx : VRel w β S (.d (.bool b)) v) : v = .bool b := by
  simp only [VRel, Rep] at hx; obtain ⟨cs, rfl, rfl⟩ := hx; rfl
theorem d_str {v : Value} {xs : List Int} (hx : VRel w β S (.d (.str xs)) v) : ∃ s, v = .string s ∧ bytesOf s = xs ∧ s.size ≤ LIM := by
  simp only [VRel, Rep] at hx; obtain ⟨cs, ⟨s, rfl, h⟩, rfl⟩ := hx; exact ⟨s, rfl, h⟩
theorem d_nilp {v : Value} (hx : VRel w β S (.d .nilp) v) : v = .pointer none := by
  simp only [VRel, Rep] at hx; obtain ⟨cs, rfl, rfl⟩ := hx; rfl
theorem d_ptr {v : Value} {x : D} (hx : VRel w β S (.d (.ptr x)) v) : ∃ a, v = .pointer (some a) := by
  simp only [VRel, Rep] at hx; obtain ⟨cs, ⟨b, o, rfl, _⟩, rfl⟩ := hx; exact ⟨_, rfl⟩
theorem o_ptr {v : Value} {j o : Nat} (hx : VRel w β S (.optr j o) v) : ∃ a, v = .pointer (some a) := by
  simp only [VRel] at hx; obtain ⟨b, _, rfl⟩ := hx; exact ⟨_, rfl⟩
theorem d_ints {v : Value} {k : IntKind} {xs : List Int} (hx : VRel w β S (.d (.ints k xs)) v) : ∃ A c, v = .slice A xs.length c ∧ xs.length ≤ c ∧ xs.length ≤ LIM ∧ (∀ x ∈ xs, k.wrap x = x) ∧
      (xs ≠ [] → ∃ b o, A = some ⟨b, o, none⟩ ∧ S b ∧ Cells w b o (xs.map (Value.int k))) := by
  simp only [VRel, Rep] at hx; obtain ⟨cs, ⟨A, c, rfl, h⟩, rfl⟩ := hx; exact ⟨A, c, rfl, h⟩
theorem d_sl {v : Value} {sz : Nat} {es : List D} (hx : VRel w β S (.d (.sl sz es)) v) : ∃ A c, v = .slice A es.length c ∧ es.length ≤ c ∧ es.length ≤ LIM ∧
      (es ≠ [] → ∃ b o, A = some ⟨b, o, none⟩ ∧ S b ∧ RepRow w S sz es b o) := by
  simp only [VRel, Rep] at hx; obtain ⟨cs, ⟨A, c, rfl, h⟩, rfl⟩ := hx; exact ⟨A, c, rfl, h⟩

theorem len_wrap {n : Nat} (h : n ≤ LIM) : IntKind.i64.wrap (n : Int) = n := by
  rw [wrap_in]; unfold LIM at h; simp [loK, hiK]; omega

theorem bytesOf_length (s : ByteArray) : (bytesOf s).length = s.size := by simp [bytesOf]
theorem bytesOf_get (s : ByteArray) (i : Nat) (h : i < s.size) : (bytesOf s)[i]? = some (s[i].toNat : Int) := by
  simp [bytesOf, h]; rfl

theorem agInts_rep {w : World} {S : Nat → Prop} : ∀ (ds : List D) (cs : List Value) {k : IntKind} {xs : List Int}, agInts ds = some (k, xs) → RepAll w S ds cs → cs = xs.map (Value.int k) ∧ (∀ x ∈ xs, k.wrap x = x) ∧ xs ≠ []
  | [], cs, k, xs, h, _ => by simp [agInts] at h
  | [.int k0 n], cs, k, xs, h, hr => by
    simp only [agInts, Option.some.injEq, Prod.mk.injEq] at h
    obtain ⟨rfl, rfl⟩ := h
    simp only [RepAll, Rep] at hr
    obtain ⟨c1, c2, rfl, ⟨rfl, h2⟩, rfl⟩ := hr
    simp [h2]
  | .int k0 n :: d :: r, cs, k, xs, h, hr => by
    simp only [agInts] at h
    split at h
    · rename_i k' xs' h'
      split at h
      · rename_i e
        subst e
        simp only [Option.some.injEq, Prod.mk.injEq] at h
        obtain ⟨rfl, rfl⟩ := h
        rw [RepAll] at hr
        obtain ⟨c1, c2, rfl, h1, h2⟩ := hr
        simp only [Rep] at h1
        obtain ⟨rfl, h1⟩ := h1
        have ih := agInts_rep (d :: r) c2 h' h2
        refine ⟨by simp [ih.1], fun x hx => ?_, by simp⟩
        rcases List.mem_cons.1 hx with rfl | hx
        · exact h1
        · exact ih.2.1 x hx
      · cases h
    · cases h
  | .bool _ :: _, _, _, _, h, _ => by simp [agInts] at h
  | .str _ :: _, _, _, _, h, _ => by simp [agInts] at h
  | .raw _ :: _, _, _, _, h, _ => by simp [agInts] at h
  | .ints _ _ :: _, _, _, _, h, _ => by simp [agInts] at h
  | .sl _ _ :: _, _, _, _, h, _ => by simp [agInts] at h
  | .ptr _ :: _, _, _, _, h, _ => by simp [agInts] at h
  | .nilp :: _, _, _, _, h, _ => by simp [agInts] at h
  | .agg _ :: _, _, _, _, h, _ => by simp [agInts] at h
  | .fn _ _ :: _, _, _, _, h, _ => by simp [agInts] at h

theorem allD_spec : ∀ {xs : List AVal} {ds : List D}, allD xs = some ds → xs = ds.map AVal.d
  | [], ds, h => by simp [allD] at h; subst h; rfl
  | .d x :: r, ds, h => by
    simp only [allD] at h
    split at h
    · rename_i ds' h1
      injection h with h; subst h
      rw [allD_spec h1]; rfl
    · cases h
  | .any :: r, ds, h | .un :: r, ds, h | .em _ :: r, ds, h | .nls _ :: r, ds, h | .own _ :: r, ds, h | .view _ _ _ :: r, ds, h | .optr _ _ :: r, ds, h | .ag _ _ :: r, ds, h | .tup _ :: r, ds, h | .ofn _ _ :: r, ds, h => by simp [allD] at h

theorem agInts_vals : ∀ (ds : List D) (vs : List Value) {k : IntKind} {xs : List Int}, agInts ds = some (k, xs) → VAll w β S (ds.map AVal.d) vs → vs = xs.map (Value.int k) ∧ ∀ x ∈ xs, k.wrap x = x
  | [], vs, k, xs, h, _ => by simp [agInts] at h
  | [.int k0 n], vs, k, xs, h, hv => by
    simp only [agInts, Option.some.injEq, Prod.mk.injEq] at h
    obtain ⟨rfl, rfl⟩ := h
    simp only [List.map_cons, List.map_nil, VAll] at hv
    obtain ⟨v, r, rfl, h1, rfl⟩ := hv
    obtain ⟨rfl, h2⟩ := d_int h1
    simp [h2]
  | .int k0 n :: d :: r, vs, k, xs, h, hv => by
    simp only [agInts] at h
    split at h
    · rename_i k' xs' h'
      split at h
      · rename_i e
        subst e
        simp only [Option.some.injEq, Prod.mk.injEq] at h
        obtain ⟨rfl, rfl⟩ := h
        rw [List.map_cons, VAll] at hv
        obtain ⟨v, q, rfl, h1, h2⟩ := hv
        obtain ⟨rfl, h3⟩ := d_int h1
        have ih := agInts_vals (d :: r) q h' h2
        refine ⟨by simp [ih.1], fun x hx => ?_⟩
        rcases List.mem_cons.1 hx with rfl | hx
        · exact h3
        · exact ih.2 x hx
      · cases h
    · cases h
  | .bool _ :: _, _, _, _, h, _ => by simp [agInts] at h
  | .str _ :: _, _, _, _, h, _ => by simp [agInts] at h
  | .raw _ :: _, _, _, _, h, _ => by simp [agInts] at h
  | .ints _ _ :: _, _, _, _, h, _ => by simp [agInts] at h
  | .sl _ _ :: _, _, _, _, h, _ => by simp [agInts] at h
  | .ptr _ :: _, _, _, _, h, _ => by simp [agInts] at h
  | .nilp :: _, _, _, _, h, _ => by simp [agInts] at h
  | .agg _ :: _, _, _, _, h, _ => by simp [agInts] at h
  | .fn _ _ :: _, _, _, _, h, _ => by simp [agInts] at h

theorem qIndex_sound {t : TypeId} {x i : AVal} {v u : Value} {K : AVal → Prop} (hx : VRel w β S x v) (hi : VRel w β S i u) (hq : qIndex P t x i K) :
    ∃ y r, Runs0 P w (Instr.index t v u) y ∧ VRel w β S r y ∧ K r := by
  unfold qIndex at hq
  split at hq
  · rename_i k n hd
    obtain ⟨rfl, hkn⟩ := dv_int hi hd
    split at hq
    · rename_i hu
      split at hq
      · rename_i xs
        obtain ⟨h0, hlt, hK⟩ := hq
        obtain ⟨s, rfl, rfl, hl⟩ := d_str hx
        rw [bytesOf_length] at hlt
        have hlt' : n.toNat < s.size := by omega
        have hg := bytesOf_get s n.toNat hlt'
        refine ⟨.int .u8 s[n.toNat].toNat, _, fun w' _ => ?_, ?_, hK⟩
        · have : s[n.toNat]? = some s[n.toNat] := by simp [hlt']
          simp only [Instr.index, asIntOf, Sem.run_bind, Sem.run_pure, Result.andThen_ok, run_underlying hu, h0, if_true, this]
        · rw [List.getD, hg, Option.getD_some]
          refine vrel_int ?_
          rw [wrap_in]; simp [loK, hiK]; have := s[n.toNat].toNat_lt; omega
      · exact hq.elim
    · rename_i len e hu
      split at hq
      · rename_i ds
        split at hq
        · rename_i k' xs hag
          obtain ⟨h1, h2, hlen, h0, hlt, hK⟩ := hq
          simp only [VRel, Rep] at hx
          obtain ⟨cs, hall, rfl⟩ := hx
          obtain ⟨rfl, hwf, _⟩ := agInts_rep ds cs hag hall
          have hb : n.toNat < xs.length := by omega
          refine ⟨.int k' (xs.getD n.toNat 0), _, fun w' _ => ?_, vrel_int (hwf _ ?_), hK⟩
          · have hc : (0 ≤ n ∧ n < (len : Int)) = True := eq_true ⟨h0, by omega⟩
            have hg : (xs.map (Value.int k'))[n.toNat]? = some (.int k' (xs.getD n.toNat 0)) := by
              simp [hb]
            simp only [Instr.index, asIntOf, Sem.run_bind, Sem.run_pure, Result.andThen_ok, run_underlying hu, packD, hc, if_true, part, run_isAggT h1, run_sizeT h2, Bool.false_eq_true, if_false, Nat.mul_one]
            simp [hg]
          · rw [List.getD_eq_getElem?_getD, List.getElem?_eq_getElem hb, Option.getD_some]
            exact List.getElem_mem hb
        · exact hq.elim
      · rename_i cs
        split at hq
        · rename_i k' xs hag
          obtain ⟨h1, h2, hlen, h0, hlt, hK⟩ := hq
          obtain ⟨ds, hds, hag2⟩ := Option.bind_eq_some_iff.1 hag
          clear hag
          have hcs := allD_spec hds
          subst hcs
          simp only [VRel] at hx
          obtain ⟨vs, rfl, hall⟩ := hx
          obtain ⟨hvs, hwf⟩ := agInts_vals ds _ hag2 hall
          have hb : n.toNat < xs.length := by omega
          refine ⟨.int k' (xs.getD n.toNat 0), _, fun w' _ => ?_, vrel_int (hwf _ ?_), hK⟩
          · have hc : (0 ≤ n ∧ n < (len : Int)) = True := eq_true ⟨h0, by omega⟩
            have hg : vs[n.toNat]? = some (.int k' (xs.getD n.toNat 0)) := by
              rw [← Array.getElem?_toList, hvs]
              simp [hb]
            simp only [Instr.index, asIntOf, Sem.run_bind, Sem.run_pure, Result.andThen_ok, run_underlying hu, hc, if_true, part, run_isAggT h1, run_sizeT h2, Bool.false_eq_true, if_false, Nat.mul_one, hg]
          · rw [List.getD_eq_getElem?_getD, List.getElem?_eq_getElem hb, Option.getD_some]
            exact List.getElem_mem hb
        obtain ⟨h1, h2, h0, hlt, hq⟩ := hq
        split at hq
        · rename_i r hr
          simp only [VRel] at hx
          obtain ⟨vs, rfl, hall⟩ := hx
          obtain ⟨u, hu', hru⟩ := VAll.get _ _ hall _ _ hr
          refine ⟨u, r, fun w' _ => ?_, hru, hq⟩
          have hg : vs[n.toNat]? = some u := by simpa using hu'
          have hc : (0 ≤ n ∧ n < (len : Int)) = True := eq_true ⟨h0, by omega⟩
          simp only [Instr.index, asIntOf, Sem.run_bind, Sem.run_pure, Result.andThen_ok, run_underlying hu, hc, if_true, part, run_isAggT h1, run_sizeT h2, Bool.false_eq_true, if_false, Nat.mul_one, hg]
        · exact hq.elim
      · exact hq.elim
    · exact hq.elim
  · exact hq.elim

theorem qExtract_sound {x : AVal} {v : Value} {i : Nat} {K : AVal → Prop} (hx : VRel w β S x v) (hq : qExtract x i K) :
    ∃ y r, Runs0 P w (Instr.extract v i) y ∧ VRel w β S r y ∧ K r := by
  unfold qExtract at hq
  split at hq
  · rename_i vs
    split at hq
    · rename_i r hr
      simp only [VRel] at hx
      obtain ⟨us, rfl, hall⟩ := hx
      obtain ⟨u, hu, hru⟩ := VAll.get _ _ hall _ _ hr
      have : us[i]? = some u := by simpa using hu
      exact ⟨u, r, fun w' _ => by simp [Instr.extract, this], hru, hq⟩
    · exact hq.elim
  · exact hq.elim

theorem qLen_sound (h : ARelB C s β S a w) {t ty : TypeId} {x : AVal} {v : Value} {K : AVal → Prop} (hx : VRel w β S x v) (hq : qLen P s t x K) :
    ∃ y r, Runs0 P w (Builtin.len_ #[t] ty #[v]) y ∧ VRel w β S r y ∧ K r := by
  unfold qLen at hq
  split at hq
  · rename_i e hu
    have hrun : ∀ A n c w', (Builtin.len_ #[t] ty #[.slice A n c]).run P w' = .ok (.int .i64 n) w' := fun A n c w' => by
      simp [Builtin.len_, run_underlying hu, goInt]
    split at hq
    · obtain ⟨A, c, rfl, _, hl, _⟩ := d_ints hx
      exact ⟨_, _, fun w' _ => hrun A _ c w', vrel_int (len_wrap hl), hq⟩
    · obtain ⟨A, c, rfl, _, hl, _⟩ := d_sl hx
      exact ⟨_, _, fun w' _ => hrun A _ c w', vrel_int (len_wrap hl), hq⟩
    · simp only [VRel] at hx
      obtain ⟨⟨A, rfl⟩, _⟩ := hx
      exact ⟨_, _, fun w' _ => hrun A 0 0 w', vrel_int (by decide), hq⟩
    · simp only [VRel] at hx
      obtain ⟨rfl, _⟩ := hx
      exact ⟨_, _, fun w' _ => hrun none 0 0 w', vrel_int (by decide), hq⟩
    · rename_i j
      split at hq
      · rename_i k t' xs ho
        obtain ⟨bv, hβ0, hob⟩ := h.st.obj j _ (getO_mem ho)
        simp only [ORel] at hob
        simp only [VRel] at hx
        rw [hβ0] at hx; injection hx with hx; subst hx
        obtain ⟨A, c, hv⟩ : ∃ A c, bv = .slice A xs.length c := by
          rcases hob.1 with ⟨A, e1, e2, _⟩ | ⟨g, cap, cur, e1, _⟩
          · exact ⟨A, 0, by rw [e1, e2]⟩
          · exact ⟨_, cap, e1⟩
        rw [hv]
        exact ⟨_, _, fun w' _ => hrun A _ c w', vrel_int (len_wrap hob.2.2), hq⟩
      · rename_i t' sz es ho
        obtain ⟨bv, hβ0, hob⟩ := h.st.obj j _ (getO_mem ho)
        simp only [ORel] at hob
        obtain ⟨vs, hown, _, _, hl, _⟩ := hob
        simp only [VRel] at hx
        rw [hβ0] at hx; injection hx with hx; subst hx
        obtain ⟨A, c, hv⟩ : ∃ A c, bv = .slice A es.length c := by
          rcases hown with ⟨A, e1, e2, _⟩ | ⟨g, cap, cur, e1, _⟩
          · exact ⟨A, 0, by rw [e1, e2]⟩
          · exact ⟨_, cap, e1⟩
        rw [hv]
        exact ⟨_, _, fun w' _ => hrun A _ c w', vrel_int (len_wrap hl), hq⟩
      · exact hq.elim
    · rename_i j off len
      obtain ⟨hl, hK⟩ := hq
      simp only [VRel] at hx
      obtain ⟨A, c, rfl, _⟩ := hx
      exact ⟨_, _, fun w' _ => hrun A _ c w', vrel_int (len_wrap hl), hK⟩
    · exact hq.elim
  · rename_i hu
    split at hq
    · obtain ⟨s, rfl, rfl, hl⟩ := d_str hx
      rw [bytesOf_length] at hq
      exact ⟨_, _, fun w' _ => by simp [Builtin.len_, run_underlying hu, goInt], vrel_int (len_wrap hl), hq⟩
    · exact hq.elim
  · rename_i n e hu
    obtain ⟨hl, hK⟩ := hq
    exact ⟨_, _, fun w' _ => by cases v <;> simp [Builtin.len_, run_underlying hu, goInt] <;> rfl, vrel_int (len_wrap hl), hK⟩
  · exact hq.elim

theorem shr_in {k : IntKind} {n : Int} (m : Nat) (h : k.wrap n = n) : k.wrap (n / 2 ^ m) = n / 2 ^ m := by
  rw [wrap_in] at h ⊢
  have hp : (0 : Int) < 2 ^ m := Int.pow_pos (by decide)
  constructor
  · rw [Int.le_ediv_iff_mul_le hp]
    have : loK k ≤ 0 := by cases k <;> simp [loK]
    have h1 : (1 : Int) ≤ 2 ^ m := hp
    calc loK k * 2 ^ m ≤ loK k * 1 := Int.mul_le_mul_of_nonpos_left this h1
      _ ≤ n := by omega
  · rcases Int.lt_or_le n 0 with hn | hn
    · have : n / 2 ^ m < 0 := Int.ediv_neg_of_neg_of_pos hn hp
      have : 0 ≤ hiK k := by cases k <;> simp [hiK]
      omega
    · exact Int.le_trans (Int.ediv_le_self _ hn) h.2

theorem emod_le_self {a b : Int} (h : 0 ≤ a) : a % b ≤ a := by
  obtain ⟨n, rfl⟩ := Int.eq_ofNat_of_zero_le h
  show ((n % b.natAbs : Nat) : Int) ≤ n
  exact Int.ofNat_le.2 (Nat.mod_le _ _)

theorem tmod_in {k : IntKind} {a b : Int} (h : k.wrap a = a) : k.wrap (a.tmod b) = a.tmod b := by
  rw [wrap_in] at h ⊢
  have hlo : loK k ≤ 0 := by cases k <;> simp [loK]
  have hhi : 0 ≤ hiK k := by cases k <;> simp [hiK]
  rcases Int.lt_or_le a 0 with hn | hn
  · have e : a.tmod b = -((-a).tmod b) := by rw [Int.neg_tmod]; omega
    have h1 : 0 ≤ (-a).tmod b := Int.tmod_nonneg _ (by omega)
    have h2 : (-a).tmod b ≤ -a := by rw [Int.tmod_eq_emod_of_nonneg (by omega)]; exact emod_le_self (by omega)
    omega
  · have h1 : 0 ≤ a.tmod b := Int.tmod_nonneg _ hn
    have h2 : a.tmod b ≤ a := by rw [Int.tmod_eq_emod_of_nonneg hn]; exact emod_le_self hn
    omega

theorem run_eqGuard {w : World} {op : BinOp} {t : TypeId} {x y : Operand} {u v : Value} (h1 : ∀ c, u = .agg c → False) (h2 : u = .nilIface → False) : (eqGuard op t x y u v).run P w = .ok () w := by
  unfold eqGuard
  cases u <;> simp_all <;> cases op <;> simp

theorem qInts_sound {op : BinOp} {k : IntKind} {x y : Int} {K : AVal → Prop} (hx : k.wrap x = x) (hs : op ≠ .shl ∧ op ≠ .shr) (hq : qInts op k x y K) (t : TypeId) :
    ∃ u r, (∀ w' : World, (binOp op t (.int k x) (.int k y)).run P w' = .ok u w') ∧ VRel w β S r u ∧ K r := by
  unfold qInts at hq
  split at hq
  case h_1 => exact ⟨_, _, fun w' => by simp [binOp, Op.intArith], vrel_int (wrap_wrap _ _), hq⟩
  case h_2 => exact ⟨_, _, fun w' => by simp [binOp, Op.intArith], vrel_int (wrap_wrap _ _), hq⟩
  case h_3 => exact ⟨_, _, fun w' => by simp [binOp, Op.intArith], vrel_int (wrap_wrap _ _), hq⟩
  case h_4 => exact ⟨_, _, fun w' => by simp [binOp, Op.intDiv, hq.1], vrel_int (wrap_wrap _ _), hq.2⟩
  case h_5 => exact ⟨_, _, fun w' => by simp [binOp, Op.intDiv, hq.1], vrel_int (tmod_in hx), hq.2⟩
  case h_6 => exact ⟨_, _, fun w' => by simp [binOp, Op.intBits]; rfl, vrel_int (by simp [bitsK, wrap_wrap]), hq⟩
  case h_7 => exact ⟨_, _, fun w' => by simp [binOp, Op.intBits]; rfl, vrel_int (by simp [bitsK, wrap_wrap]), hq⟩
  case h_8 => exact ⟨_, _, fun w' => by simp [binOp, Op.intBits]; rfl, vrel_int (by simp [bitsK, wrap_wrap]), hq⟩
  case h_9 => exact ⟨_, _, fun w' => by simp only [binOp, Op.intBits, ne_eq, not_true_eq_false, if_false]; rfl, vrel_int (by simp [bitsK, wrap_wrap]), hq⟩
  case h_10 => exact ⟨.bool (decide (x = y)), _, fun w' => by simp [binOp, Op.intCmp]; rfl, vrel_bool, hq⟩
  case h_11 => exact ⟨.bool (!decide (x = y)), _, fun w' => by simp [binOp, Op.intCmp, bne]; rfl, vrel_bool, hq⟩
  case h_12 => exact ⟨_, _, fun w' => by simp [binOp, Op.intCmp], vrel_bool, hq⟩
  case h_13 => exact ⟨_, _, fun w' => by simp [binOp, Op.intCmp], vrel_bool, hq⟩
  case h_14 => exact ⟨_, _, fun w' => by simp [binOp, Op.intCmp], vrel_bool, hq⟩
  case h_15 => exact ⟨_, _, fun w' => by simp [binOp, Op.intCmp], vrel_bool, hq⟩
  case h_16 => exact hq.elim

theorem toList_data (z : ByteArray) : z.toList = z.data.toList := by
  unfold ByteArray.toList
  have : ∀ i r, ByteArray.toList.loop z i r = r.reverse ++ z.data.toList.drop i := by
    intro i r
    induction h : z.size - i generalizing i r with
    | zero =>
      rw [ByteArray.toList.loop, if_neg (by omega), List.drop_eq_nil_of_le (by simpa using (by omega : z.size ≤ i))]; simp
    | succ n ih =>
      rw [ByteArray.toList.loop, if_pos (by omega), ih (i+1) _ (by omega)]
      have hi : i < z.data.toList.length := by simpa using (by omega : i < z.size)
      rw [List.drop_eq_getElem_cons hi]
      simp [ByteArray.get!, getElem!_pos, show i < z.size by omega]
  simpa using this 0 []

theorem bytes_inj {x y : ByteArray} (h : bytesOf x = bytesOf y) : x.toList = y.toList := by
  have e : ∀ z : ByteArray, z.toList = z.data.toList := toList_data
  rw [e, e]
  unfold bytesOf at h
  exact List.map_inj_right (fun a b hab => by exact UInt8.toNat_inj.1 (by omega)) |>.1 h

theorem str_eq (x y : ByteArray) : (x.toList == y.toList) = decide (bytesOf x = bytesOf y) := by
  rw [Bool.eq_iff_iff]
  simp only [beq_iff_eq, decide_eq_true_eq]
  constructor
  · intro h
    have e : ∀ z : ByteArray, z.toList = z.data.toList := toList_data
    rw [e, e] at h
    simp [bytesOf, h]
  · exact bytes_inj

theorem bytesLess_eq : ∀ (x y : List UInt8), Op.bytesLess x y = strLt (x.map fun b => (b.toNat : Int)) (y.map fun b => (b.toNat : Int))
  | [], [] => rfl
  | _ :: _, [] => rfl
  | [], _ :: _ => rfl
  | a :: x, b :: y => by
    simp only [Op.bytesLess, List.map_cons, strLt, bytesLess_eq x y]
    congr 1
    · rw [decide_eq_decide, UInt8.lt_iff_toNat_lt]; omega
    · congr 1
      rw [Bool.eq_iff_iff]
      simp only [beq_iff_eq, decide_eq_true_eq, ← UInt8.toNat_inj]
      omega
theorem str_lt (x y : ByteArray) : Op.bytesLess x.toList y.toList = strLt (bytesOf x) (bytesOf y) := by
  rw [bytesLess_eq, toList_data, toList_data]; rfl

theorem eqIn_bool {w : World} {t : TypeId} (hu : P.underlying t = some .bool) (x y : Bool) (d : Nat) : (Op.equalIn (d + 1) t (.bool x) (.bool y)).run P w = .ok (x == y) w := by
  simp [Op.equalIn, run_underlying hu]
theorem eqIn_nil {w : World} {t e : TypeId} (hu : P.underlying t = some (.slice e)) (A : Option Addr) (n c : Nat) (d : Nat) : (Op.equalIn (d + 1) t (.slice A n c) (.slice none 0 0)).run P w = .ok A.isNone w := by
  cases A <;> simp [Op.equalIn, run_underlying hu]
theorem eqIn_ptr {w : World} {t e : TypeId} (hu : P.underlying t = some (.pointer e)) (A : Option Addr) (d : Nat) : (Op.equalIn (d + 1) t (.pointer A) (.pointer none)).run P w = .ok A.isNone w := by
  cases A <;> simp [Op.equalIn, run_underlying hu]
theorem eqIn_ptr' {w : World} {t e : TypeId} (hu : P.underlying t = some (.pointer e)) (A : Option Addr) (d : Nat) : (Op.equalIn (d + 1) t (.pointer none) (.pointer A)).run P w = .ok A.isNone w := by
  cases A <;> simp [Op.equalIn, run_underlying hu]

theorem run_eql {w : World} {t : TypeId} {x y : Value} {b : Bool} (hb : ∀ d, (Op.equalIn (d + 1) t x y).run P w = .ok b w) : (Op.equal t x y).run P w = .ok b w := hb 9999

theorem qNilSl_sound (h : ARelB C s β S a w) {x : AVal} {u : Value} {K : Bool → Prop} (hx : VRel w β S x u) (hq : qNilSl x s K) : ∃ A n c, u = .slice A n c ∧ K A.isNone := by
  have own : ∀ {t : TypeId} {sz : Nat} {v : Value} {n : Nat} {vs : List Value}, OwnsV w t sz v n vs → ∃ A c, v = .slice A n c ∧ (A = none → n = 0) := fun hv => by
    rcases hv with ⟨A, e1, e2, _⟩ | ⟨g, cap, cur, e1, _⟩
    · exact ⟨A, 0, by rw [e1, e2], fun _ => e2⟩
    · exact ⟨_, cap, e1, by simp⟩
  unfold qNilSl at hq
  split at hq
  · simp only [VRel] at hx
    obtain ⟨⟨A, rfl⟩, _⟩ := hx
    refine ⟨A, 0, 0, rfl, ?_⟩
    cases A
    · exact hq.1
    · exact hq.2
  · simp only [VRel] at hx
    obtain ⟨rfl, _⟩ := hx
    exact ⟨none, 0, 0, rfl, hq⟩
  · obtain ⟨A, c, rfl, _, _, _, hne⟩ := d_ints hx
    refine ⟨A, _, c, rfl, ?_⟩
    cases A with
    | none =>
      refine hq.1 (Classical.byContradiction fun e => ?_)
      obtain ⟨b, o, e, _⟩ := hne e
      cases e
    | some A => exact hq.2
  · obtain ⟨A, c, rfl, _, _, hne⟩ := d_sl hx
    refine ⟨A, _, c, rfl, ?_⟩
    cases A with
    | none =>
      refine hq.1 (Classical.byContradiction fun e => ?_)
      obtain ⟨b, o, e, _⟩ := hne e
      cases e
    | some A => exact hq.2
  · rename_i j
    split at hq
    · rename_i k t' xs ho
      obtain ⟨bv, hβ0, hob⟩ := h.st.obj j _ (getO_mem ho)
      simp only [ORel] at hob
      simp only [VRel] at hx
      rw [hβ0] at hx; injection hx with hx; subst hx
      obtain ⟨A, c, e, hA⟩ := own hob.1
      refine ⟨A, _, c, e, ?_⟩
      cases A with
      | none => exact hq.1 (List.eq_nil_of_length_eq_zero (hA rfl))
      | some A => exact hq.2
    · rename_i t' sz es ho
      obtain ⟨bv, hβ0, hob⟩ := h.st.obj j _ (getO_mem ho)
      simp only [ORel] at hob
      obtain ⟨vs, hown, _⟩ := hob
      simp only [VRel] at hx
      rw [hβ0] at hx; injection hx with hx; subst hx
      obtain ⟨A, c, e, hA⟩ := own hown
      refine ⟨A, _, c, e, ?_⟩
      cases A with
      | none => exact hq.1 (List.eq_nil_of_length_eq_zero (hA rfl))
      | some A => exact hq.2
    · exact hq.elim
  · exact hq.elim

theorem qBin_sound (h : ARelB C s β S a w) {op : BinOp} {t : TypeId} {x y : AVal} {u v : Value} {K : AVal → Prop} (hx : VRel w β S x u) (hy : VRel w β S y v) (hq : qBin P s op t x y K) (ox oy : Operand) :
    ∃ z r, Runs0 P w (do eqGuard op t ox oy u v; binOp op t u v) z ∧ VRel w β S r z ∧ K r := by
  have guard : ∀ {w' : World}, (∀ c, u = .agg c → False) → (u = .nilIface → False) → (do eqGuard op t ox oy u v; binOp op t u v : Sem Value).run P w' = (binOp op t u v).run P w' := fun h1 h2 => by
    simp only [Sem.run_bind, run_eqGuard h1 h2, Result.andThen_ok]
  suffices H : (∀ c, u = .agg c → False) ∧ (u = .nilIface → False) ∧ ∃ z r, Runs0 P w (binOp op t u v) z ∧ VRel w β S r z ∧ K r by
    obtain ⟨h1, h2, z, r, h3, h4⟩ := H
    exact ⟨z, r, fun w' hw => by rw [guard h1 h2]; exact h3 w' hw, h4⟩
  unfold qBin at hq
  split at hq
  · obtain ⟨rfl, hk⟩ := d_int hx
    obtain ⟨rfl, hk'⟩ := d_int hy
    obtain ⟨h0, hK⟩ := hq
    refine ⟨by simp, by simp, _, _, fun w' _ => ?_, vrel_int (wrap_wrap _ _), hK⟩
    simp [binOp, Op.shift, Int.not_lt.2 h0]
  · rename_i k n k' m
    obtain ⟨rfl, hk⟩ := d_int hx
    obtain ⟨rfl, hk'⟩ := d_int hy
    obtain ⟨h0, hK⟩ := hq
    refine ⟨by simp, by simp, .int k (n / 2 ^ (min m.toNat k.bits)), _, fun w' _ => ?_, vrel_int (shr_in _ hk), hK⟩
    have : (0 : Int) ≤ 2 ^ (min m.toNat k.bits) := Int.le_of_lt (Int.pow_pos (by decide))
    simp [binOp, Op.shift, Int.not_lt.2 h0, Int.fdiv_eq_ediv_of_nonneg _ this]
  · rename_i k n k' m h1 h2
    obtain ⟨rfl, hk⟩ := d_int hx
    obtain ⟨rfl, hk'⟩ := d_int hy
    obtain ⟨rfl, hK⟩ := hq
    have hs : op ≠ .shl ∧ op ≠ .shr := by
      constructor
      · intro e; first | exact h1 e | exact h1 _ _ e rfl | exact h1 _ _ _ _ e rfl rfl | exact h1 _ _ _ e rfl rfl
      · intro e; first | exact h2 e | exact h2 _ _ e rfl | exact h2 _ _ _ _ e rfl rfl | exact h2 _ _ _ e rfl rfl
    obtain ⟨z, r, h3, h4, h5⟩ := qInts_sound (P := P) (w := w) (β := β) (S := S) hk hs hK t
    exact ⟨by simp, by simp, z, r, fun w' _ => h3 w', h4, h5⟩
  · obtain ⟨x', rfl, rfl, _⟩ := d_str hx
    obtain ⟨y', rfl, rfl, _⟩ := d_str hy
    exact ⟨by simp, by simp, _, _, fun w' _ => by simp only [binOp, Op.stringOp, str_eq, Sem.run_pure], vrel_bool, hq⟩
  · obtain ⟨x', rfl, rfl, _⟩ := d_str hx
    obtain ⟨y', rfl, rfl, _⟩ := d_str hy
    exact ⟨by simp, by simp, _, _, fun w' _ => by simp only [binOp, Op.stringOp, str_eq, Sem.run_pure], vrel_bool, hq⟩
  · obtain ⟨x', rfl, rfl, _⟩ := d_str hx
    obtain ⟨y', rfl, rfl, _⟩ := d_str hy
    exact ⟨by simp, by simp, _, _, fun w' _ => by simp only [binOp, Op.stringOp, str_eq, str_lt, Sem.run_pure], vrel_bool, hq⟩
  · obtain ⟨x', rfl, rfl, _⟩ := d_str hx
    obtain ⟨y', rfl, rfl, _⟩ := d_str hy
    exact ⟨by simp, by simp, _, _, fun w' _ => by simp only [binOp, Op.stringOp, str_eq, str_lt, Sem.run_pure], vrel_bool, hq⟩
  · obtain ⟨x', rfl, rfl, _⟩ := d_str hx
    obtain ⟨y', rfl, rfl, _⟩ := d_str hy
    exact ⟨by simp, by simp, _, _, fun w' _ => by simp only [binOp, Op.stringOp, str_eq, str_lt, Sem.run_pure], vrel_bool, hq⟩
  · obtain ⟨x', rfl, rfl, _⟩ := d_str hx
    obtain ⟨y', rfl, rfl, _⟩ := d_str hy
    exact ⟨by simp, by simp, _, _, fun w' _ => by simp only [binOp, Op.stringOp, str_eq, str_lt, Sem.run_pure], vrel_bool, hq⟩
  · obtain ⟨x', rfl, rfl, hl⟩ := d_str hx
    obtain ⟨y', rfl, rfl, hl'⟩ := d_str hy
    obtain ⟨hlen, hK⟩ := hq
    rw [bytesOf_length, bytesOf_length] at hlen
    have hmax : ¬ ((x'.size + y'.size : Nat) : Int) > IntKind.i64.max := by
      unfold LIM at hlen
      simp only [IntKind.max, IntKind.signed, IntKind.bits]; simp; omega
    refine ⟨by simp, by simp, .string (x' ++ y'), _, fun w' _ => ?_, ?_, hK⟩
    · simp only [binOp, Op.stringOp, hmax, if_false, Sem.run_pure]
    · simp only [VRel, Rep]
      refine ⟨_, ⟨_, rfl, by simp [bytesOf], ?_⟩, rfl⟩
      simp; exact hlen
  · obtain ⟨hu, hK⟩ := hq
    have e1 := d_bool hx; have e2 := d_bool hy
    subst e1; subst e2
    refine ⟨by simp, by simp, _, _, fun w' _ => ?_, vrel_bool, hK⟩
    simp only [binOp, Sem.run_bind, run_eql (eqIn_bool hu _ _), Result.andThen_ok, Sem.run_pure]
    rfl
  · obtain ⟨hu, hK⟩ := hq
    have e1 := d_bool hx; have e2 := d_bool hy
    subst e1; subst e2
    refine ⟨by simp, by simp, _, _, fun w' _ => ?_, vrel_bool, hK⟩
    simp only [binOp, Sem.run_bind, run_eql (eqIn_bool hu _ _), Result.andThen_ok, Sem.run_pure]
    rfl
  · split at hq
    · rename_i e hu
      split at hq
      · simp only [VRel] at hy
        obtain ⟨rfl, _⟩ := hy
        obtain ⟨A, n, c, rfl, hK⟩ := qNilSl_sound h hx hq
        refine ⟨by simp, by simp, .bool (A.isNone), _, fun w' _ => ?_, vrel_bool, hK⟩
        simp only [binOp, Sem.run_bind, run_eql (eqIn_nil hu A n c), Result.andThen_ok, Sem.run_pure]
      · exact hq.elim
    · rename_i e hu
      split at hq
      · have e1 := d_nilp hx; have e2 := d_nilp hy
        subst e1; subst e2
        refine ⟨by simp, by simp, _, _, fun w' _ => ?_, vrel_bool, hq⟩
        simp only [binOp, Sem.run_bind, run_eql (eqIn_ptr hu _), Result.andThen_ok, Sem.run_pure]; rfl
      · have e2 := d_nilp hy; obtain ⟨p, e1⟩ := d_ptr hx
        subst e1; subst e2
        refine ⟨by simp, by simp, _, _, fun w' _ => ?_, vrel_bool, hq⟩
        simp only [binOp, Sem.run_bind, run_eql (eqIn_ptr hu _), Result.andThen_ok, Sem.run_pure]; rfl
      · have e2 := d_nilp hx; obtain ⟨p, e1⟩ := d_ptr hy
        subst e1; subst e2
        refine ⟨by simp, by simp, _, _, fun w' _ => ?_, vrel_bool, hq⟩
        simp only [binOp, Sem.run_bind, run_eql (eqIn_ptr' hu _), Result.andThen_ok, Sem.run_pure]; rfl
      · have e2 := d_nilp hy; obtain ⟨p, e1⟩ := o_ptr hx
        subst e1; subst e2
        refine ⟨by simp, by simp, _, _, fun w' _ => ?_, vrel_bool, hq⟩
        simp only [binOp, Sem.run_bind, run_eql (eqIn_ptr hu _), Result.andThen_ok, Sem.run_pure]; rfl
      · have e2 := d_nilp hx; obtain ⟨p, e1⟩ := o_ptr hy
        subst e1; subst e2
        refine ⟨by simp, by simp, _, _, fun w' _ => ?_, vrel_bool, hq⟩
        simp only [binOp, Sem.run_bind, run_eql (eqIn_ptr' hu _), Result.andThen_ok, Sem.run_pure]; rfl
      · exact hq.elim
    · exact hq.elim
  · split at hq
    · rename_i e hu
      split at hq
      · simp only [VRel] at hy
        obtain ⟨rfl, _⟩ := hy
        obtain ⟨A, n, c, rfl, hK⟩ := qNilSl_sound h hx hq
        refine ⟨by simp, by simp, .bool (!A.isNone), _, fun w' _ => ?_, vrel_bool, hK⟩
        simp only [binOp, Sem.run_bind, run_eql (eqIn_nil hu A n c), Result.andThen_ok, Sem.run_pure]
      · exact hq.elim
    · rename_i e hu
      split at hq
      · have e1 := d_nilp hx; have e2 := d_nilp hy
        subst e1; subst e2
        refine ⟨by simp, by simp, _, _, fun w' _ => ?_, vrel_bool, hq⟩
        simp only [binOp, Sem.run_bind, run_eql (eqIn_ptr hu _), Result.andThen_ok, Sem.run_pure]; rfl
      · have e2 := d_nilp hy; obtain ⟨p, e1⟩ := d_ptr hx
        subst e1; subst e2
        refine ⟨by simp, by simp, _, _, fun w' _ => ?_, vrel_bool, hq⟩
        simp only [binOp, Sem.run_bind, run_eql (eqIn_ptr hu _), Result.andThen_ok, Sem.run_pure]; rfl
      · have e2 := d_nilp hx; obtain ⟨p, e1⟩ := d_ptr hy
        subst e1; subst e2
        refine ⟨by simp, by simp, _, _, fun w' _ => ?_, vrel_bool, hq⟩
        simp only [binOp, Sem.run_bind, run_eql (eqIn_ptr' hu _), Result.andThen_ok, Sem.run_pure]; rfl
      · have e2 := d_nilp hy; obtain ⟨p, e1⟩ := o_ptr hx
        subst e1; subst e2
        refine ⟨by simp, by simp, _, _, fun w' _ => ?_, vrel_bool, hq⟩
        simp only [binOp, Sem.run_bind, run_eql (eqIn_ptr hu _), Result.andThen_ok, Sem.run_pure]; rfl
      · have e2 := d_nilp hx; obtain ⟨p, e1⟩ := o_ptr hy
        subst e1; subst e2
        refine ⟨by simp, by simp, _, _, fun w' _ => ?_, vrel_bool, hq⟩
        simp only [binOp, Sem.run_bind, run_eql (eqIn_ptr' hu _), Result.andThen_ok, Sem.run_pure]; rfl
      · exact hq.elim
    · exact hq.elim
  · exact hq.elim

end
end Go.Proofs.YtniaeiikdgbnfaaDoor.AW
namespace Go.Proofs.YtniaeiikdgbnfaaDoor.AW
open Go Go.RowKit
set_option linter.unusedSectionVars false
variable [Globs]

section
variable {P : Program} {C : Ctx} {s : AState} {β : Nat → Option Value} {S : Nat → Prop} {a : Act} {w : World}

theorem qUn_sound {op : UnOp} {x : AVal} {v : Value} {K : AVal → Prop} (hx : VRel w β S x v) (hq : qUn op x K) :
    ∃ z r, Runs0 P w (Op.unary op v) z ∧ VRel w β S r z ∧ K r := by
  unfold qUn at hq
  split at hq
  · have e := d_bool hx; subst e
    exact ⟨_, _, fun w' _ => by simp only [Op.unary, Sem.run_pure], vrel_bool, hq⟩
  · obtain ⟨rfl, hk⟩ := d_int hx
    exact ⟨_, _, fun w' _ => by simp only [Op.unary, Op.intArith, Sem.run_pure], vrel_int (wrap_wrap _ _), hq⟩
  · obtain ⟨rfl, hk⟩ := d_int hx
    exact ⟨_, _, fun w' _ => by simp only [Op.unary, Op.intBits, Sem.run_pure]; rfl, vrel_int (by simp [bitsK, wrap_wrap]), hq⟩
  · exact hq.elim

theorem loadCells_list {w : World} {b o : Nat} {cs : List Value} (h : Cells w b o cs) {n : Nat} (hn : cs.length = n) : (loadCells ⟨b, o, none⟩ n).run P w = .ok cs.toArray w := by
  subst hn; exact loadCells_run h

theorem bytes_fold {w : World} (f : Value → ByteArray → Sem (ForInStep ByteArray)) (hf : ∀ n r, f (.int .u8 n) r = pure (ForInStep.yield (r.push (UInt8.ofNat n.toNat)))) :
    ∀ (xs : List Int) (s : ByteArray), (∀ x ∈ xs, IntKind.u8.wrap x = x) → ∃ r : ByteArray, (forIn (xs.map (Value.int .u8)) s f : Sem ByteArray).run P w = .ok r w ∧ bytesOf r = bytesOf s ++ xs
  | [], s, _ => ⟨s, by simp, by simp⟩
  | x :: xs, s, h => by
    obtain ⟨r, h1, h2⟩ := bytes_fold f hf xs (s.push (UInt8.ofNat x.toNat)) (fun y hy => h y (List.mem_cons_of_mem _ hy))
    refine ⟨r, ?_, ?_⟩
    · simp only [List.map_cons, List.forIn_cons, hf, Sem.run_bind, Sem.run_pure, Result.andThen_ok]
      exact h1
    · rw [h2]
      have := (wrap_in.1 (h x (by simp)))
      simp [loK, hiK] at this
      simp [bytesOf, ByteArray.push]
      omega

theorem bytesToString_run {w : World} {b o n c : Nat} {xs : List Int} (hl : xs.length = n) (hwf : ∀ x ∈ xs, IntKind.u8.wrap x = x) (hc : Cells w b o (xs.map (Value.int .u8))) :
    ∃ r : ByteArray, (Conv.bytesToString (.slice (some ⟨b, o, none⟩) n c)).run P w = .ok (.string r) w ∧ bytesOf r = xs := by
  unfold Conv.bytesToString
  simp only [Sem.run_bind, loadCells_list hc (by simpa using hl), Result.andThen_ok]
  simp only [← Array.forIn_toList]
  generalize hf : (fun (c : Value) (r : ByteArray) => (_ : Sem (ForInStep ByteArray))) = f
  obtain ⟨r, h1, h2⟩ := bytes_fold (P := P) (w := w) f (fun n r => by rw [← hf]) xs .empty hwf
  refine ⟨r, ?_, by rw [h2]; simp [bytesOf]⟩
  rw [h1]
  simp

theorem qConv_sound (h : ARelB C s β S a w) {src dst : TypeId} {x : AVal} {v : Value} {K : AVal → Prop} (hx : VRel w β S x v) (hq : qConv P src dst x K) :
    ∃ z r, Runs P w (convert src dst v) z ∧ VRel w β S r z ∧ K r := by
  unfold qConv at hq
  split at hq
  · rename_i k' k k'' n h1 h2
    obtain ⟨rfl, hk⟩ := d_int hx
    exact ⟨_, _, fun w' _ => by simp only [convert, Sem.run_bind, run_underlying h1, run_underlying h2, Result.andThen_ok, Conv.intToInt, Sem.run_pure], vrel_int (wrap_wrap _ _), hq⟩
  · rename_i xs h1 h2
    obtain ⟨s', rfl, hs⟩ := d_str hx
    refine ⟨.string s', _, fun w' _ => by simp only [convert, Sem.run_bind, run_underlying h1, run_underlying h2, Result.andThen_ok, Sem.run_pure], ?_, hq⟩
    simp only [VRel, Rep]; exact ⟨_, ⟨s', rfl, hs⟩, rfl⟩
  · rename_i e xs h1 h2
    obtain ⟨hu, hK⟩ := hq
    obtain ⟨A, c, rfl, hle, hl, hwf, hne⟩ := d_ints hx
    by_cases hxs : xs = []
    · subst hxs
      cases A with
      | none =>
        refine ⟨.string .empty, _, fun w' _ => ?_, ?_, hK⟩
        · simp only [convert, Sem.run_bind, run_underlying h1, run_underlying h2, run_underlying hu, Result.andThen_ok, Conv.bytesToString, Sem.run_pure]
        · simp only [VRel, Rep]; exact ⟨_, ⟨_, rfl, rfl, by simp⟩, rfl⟩
      | some A =>
        refine ⟨.string .empty, _, fun w' _ => ?_, ?_, hK⟩
        · simp [convert, run_underlying h1, run_underlying h2, run_underlying hu, Conv.bytesToString, loadCells, loadCellsFrom]
        · simp only [VRel, Rep]; exact ⟨_, ⟨_, rfl, rfl, by simp⟩, rfl⟩
    · obtain ⟨b, o, rfl, hb, hc⟩ := hne hxs
      have hrun : ∀ w', Ext w w' → ∃ r : ByteArray, (Conv.bytesToString (.slice (some ⟨b, o, none⟩) xs.length c)).run P w' = .ok (.string r) w' ∧ bytesOf r = xs := fun w' hw =>
        bytesToString_run rfl hwf (hc.keep (hw b (h.st.inS b hb)))
      obtain ⟨r, h3, h4⟩ := hrun w (Ext.refl w)
      refine ⟨.string r, _, fun w' hw => ?_, ?_, hK⟩
      · obtain ⟨r', h5, h6⟩ := hrun w' hw
        have hr : r' = r := by
          have := bytes_inj (h6.trans h4.symm)
          rw [toList_data, toList_data] at this
          cases r; cases r'; simp_all [Array.toList_inj]
        subst hr
        simp only [convert, Sem.run_bind, run_underlying h1, run_underlying h2, run_underlying hu, Result.andThen_ok, h5]
      · simp only [VRel, Rep]
        exact ⟨_, ⟨r, rfl, h4, by rw [← bytesOf_length, h4]; exact hl⟩, rfl⟩
  · rename_i e y h1 h2
    obtain ⟨hu, hK⟩ := hq
    simp only [VRel] at hx
    obtain ⟨⟨A, rfl⟩, _⟩ := hx
    cases A with
    | none =>
      refine ⟨.string .empty, _, fun w' _ => ?_, ?_, hK⟩
      · simp only [convert, Sem.run_bind, run_underlying h1, run_underlying h2, run_underlying hu, Result.andThen_ok, Conv.bytesToString, Sem.run_pure]
      · simp only [VRel, Rep]; exact ⟨_, ⟨_, rfl, rfl, by simp⟩, rfl⟩
    | some A =>
      refine ⟨.string .empty, _, fun w' _ => ?_, ?_, hK⟩
      · simp [convert, run_underlying h1, run_underlying h2, run_underlying hu, Conv.bytesToString, loadCells, loadCellsFrom]
      · simp only [VRel, Rep]; exact ⟨_, ⟨_, rfl, rfl, by simp⟩, rfl⟩
  · rename_i e y h1 h2
    obtain ⟨hu, hK⟩ := hq
    simp only [VRel] at hx
    obtain ⟨rfl, _⟩ := hx
    refine ⟨.string .empty, _, fun w' _ => ?_, ?_, hK⟩
    · simp only [convert, Sem.run_bind, run_underlying h1, run_underlying h2, run_underlying hu, Result.andThen_ok, Conv.bytesToString, Sem.run_pure]
    · simp only [VRel, Rep]; exact ⟨_, ⟨_, rfl, rfl, by simp⟩, rfl⟩
  · exact hq.elim

/-- A bound's value. -/
def ORelV (w : World) (β : Nat → Option Value) (S : Nat → Prop) : Option AVal → Option Value → Prop
  | none, none => True
  | some x, some v => VRel w β S x v
  | _, _ => False

theorem qBound_sound {x : Option AVal} {v : Option Value} {d : Int} {K : Int → Prop} (hx : ORelV w β S x v) (hq : qBound x d K) :
    ∃ n, K n ∧ ((v = none ∧ n = d) ∨ ∃ k, v = some (.int k n)) := by
  unfold qBound at hq
  split at hq
  · cases v <;> simp [ORelV] at hx
    exact ⟨d, hq, .inl ⟨rfl, rfl⟩⟩
  · rename_i k n
    cases v <;> simp only [ORelV] at hx
    obtain ⟨rfl, _⟩ := d_int hx
    exact ⟨n, hq, .inr ⟨k, rfl⟩⟩
  · exact hq.elim

theorem sliceBound_run {w : World} {k : IntKind} {n : Int} {y : Nat} {c : BoundsCode} (h : 0 ≤ n ∧ n ≤ y) : (Instr.sliceBound (.int k n) y c).run P w = .ok n.toNat w := by
  simp [Instr.sliceBound, asIntOf, h]

theorem sliceBounds_run {w : World} {b : Bool} {len cap : Nat} {lo hi : Option Value} {l h : Int} (hcap : h ≤ cap) (hl : (lo = none ∧ l = 0) ∨ ∃ k, lo = some (.int k l)) (hh : (hi = none ∧ h = len) ∨ ∃ k, hi = some (.int k h))
    (h0 : 0 ≤ l) (h1 : l ≤ h) : (Instr.sliceBounds b len cap lo hi none).run P w = .ok (l.toNat, h.toNat, cap) w := by
  have e1 : (0 ≤ h ∧ h ≤ (cap : Int)) := ⟨by omega, hcap⟩
  have e2 : (0 ≤ l ∧ l ≤ (h.toNat : Int)) := ⟨h0, by omega⟩
  unfold Instr.sliceBounds
  rcases hl with ⟨rfl, rfl⟩ | ⟨k, rfl⟩ <;> rcases hh with ⟨rfl, rfl⟩ | ⟨k', rfl⟩
  · simp
  · simp only [Sem.run_bind, Sem.run_pure, Result.andThen_ok, sliceBound_run e1]; rfl
  · simp only [Int.toNat_natCast] at e2
    simp only [Sem.run_bind, Sem.run_pure, Result.andThen_ok, Int.toNat_natCast]
    simp [sliceBound_run e2]
  · simp only [Sem.run_bind, Sem.run_pure, Result.andThen_ok, sliceBound_run e1]
    simp [sliceBound_run e2]

theorem sliceBounds3_run {w : World} {b : Bool} {len cap : Nat} {lo hi : Option Value} {k : IntKind} (hl : lo = none ∨ ∃ k, lo = some (.int k 0)) (hh : ∃ k, hi = some (.int k 0)) :
    (Instr.sliceBounds b len cap lo hi (some (.int k 0))).run P w = .ok (0, 0, 0) w := by
  obtain ⟨k', rfl⟩ := hh
  unfold Instr.sliceBounds
  rcases hl with rfl | ⟨k'', rfl⟩ <;> simp [Instr.sliceBound, asIntOf]

theorem RepRow.take {sz : Nat} : ∀ (ds : List D) (b o n : Nat), RepRow w S sz ds b o → RepRow w S sz (ds.take n) b o
  | [], b, o, n, h => by simp [RepRow]
  | d :: ds, b, o, 0, h => by simp [RepRow]
  | d :: ds, b, o, n + 1, h => by
    simp only [RepRow, List.take_succ_cons] at h ⊢
    exact ⟨h.1, RepRow.take ds b _ n h.2⟩
theorem RepRow.drop {sz : Nat} : ∀ (ds : List D) (b o n : Nat), RepRow w S sz ds b o → RepRow w S sz (ds.drop n) b (o + n * sz)
  | [], b, o, n, h => by simp [RepRow]
  | d :: ds, b, o, 0, h => by simpa using h
  | d :: ds, b, o, n + 1, h => by
    simp only [RepRow, List.drop_succ_cons] at h ⊢
    have := RepRow.drop ds b _ n h.2
    rwa [show o + sz + n * sz = o + (n + 1) * sz by rw [Nat.add_mul]; omega] at this

theorem slice_run {w : World} {t e : TypeId} {sz : Nat} (hu : P.underlying t = some (.slice e)) (hsz : szT P e = some sz) {A : Option Addr} {len cap : Nat} {lo hi : Option Value} {l h : Int} (hcap : h ≤ cap)
    (hl : (lo = none ∧ l = 0) ∨ ∃ k, lo = some (.int k l)) (hh : (hi = none ∧ h = len) ∨ ∃ k, hi = some (.int k h)) (h0 : 0 ≤ l) (h1 : l ≤ h) :
    (Instr.sliceAt t (.slice A len cap) lo hi none).run P w = .ok (.slice (if cap = l.toNat then A else A.map (·.add (l.toNat * sz))) (h.toNat - l.toNat) (cap - l.toNat)) w := by
  simp only [Instr.sliceAt, Sem.run_bind, run_underlying hu, Result.andThen_ok, Instr.slice, sliceBounds_run hcap hl hh h0 h1, run_sizeT hsz, Sem.run_pure]

theorem slice3_run {w : World} {t e : TypeId} (hu : P.underlying t = some (.slice e)) (hsz : (szT P e).isSome = true) {A : Option Addr} {len cap : Nat} {lo hi : Option Value} {k : IntKind}
    (hl : lo = none ∨ ∃ k, lo = some (.int k 0)) (hh : ∃ k, hi = some (.int k 0)) :
    (Instr.sliceAt t (.slice A len cap) lo hi (some (.int k 0))).run P w = .ok (.slice A 0 0) w := by
  obtain ⟨sz, hsz⟩ := Option.isSome_iff_exists.1 hsz
  simp only [Instr.sliceAt, Sem.run_bind, run_underlying hu, Result.andThen_ok, Instr.slice, sliceBounds3_run hl hh, run_sizeT hsz, Sem.run_pure, if_true, Nat.sub_self]

theorem dropTake {α : Type} (xs : List α) (l h : Nat) : (xs.take h).drop l = (xs.drop l).take (h - l) := by
  rw [List.drop_take]

theorem ints_cut {k : IntKind} {xs : List Int} {A : Option Addr} {c : Nat} {l h : Int} (hle : xs.length ≤ c) (hl : xs.length ≤ LIM) (hwf : ∀ x ∈ xs, k.wrap x = x)
    (hne : xs ≠ [] → ∃ b o, A = some ⟨b, o, none⟩ ∧ S b ∧ Cells w b o (xs.map (Value.int k))) (h0 : 0 ≤ l) (h1 : l ≤ h) (h2 : h ≤ xs.length) :
    VRel w β S (.d (.ints k ((xs.take h.toNat).drop l.toNat))) (.slice (if c = l.toNat then A else A.map (·.add (l.toNat * 1))) (h.toNat - l.toNat) (c - l.toNat)) := by
  have hlen : ((xs.take h.toNat).drop l.toNat).length = h.toNat - l.toNat := by simp; omega
  simp only [VRel, Rep]
  refine ⟨_, ⟨_, _, rfl, ?_, ?_, ?_, ?_⟩, by rw [hlen]; rfl⟩
  · rw [hlen]; omega
  · rw [hlen]; omega
  · exact fun x hx => hwf x (List.mem_of_mem_take (List.mem_of_mem_drop hx))
  · intro hx
    have hpos : 0 < ((xs.take h.toNat).drop l.toNat).length := List.length_pos_iff.2 hx
    obtain ⟨b, o, rfl, hb, hc⟩ := hne (by intro e; subst e; simp at hpos)
    refine ⟨b, o + l.toNat, ?_, hb, ?_⟩
    · rw [if_neg (by omega)]; simp [addr_add]
    · have := hc.sub l.toNat (h.toNat - l.toNat)
      rw [dropTake]
      simpa [List.map_take, List.map_drop] using this

theorem sl_cut {sz : Nat} {es : List D} {A : Option Addr} {c : Nat} {l h : Int} (hle : es.length ≤ c) (hl : es.length ≤ LIM)
    (hne : es ≠ [] → ∃ b o, A = some ⟨b, o, none⟩ ∧ S b ∧ RepRow w S sz es b o) (h0 : 0 ≤ l) (h1 : l ≤ h) (h2 : h ≤ es.length) :
    VRel w β S (.d (.sl sz ((es.take h.toNat).drop l.toNat))) (.slice (if c = l.toNat then A else A.map (·.add (l.toNat * sz))) (h.toNat - l.toNat) (c - l.toNat)) := by
  have hlen : ((es.take h.toNat).drop l.toNat).length = h.toNat - l.toNat := by simp; omega
  simp only [VRel, Rep]
  refine ⟨_, ⟨_, _, rfl, ?_, ?_, ?_⟩, by rw [hlen]; rfl⟩
  · rw [hlen]; omega
  · rw [hlen]; omega
  · intro hx
    have hpos : 0 < ((es.take h.toNat).drop l.toNat).length := List.length_pos_iff.2 hx
    obtain ⟨b, o, rfl, hb, hc⟩ := hne (by intro e; subst e; simp at hpos)
    refine ⟨b, o + l.toNat * sz, ?_, hb, ?_⟩
    · rw [if_neg (by omega)]; simp [addr_add]
    · rw [dropTake]
      exact (hc.drop _ _ _ l.toNat).take _ _ _ _

theorem em_cut {x : D} {A : Option Addr} (he : emptyD x = true) : VRel w β S (.em x) (.slice A 0 0) := by
  simp only [VRel]; exact ⟨⟨A, rfl⟩, he⟩

theorem qSlice_sound (h : ARelB C s β S a w) {t : TypeId} {x : AVal} {v : Value} {lo hi mx : Option AVal} {lv hv mv : Option Value} {K : AVal → Prop} (hx : VRel w β S x v)
    (hlo : ORelV w β S lo lv) (hhi : ORelV w β S hi hv) (hmx : ORelV w β S mx mv) (hq : qSlice P s t x lo hi mx K) :
    ∃ z r, Runs0 P w (Instr.sliceAt t v lv hv mv) z ∧ VRel w β S r z ∧ K r := by
  unfold qSlice at hq
  split at hq
  · rename_i e hu
    split at hq
    · cases mv <;> simp only [ORelV] at hmx
      split at hq
      · rename_i k xs
        obtain ⟨hh, hq, hhv⟩ := qBound_sound hhi hq
        obtain ⟨l, ⟨h0, h1, h2, hsz, hK⟩, hlv⟩ := qBound_sound hlo hq
        obtain ⟨A, c, rfl, hle, hl, hwf, hne⟩ := d_ints hx
        exact ⟨_, _, fun w' _ => slice_run hu hsz (by omega) hlv hhv h0 h1, ints_cut hle hl hwf hne h0 h1 h2, hK⟩
      · rename_i sz es
        obtain ⟨hh, hq, hhv⟩ := qBound_sound hhi hq
        obtain ⟨l, ⟨h0, h1, h2, hsz, hK⟩, hlv⟩ := qBound_sound hlo hq
        obtain ⟨A, c, rfl, hle, hl, hne⟩ := d_sl hx
        exact ⟨_, _, fun w' _ => slice_run hu hsz (by omega) hlv hhv h0 h1, sl_cut hle hl hne h0 h1 h2, hK⟩
      · rename_i j
        split at hq
        · rename_i k t' xs ho
          obtain ⟨hh, hq, hhv⟩ := qBound_sound hhi hq
          obtain ⟨l, ⟨h0, h1, h2, hsz, hK⟩, hlv⟩ := qBound_sound hlo hq
          obtain ⟨bv, hβ0, hob⟩ := h.st.obj j _ (getO_mem ho)
          simp only [ORel] at hob
          simp only [VRel] at hx
          rw [hβ0] at hx; injection hx with hx; subst hx
          rcases hob.1 with ⟨A, e1, e2, _⟩ | ⟨g, cap, cur, e1, hcp, _, hle, _⟩
          · rw [e1]
            refine ⟨_, _, fun w' _ => slice_run (len := 0) (cap := 0) hu hsz (by omega) hlv (by rw [e2] at hhv; exact hhv) h0 h1, ?_, hK⟩
            simp only [VRel]
            exact ⟨_, _, rfl, by omega, fun h => by omega⟩
          · rw [e1]
            refine ⟨_, _, fun w' _ => slice_run hu hsz (by omega) hlv hhv h0 h1, ?_, hK⟩
            simp only [VRel]
            refine ⟨_, _, rfl, by omega, fun h => ⟨g, by rw [hβ0, e1]; simp [blk]; omega, ?_⟩⟩
            rw [if_neg (by omega)]; simp [addr_add]
        · exact hq.elim
      · rename_i j off len
        obtain ⟨hh, hq, hhv⟩ := qBound_sound hhi hq
        obtain ⟨l, ⟨h0, h1, h2, hsz, hK⟩, hlv⟩ := qBound_sound hlo hq
        simp only [VRel] at hx
        obtain ⟨A, c, rfl, hle, hA⟩ := hx
        refine ⟨_, _, fun w' _ => slice_run hu hsz (by omega) hlv hhv h0 h1, ?_, hK⟩
        simp only [VRel]
        refine ⟨_, _, rfl, by omega, fun h => ?_⟩
        obtain ⟨b, hb, rfl⟩ := hA (by omega)
        refine ⟨b, hb, ?_⟩
        rw [if_neg (by omega)]; simp [addr_add]
      · rename_i y
        obtain ⟨hh, hq, hhv⟩ := qBound_sound hhi hq
        obtain ⟨l, ⟨rfl, rfl, hsz, hK⟩, hlv⟩ := qBound_sound hlo hq
        simp only [VRel] at hx
        obtain ⟨⟨A, rfl⟩, he⟩ := hx
        obtain ⟨sz, hsz⟩ := Option.isSome_iff_exists.1 hsz
        exact ⟨_, _, fun w' _ => slice_run hu hsz (by omega) hlv hhv (by omega) (by omega), em_cut he, hK⟩
      · rename_i y
        obtain ⟨hh, hq, hhv⟩ := qBound_sound hhi hq
        obtain ⟨l, ⟨rfl, rfl, hsz, hK⟩, hlv⟩ := qBound_sound hlo hq
        simp only [VRel] at hx
        obtain ⟨rfl, he⟩ := hx
        obtain ⟨sz, hsz⟩ := Option.isSome_iff_exists.1 hsz
        exact ⟨_, _, fun w' _ => slice_run hu hsz (by omega) hlv hhv (by omega) (by omega), by simp only [VRel]; exact ⟨rfl, he⟩, hK⟩
      · exact hq.elim
    · rename_i k
      cases mv <;> simp only [ORelV] at hmx
      obtain ⟨rfl, _⟩ := d_int hmx
      have hh0 : ∀ {hh : Int}, hh = 0 → ((hv = none ∧ hh = 1) ∨ ∃ k, hv = some (.int k hh)) → ∃ k, hv = some (.int k 0) := fun e h => by
        subst e
        rcases h with ⟨_, h⟩ | h
        · omega
        · exact h
      have hl0 : ∀ {l : Int}, l = 0 → ((lv = none ∧ l = 0) ∨ ∃ k, lv = some (.int k l)) → lv = none ∨ ∃ k, lv = some (.int k 0) := fun e h => by
        subst e
        exact h.imp (·.1) id
      split at hq
      · rename_i k' xs
        obtain ⟨hh, hq, hhv⟩ := qBound_sound hhi hq
        obtain ⟨l, ⟨e1, e2, hsz, hK⟩, hlv⟩ := qBound_sound hlo hq
        obtain ⟨A, c, rfl, _⟩ := d_ints hx
        exact ⟨_, _, fun w' _ => slice3_run hu hsz (hl0 e1 hlv) (hh0 e2 hhv), em_cut rfl, hK⟩
      · rename_i k' xs
        obtain ⟨hh, hq, hhv⟩ := qBound_sound hhi hq
        obtain ⟨l, ⟨e1, e2, hsz, hK⟩, hlv⟩ := qBound_sound hlo hq
        obtain ⟨A, c, rfl, _⟩ := d_sl hx
        exact ⟨_, _, fun w' _ => slice3_run hu hsz (hl0 e1 hlv) (hh0 e2 hhv), em_cut rfl, hK⟩
      · obtain ⟨hh, hq, hhv⟩ := qBound_sound hhi hq
        obtain ⟨l, ⟨e1, e2, hsz, hK⟩, hlv⟩ := qBound_sound hlo hq
        simp only [VRel] at hx
        obtain ⟨⟨A, rfl⟩, he⟩ := hx
        exact ⟨_, _, fun w' _ => slice3_run hu hsz (hl0 e1 hlv) (hh0 e2 hhv), em_cut he, hK⟩
      · obtain ⟨hh, hq, hhv⟩ := qBound_sound hhi hq
        obtain ⟨l, ⟨e1, e2, hsz, hK⟩, hlv⟩ := qBound_sound hlo hq
        simp only [VRel] at hx
        obtain ⟨rfl, he⟩ := hx
        exact ⟨_, _, fun w' _ => slice3_run hu hsz (hl0 e1 hlv) (hh0 e2 hhv), by simp [VRel, he], hK⟩
      · exact hq.elim
    · exact hq.elim
  · rename_i n e hu
    split at hq
    · rename_i ds
      cases mv <;> simp only [ORelV] at hmx
      split at hq
      · rename_i k xs hds
        obtain ⟨hn, hlim, hq⟩ := hq
        obtain ⟨hh, hq, hhv⟩ := qBound_sound hhi hq
        obtain ⟨l, ⟨h0, h1, h2, hsz, hK⟩, hlv⟩ := qBound_sound hlo hq
        simp only [VRel, Rep] at hx
        obtain ⟨cs, ⟨b, o, rfl, hb, vs, hc, hr⟩, rfl⟩ := hx
        obtain ⟨rfl, hwf, hne⟩ := agInts_rep ds vs hds hr
        refine ⟨_, _, fun w' _ => ?_, ints_cut (A := some ⟨b, o, none⟩) (c := n) (l := l) (h := hh) (by omega) (by omega) hwf (fun _ => ⟨b, o, rfl, hb, hc⟩) h0 h1 (by omega), hK⟩
        simp only [Instr.sliceAt, Sem.run_bind, run_underlying hu, Result.andThen_ok, packD, List.headD, Instr.sureAddr, Sem.run_pure, sliceBounds_run (len := n) (cap := n) (by omega) hlv hhv h0 h1, run_sizeT hsz]
        by_cases e : n = l.toNat <;> simp [e]
      · exact hq.elim
    · exact hq.elim
  · rename_i hu
    split at hq
    · rename_i xs
      cases mv <;> simp only [ORelV] at hmx
      obtain ⟨hh, hq, hhv⟩ := qBound_sound hhi hq
      obtain ⟨l, ⟨h0, h1, h2, hK⟩, hlv⟩ := qBound_sound hlo hq
      obtain ⟨st, rfl, rfl, hl⟩ := d_str hx
      rw [bytesOf_length] at h2 hhv
      refine ⟨.string (st.extract l.toNat hh.toNat), _, fun w' _ => ?_, ?_, hK⟩
      · simp only [Instr.sliceAt, Sem.run_bind, run_underlying hu, Result.andThen_ok, Instr.slice, Option.isSome_none, Bool.false_eq_true, if_false, sliceBounds_run h2 hlv hhv h0 h1, Sem.run_pure]
      · simp only [VRel, Rep]
        refine ⟨_, ⟨_, rfl, ?_, ?_⟩, rfl⟩
        · simp [bytesOf, ByteArray.data_extract, List.map_take, List.map_drop, dropTake]
        · simp; omega
    · exact hq.elim
  · exact hq.elim

theorem vall_rep : ∀ {ds : List D} {vs : List Value}, (∀ d ∈ ds, d.isAgg = false) → VAll w β S (ds.map AVal.d) vs → RepAll w S ds vs
  | [], vs, _, h => by simp only [List.map_nil, VAll] at h; simp only [RepAll]; exact h
  | d :: ds, vs, h1, h => by
    simp only [List.map_cons, VAll, VRel] at h
    obtain ⟨v, r, rfl, ⟨cs, hr, rfl⟩, h2⟩ := h
    simp only [RepAll]
    have hd := h1 d (by simp)
    have hsz := Rep.size _ _ hr
    have : d.size = 1 := by cases d <;> simp_all [D.isAgg, D.size]
    rw [this] at hsz
    match cs, hsz with
    | [u], _ => exact ⟨[u], r, by simp [packD_one hd], hr, vall_rep (fun e he => h1 e (List.mem_cons_of_mem _ he)) h2⟩

theorem qFunc_sound {f : Fn} {first caps : List AVal} {fv cv : Array Value} {K : AVal → Prop} (hf : VAll w β S first fv.toList) (hc : VAll w β S caps cv.toList) (hq : qFunc f first caps K) :
    ∃ r, VRel w β S r (.func f fv cv) ∧ K r := by
  unfold qFunc at hq
  split at hq
  · simp only [VAll] at hf
    have : fv = #[] := by simpa using hf
    subst this
    split at hq
    · rename_i ds hd
      obtain ⟨h0, hK⟩ := hq
      have h1 := noAgg_spec h0
      refine ⟨_, ?_, hK⟩
      rw [allD_spec hd] at hc
      simp only [VRel, Rep]
      exact ⟨_, ⟨cv, rfl, vall_rep h1 hc⟩, rfl⟩
    · refine ⟨_, ?_, hq⟩
      simp only [VRel]
      exact ⟨cv, rfl, hc⟩
  · exact hq.elim

theorem max_k {k : IntKind} {x y : Int} (hx : k.wrap x = x) (hy : k.wrap y = y) : k.wrap (max x y) = max x y := by
  rcases Int.le_total x y with h | h
  · rw [Int.max_eq_right h]; exact hy
  · rw [Int.max_eq_left h]; exact hx
theorem min_k {k : IntKind} {x y : Int} (hx : k.wrap x = x) (hy : k.wrap y = y) : k.wrap (min x y) = min x y := by
  rcases Int.le_total x y with h | h
  · rw [Int.min_eq_left h]; exact hx
  · rw [Int.min_eq_right h]; exact hy

theorem max2_run {w : World} {k k' : IntKind} {x y : Int} : (Builtin.max2 (.int k x) (.int k' y)).run P w = .ok (.int k (max x y)) w := by
  simp only [Builtin.max2, Sem.run_pure]
  congr 2
  split <;> omega
theorem min2_run {w : World} {k k' : IntKind} {x y : Int} : (Builtin.min2 (.int k x) (.int k' y)).run P w = .ok (.int k (min x y)) w := by
  simp only [Builtin.min2, Sem.run_pure]
  congr 2
  split <;> omega

theorem qMinMax_sound {m : Bool} {xs : List AVal} {vs : List Value} {K : AVal → Prop} {ts : Array TypeId} {ty : TypeId} (hx : VAll w β S xs vs) (hq : qMinMax m xs K) :
    ∃ z r, Runs0 P w (if m = true then Builtin.max_ ts ty vs.toArray else Builtin.min_ ts ty vs.toArray) z ∧ VRel w β S r z ∧ K r := by
  unfold qMinMax at hq
  split at hq
  · simp only [VAll] at hx
    obtain ⟨v1, _, rfl, h1, v2, _, rfl, h2, rfl⟩ := hx
    obtain ⟨rfl, e1⟩ := d_int h1
    obtain ⟨rfl, e2⟩ := d_int h2
    obtain ⟨rfl, hK⟩ := hq
    exact ⟨_, _, fun w' _ => by simp [Builtin.max_, max2_run], vrel_int (by simpa using max_k e1 e2), hK⟩
  · simp only [VAll] at hx
    obtain ⟨v1, _, rfl, h1, v2, _, rfl, h2, v3, _, rfl, h3, rfl⟩ := hx
    obtain ⟨rfl, e1⟩ := d_int h1
    obtain ⟨rfl, e2⟩ := d_int h2
    obtain ⟨rfl, e3⟩ := d_int h3
    obtain ⟨rfl, rfl, hK⟩ := hq
    exact ⟨_, _, fun w' _ => by simp [Builtin.max_, max2_run], vrel_int (by simpa using max_k (max_k e1 e2) e3), hK⟩
  · simp only [VAll] at hx
    obtain ⟨v1, _, rfl, h1, v2, _, rfl, h2, v3, _, rfl, h3, v4, _, rfl, h4, rfl⟩ := hx
    obtain ⟨rfl, e1⟩ := d_int h1
    obtain ⟨rfl, e2⟩ := d_int h2
    obtain ⟨rfl, e3⟩ := d_int h3
    obtain ⟨rfl, e4⟩ := d_int h4
    obtain ⟨rfl, rfl, rfl, hK⟩ := hq
    exact ⟨_, _, fun w' _ => by simp [Builtin.max_, max2_run], vrel_int (by simpa using max_k (max_k (max_k e1 e2) e3) e4), hK⟩
  · simp only [VAll] at hx
    obtain ⟨v1, _, rfl, h1, v2, _, rfl, h2, rfl⟩ := hx
    obtain ⟨rfl, e1⟩ := d_int h1
    obtain ⟨rfl, e2⟩ := d_int h2
    obtain ⟨rfl, hK⟩ := hq
    exact ⟨_, _, fun w' _ => by simp [Builtin.min_, min2_run], vrel_int (by simpa using min_k e1 e2), hK⟩
  · simp only [VAll] at hx
    obtain ⟨v1, _, rfl, h1, v2, _, rfl, h2, v3, _, rfl, h3, rfl⟩ := hx
    obtain ⟨rfl, e1⟩ := d_int h1
    obtain ⟨rfl, e2⟩ := d_int h2
    obtain ⟨rfl, e3⟩ := d_int h3
    obtain ⟨rfl, rfl, hK⟩ := hq
    exact ⟨_, _, fun w' _ => by simp [Builtin.min_, min2_run], vrel_int (by simpa using min_k (min_k e1 e2) e3), hK⟩
  · simp only [VAll] at hx
    obtain ⟨v1, _, rfl, h1, v2, _, rfl, h2, v3, _, rfl, h3, v4, _, rfl, h4, rfl⟩ := hx
    obtain ⟨rfl, e1⟩ := d_int h1
    obtain ⟨rfl, e2⟩ := d_int h2
    obtain ⟨rfl, e3⟩ := d_int h3
    obtain ⟨rfl, e4⟩ := d_int h4
    obtain ⟨rfl, rfl, rfl, hK⟩ := hq
    exact ⟨_, _, fun w' _ => by simp [Builtin.min_, min2_run], vrel_int (by simpa using min_k (min_k (min_k e1 e2) e3) e4), hK⟩
  · exact hq.elim

/-! ### All of them: which operations these are, and what each asks -/
def quietOp : Op → Bool
  | .move _ | .assign _ | .pick .. | .load .. | .nilCheck _ | .binOp .. | .unOp .. | .convert .. | .makeFunc .. | .slice .. | .fieldAddr .. | .field .. | .indexAddr .. | .index .. | .extract .. => true
  | .call { callee := .builtin .len, .. } | .call { callee := .builtin .max, .. } | .call { callee := .builtin .min, .. } => true
  | _ => false

def aevO (P : Program) (s : AState) (ty : TypeId) (x : Option Operand) : Option AVal := x.map (aev P s ty)
def constBO (P : Program) (ty : TypeId) (x : Option Operand) : Bool := match x with | some x => constB P ty x | none => true
def constOkO (P : Program) (ty : TypeId) (x : Option Operand) : Prop := constBO P ty x = true

def constsB (P : Program) (ty : TypeId) : List Operand → Bool
  | [] => true
  | x :: r => constB P ty x && constsB P ty r
def constsOk (P : Program) (ty : TypeId) (xs : List Operand) : Prop := constsB P ty xs = true
theorem constsOk.all {P : Program} {ty : TypeId} : ∀ {xs : List Operand}, constsOk P ty xs → ∀ x ∈ xs, constOk P ty x
  | [], _, x, h => by simp at h
  | y :: r, hc, x, h => by
    simp only [constsOk, constsB, Bool.and_eq_true] at hc
    rcases List.mem_cons.1 h with rfl | h
    · exact hc.1
    · exact constsOk.all hc.2 x h

def qCall (P : Program) (s : AState) (ty : TypeId) (c : Call) (K : AVal → Prop) : Prop :=
  match c.callee with
  | .builtin b =>
    match b with
    | .len =>
      (match c.args.toList, c.argTypes.toList with
      | [x], [t] => constOk P t x ∧ qLen P s t (aev P s t x) K
      | _, _ => False)
    | .max => constsOk P ty c.args.toList ∧ qMinMax true (c.args.toList.map (aev P s ty)) K
    | .min => constsOk P ty c.args.toList ∧ qMinMax false (c.args.toList.map (aev P s ty)) K
    | _ => False
  | _ => False

/-- Which of them read the memory. -/
def readsO : Op → Bool
  | .load .. | .convert .. => true
  | _ => false

def aquiet (P : Program) (s : AState) (o : Oper) (K : AVal → Prop) : Prop :=
  match o.op with
  | .move x | .assign x => constOk P o.type x ∧ K (aev P s o.type x)
  | .pick c x y =>
    match aev P s o.type c with
    | .d (.bool b) => constOk P o.type c ∧ constOk P o.type x ∧ constOk P o.type y ∧ (b = true → K (aev P s o.type x)) ∧ (b = false → K (aev P s o.type y))
    | _ => False
  | .load t x => (constOk P 0 x) ∧ qLoad P s t (aev P s 0 x) K
  | .nilCheck x => (constOk P 0 x) ∧ qNil (aev P s 0 x) K
  | .binOp op t x y ty => (constOk P t x ∧ constOk P ty y) ∧ qBin P s op t (aev P s t x) (aev P s ty y) K
  | .unOp op t x => (constOk P t x) ∧ qUn op (aev P s t x) K
  | .convert src dst x => (constOk P src x) ∧ qConv P src dst (aev P s src x) K
  | .makeFunc f first caps => (constsOk P 0 first.toList ∧ constsOk P 0 caps.toList) ∧ qFunc f (first.toList.map (aev P s 0)) (caps.toList.map (aev P s 0)) K
  | .slice t x lo hi mx => (constOk P t x ∧ constOkO P 0 lo ∧ constOkO P 0 hi ∧ constOkO P 0 mx) ∧ qSlice P s t (aev P s t x) (aevO P s 0 lo) (aevO P s 0 hi) (aevO P s 0 mx) K
  | .fieldAddr t x f => (constOk P 0 x) ∧ qFieldAddr P t (aev P s 0 x) f K
  | .field t x f => (constOk P t x) ∧ qField P t (aev P s t x) f K
  | .indexAddr t x i => (constOk P t x ∧ constOk P 0 i) ∧ qIndexAddr P s t (aev P s t x) (aev P s 0 i) K
  | .index t x i => (constOk P t x ∧ constOk P 0 i) ∧ qIndex P t (aev P s t x) (aev P s 0 i) K
  | .extract x i => (constOk P 0 x) ∧ qExtract (aev P s 0 x) i K
  | .call c => qCall P s o.type c K
  | _ => False

theorem aevO_rel (h : ARelB C s β S a w) {ty : TypeId} {x : Option Operand} (hc : constOkO P ty x) : ORelV w β S (aevO P s ty x) (x.map a.eval) := by
  cases x with
  | none => simp [aevO, ORelV]
  | some x => simp only [aevO, Option.map_some, ORelV]; exact aev_rel h hc

theorem aevs_rel (h : ARelB C s β S a w) {ty : TypeId} : ∀ {xs : List Operand}, (∀ x ∈ xs, constOk P ty x) → VAll w β S (xs.map (aev P s ty)) (xs.map a.eval)
  | [], _ => by simp [VAll]
  | x :: xs, hc => by
    simp only [List.map_cons, VAll]
    exact ⟨_, _, rfl, aev_rel h (hc x (by simp)), aevs_rel h fun y hy => hc y (List.mem_cons_of_mem _ hy)⟩

theorem run_value {w : World} {m : Sem Value} {v : Value} (h : m.run P w = .ok v w) : (do pure (Next.value (← m)) : Sem Next).run P w = .ok (.value v) w := by
  simp only [Sem.run_bind, h, Result.andThen_ok, Sem.run_pure]

theorem aquiet_sound (h : ARelB C s β S a w) {o : Oper} {K : AVal → Prop} (hq : aquiet P s o K) :
    ∃ v r, (∀ w', (readsO o.op = true → Ext w w') → (execOp a.eval o).run P w' = .ok (.value v) w') ∧ VRel w β S r v ∧ K r := by
  obtain ⟨dst, op, type, pos, after, guard⟩ := o
  cases op <;> simp only [aquiet] at hq
  case move x => exact ⟨_, _, fun w' _ => rfl, aev_rel h hq.1, hq.2⟩
  case assign x => exact ⟨_, _, fun w' _ => rfl, aev_rel h hq.1, hq.2⟩
  case pick c x y =>
    split at hq
    · rename_i b hb
      obtain ⟨h1, h2, h3, hK⟩ := hq
      have hc := aev_rel h h1
      rw [hb] at hc
      have e := d_bool hc
      cases b
      · exact ⟨_, _, fun w' _ => by simp [execOp, e, asBool], aev_rel h h3, hK.2 rfl⟩
      · exact ⟨_, _, fun w' _ => by simp [execOp, e, asBool], aev_rel h h2, hK.1 rfl⟩
    · exact hq.elim
  case load t x =>
    obtain ⟨u, r, h1, h2, h3⟩ := qLoad_sound (P := P) h (aev_rel h hq.1) hq.2
    exact ⟨u, r, fun w' hw => run_value (h1 w' (hw rfl)), h2, h3⟩
  case nilCheck x =>
    obtain ⟨r, h1, h2, h3⟩ := qNil_sound (P := P) (o := ⟨dst, .nilCheck x, type, pos, after, guard⟩) (aev_rel h hq.1) hq.2 rfl rfl
    exact ⟨_, r, fun w' _ => h1 w', h2, h3⟩
  case binOp op t x y ty =>
    obtain ⟨u, r, h1, h2, h3⟩ := qBin_sound (P := P) h (aev_rel h hq.1.1) (aev_rel h hq.1.2) hq.2 x y
    exact ⟨u, r, fun w' hw => run_value (h1 w' trivial), h2, h3⟩
  case unOp op t x =>
    obtain ⟨u, r, h1, h2, h3⟩ := qUn_sound (P := P) (aev_rel h hq.1) hq.2
    exact ⟨u, r, fun w' hw => run_value (h1 w' trivial), h2, h3⟩
  case convert src dst x =>
    obtain ⟨u, r, h1, h2, h3⟩ := qConv_sound (P := P) h (aev_rel h hq.1) hq.2
    exact ⟨u, r, fun w' hw => run_value (h1 w' (hw rfl)), h2, h3⟩
  case makeFunc f first caps =>
    have e1 := aevs_rel h hq.1.1.all
    have e2 := aevs_rel h hq.1.2.all
    obtain ⟨r, h2, h3⟩ := qFunc_sound (fv := first.map a.eval) (cv := caps.map a.eval) (by simpa using e1) (by simpa using e2) hq.2
    exact ⟨_, r, fun w' _ => rfl, h2, h3⟩
  case slice t x lo hi mx =>
    obtain ⟨u, r, h1, h2, h3⟩ := qSlice_sound (P := P) h (aev_rel h hq.1.1) (aevO_rel h hq.1.2.1) (aevO_rel h hq.1.2.2.1) (aevO_rel h hq.1.2.2.2) hq.2
    exact ⟨u, r, fun w' hw => run_value (h1 w' trivial), h2, h3⟩
  case fieldAddr t x f =>
    obtain ⟨u, r, h1, h2, h3⟩ := qFieldAddr_sound (P := P) (aev_rel h hq.1) hq.2
    exact ⟨u, r, fun w' hw => run_value (h1 w' trivial), h2, h3⟩
  case field t x f =>
    obtain ⟨u, r, h1, h2, h3⟩ := qField_sound (P := P) (aev_rel h hq.1) hq.2
    exact ⟨u, r, fun w' hw => run_value (h1 w' trivial), h2, h3⟩
  case indexAddr t x i =>
    obtain ⟨u, r, h1, h2, h3⟩ := qIndexAddr_sound (P := P) h (aev_rel h hq.1.1) (aev_rel h hq.1.2) hq.2
    exact ⟨u, r, fun w' hw => run_value (h1 w' trivial), h2, h3⟩
  case index t x i =>
    obtain ⟨u, r, h1, h2, h3⟩ := qIndex_sound (P := P) (aev_rel h hq.1.1) (aev_rel h hq.1.2) hq.2
    exact ⟨u, r, fun w' hw => run_value (h1 w' trivial), h2, h3⟩
  case extract x i =>
    obtain ⟨u, r, h1, h2, h3⟩ := qExtract_sound (P := P) (aev_rel h hq.1) hq.2
    exact ⟨u, r, fun w' hw => run_value (h1 w' trivial), h2, h3⟩
  case call c =>
    obtain ⟨callee, args, ts⟩ := c
    unfold qCall at hq
    cases callee
    case value f => exact hq.elim
    case invoke r m => exact hq.elim
    rename_i b
    cases b
    all_goals (try (exact hq.elim))
    case len =>
      dsimp only at hq
      split at hq
      · rename_i x t e1 e2
        have e1 : args = #[x] := by apply Array.ext'; simpa using e1
        have e2 : ts = #[t] := by apply Array.ext'; simpa using e2
        subst e1; subst e2
        obtain ⟨u, r, h1, h2, h3⟩ := qLen_sound (P := P) (ty := type) h (aev_rel h hq.1) hq.2
        refine ⟨u, r, fun w' hw => ?_, h2, h3⟩
        have := run_value (h1 w' trivial)
        simpa [execOp, resolve, invoke, builtin] using this
      · exact hq.elim
    case max =>
      obtain ⟨u, r, h1, h2, h3⟩ := qMinMax_sound (P := P) (ts := ts) (ty := type) (aevs_rel h hq.1.all) hq.2
      refine ⟨u, r, fun w' hw => ?_, h2, h3⟩
      have := run_value (h1 w' trivial)
      rw [show (args.toList.map a.eval).toArray = args.map a.eval by apply Array.ext'; simp] at this
      simpa [execOp, resolve, invoke, builtin] using this
    case min =>
      obtain ⟨u, r, h1, h2, h3⟩ := qMinMax_sound (P := P) (ts := ts) (ty := type) (aevs_rel h hq.1.all) hq.2
      refine ⟨u, r, fun w' hw => ?_, h2, h3⟩
      have := run_value (h1 w' trivial)
      rw [show (args.toList.map a.eval).toArray = args.map a.eval by apply Array.ext'; simp] at this
      simpa [execOp, resolve, invoke, builtin] using this

end

mutual
/-- Does a value name object j? -/
def refs (j : Nat) : AVal → Bool
  | .own i => i == j
  | .view i _ _ => i == j
  | .optr i _ => i == j
  | .ag _ cs => refsL j cs
  | .tup cs => refsL j cs
  | .ofn _ cs => refsL j cs
  | _ => false
def refsL (j : Nat) : List AVal → Bool
  | [] => false
  | x :: xs => refs j x || refsL j xs
end

def dropV (j : Nat) (x : AVal) : AVal := if refs j x = true then .any else x
def dropOb (j : Nat) : Ob → Ob
  | .cell t cs => .cell t (cs.map (dropV j))
  | o => o

mutual
theorem VRel.keepR {w w' : World} {β β' : Nat → Option Value} {S S' : Nat → Prop} {j : Nat} (hS : ∀ b, S b → S' b ∧ w'.heap[b]? = w.heap[b]?) (hβ : ∀ i, i ≠ j → β' i = β i) :
    ∀ (x : AVal) (v : Value), refs j x = false → VRel w β S x v → VRel w' β' S' x v
  | .any, v, _, h => by simp only [VRel]
  | .un, v, _, h => by simpa only [VRel] using h
  | .d x, v, _, h => by
    simp only [VRel] at h ⊢
    obtain ⟨cs, h1, h2⟩ := h
    exact ⟨cs, h1.keep hS, h2⟩
  | .em x, v, _, h => by simpa only [VRel] using h
  | .nls x, v, _, h => by simpa only [VRel] using h
  | .own i, v, hr, h => by simp only [VRel] at h ⊢; rw [hβ i (by simpa [refs] using hr)]; exact h
  | .view i off len, v, hr, h => by simp only [VRel] at h ⊢; rw [hβ i (by simpa [refs] using hr)]; exact h
  | .optr i off, v, hr, h => by simp only [VRel] at h ⊢; rw [hβ i (by simpa [refs] using hr)]; exact h
  | .ag _ cs, v, hr, h => by
    simp only [VRel] at h ⊢
    obtain ⟨vs, h1, h2⟩ := h
    exact ⟨vs, h1, VAll.keepR hS hβ cs _ (by simpa [refs] using hr) h2⟩
  | .tup cs, v, hr, h => by
    simp only [VRel] at h ⊢
    obtain ⟨vs, h1, h2⟩ := h
    exact ⟨vs, h1, VAll.keepR hS hβ cs _ (by simpa [refs] using hr) h2⟩
  | .ofn f cs, v, hr, h => by
    simp only [VRel] at h ⊢
    obtain ⟨vs, h1, h2⟩ := h
    exact ⟨vs, h1, VAll.keepR hS hβ cs _ (by simpa [refs] using hr) h2⟩
theorem VAll.keepR {w w' : World} {β β' : Nat → Option Value} {S S' : Nat → Prop} {j : Nat} (hS : ∀ b, S b → S' b ∧ w'.heap[b]? = w.heap[b]?) (hβ : ∀ i, i ≠ j → β' i = β i) :
    ∀ (xs : List AVal) (vs : List Value), refsL j xs = false → VAll w β S xs vs → VAll w' β' S' xs vs
  | [], vs, _, h => by simpa only [VAll] using h
  | x :: xs, vs, hr, h => by
    simp only [refsL, Bool.or_eq_false_iff] at hr
    simp only [VAll] at h ⊢
    obtain ⟨v, r, e, h1, h2⟩ := h
    exact ⟨v, r, e, VRel.keepR hS hβ x v hr.1 h1, VAll.keepR hS hβ xs r hr.2 h2⟩
end

theorem VRel.drop {w w' : World} {β β' : Nat → Option Value} {S S' : Nat → Prop} {j : Nat} (hS : ∀ b, S b → S' b ∧ w'.heap[b]? = w.heap[b]?) (hβ : ∀ i, i ≠ j → β' i = β i)
    {x : AVal} {v : Value} (h : VRel w β S x v) : VRel w' β' S' (dropV j x) v := by
  unfold dropV
  split
  · simp only [VRel]
  · rename_i hr; exact VRel.keepR hS hβ x v (by simpa using hr) h

theorem VAll.drop {w w' : World} {β β' : Nat → Option Value} {S S' : Nat → Prop} {j : Nat} (hS : ∀ b, S b → S' b ∧ w'.heap[b]? = w.heap[b]?) (hβ : ∀ i, i ≠ j → β' i = β i) :
    ∀ (xs : List AVal) (vs : List Value), VAll w β S xs vs → VAll w' β' S' (xs.map (dropV j)) vs
  | [], vs, h => by simpa only [List.map_nil, VAll] using h
  | x :: xs, vs, h => by
    simp only [List.map_cons, VAll] at h ⊢
    obtain ⟨v, r, e, h1, h2⟩ := h
    exact ⟨v, r, e, VRel.drop hS hβ h1, VAll.drop hS hβ xs r h2⟩

theorem ORel.drop {w w' : World} {β β' : Nat → Option Value} {S S' : Nat → Prop} {j : Nat} (hS : ∀ b, S b → S' b ∧ w'.heap[b]? = w.heap[b]?) (hβ : ∀ i, i ≠ j → β' i = β i) {v : Value}
    (hj : ∀ b, blk v = some b → w'.heap[b]? = w.heap[b]?) : ∀ {o : Ob}, ORel w β S v o → ORel w' β' S' v (dropOb j o)
  | .row k t xs, h => by
    simp only [ORel, dropOb] at h ⊢
    obtain ⟨h1, h2, h3⟩ := h
    exact ⟨h1.keep hj, h2, h3⟩
  | .rowD t sz es, h => by
    simp only [ORel, dropOb] at h ⊢
    obtain ⟨vs, h1, h2, h3, h4⟩ := h
    exact ⟨vs, h1.keep hj, RepAll.keep hS es vs h2, h3, h4⟩
  | .cell t cs, h => by
    simp only [ORel, dropOb] at h ⊢
    obtain ⟨b, vs, h1, h2, h3⟩ := h
    exact ⟨b, vs, h1, by rw [hj b (by rw [h1]; rfl)]; exact h2, VAll.drop hS hβ cs _ h3⟩

/-- Object j becomes another one; what names it elsewhere is forgotten. -/
def setO (j : Nat) (o : Ob) : List (Nat × Ob) → List (Nat × Ob)
  | [] => []
  | (i, p) :: r => (if i = j then (j, o) else (i, p)) :: setO j o r
def setOd (j : Nat) (o : Ob) : List (Nat × Ob) → List (Nat × Ob)
  | [] => []
  | (i, p) :: r => (if i = j then (j, o) else (i, dropOb j p)) :: setOd j o r
def delO (j : Nat) : List (Nat × Ob) → List (Nat × Ob)
  | [] => []
  | (i, p) :: r => if i = j then delO j r else (i, dropOb j p) :: delO j r

theorem setO_ids (j : Nat) (o : Ob) : ∀ st, (setO j o st).map (·.1) = st.map (·.1)
  | [] => rfl
  | (i, p) :: r => by simp only [setO, List.map_cons, setO_ids j o r]; split <;> simp_all
theorem setOd_ids (j : Nat) (o : Ob) : ∀ st, (setOd j o st).map (·.1) = st.map (·.1)
  | [] => rfl
  | (i, p) :: r => by simp only [setOd, List.map_cons, setOd_ids j o r]; split <;> simp_all
theorem mem_setO {j : Nat} {o : Ob} : ∀ {st : List (Nat × Ob)} {i : Nat} {p : Ob}, (i, p) ∈ setO j o st → (i = j ∧ p = o) ∨ (i ≠ j ∧ (i, p) ∈ st)
  | [], _, _, h => by simp [setO] at h
  | (k, q) :: r, i, p, h => by
    simp only [setO, List.mem_cons] at h
    rcases h with h | h
    · split at h
      · injection h with h1 h2; exact .inl ⟨h1, h2⟩
      · rename_i hne; injection h with h1 h2; subst h1; subst h2; exact .inr ⟨hne, by simp⟩
    · rcases mem_setO h with h | h
      · exact .inl h
      · exact .inr ⟨h.1, List.mem_cons_of_mem _ h.2⟩
theorem mem_setOd {j : Nat} {o : Ob} : ∀ {st : List (Nat × Ob)} {i : Nat} {p : Ob}, (i, p) ∈ setOd j o st → (i = j ∧ p = o) ∨ (i ≠ j ∧ ∃ q, (i, q) ∈ st ∧ p = dropOb j q)
  | [], _, _, h => by simp [setOd] at h
  | (k, q) :: r, i, p, h => by
    simp only [setOd, List.mem_cons] at h
    rcases h with h | h
    · split at h
      · injection h with h1 h2; exact .inl ⟨h1, h2⟩
      · rename_i hne; injection h with h1 h2; subst h1; subst h2; exact .inr ⟨hne, q, by simp⟩
    · rcases mem_setOd h with h | ⟨h, q', h2, h3⟩
      · exact .inl h
      · exact .inr ⟨h, q', List.mem_cons_of_mem _ h2, h3⟩
section
variable {P : Program} {C : Ctx} {s : AState} {β : Nat → Option Value} {S : Nat → Prop} {a : Act} {w w' : World}

theorem mem_id {st : List (Nat × Ob)} {j : Nat} {o : Ob} (h : (j, o) ∈ st) : j ∈ st.map (·.1) := List.mem_map.2 ⟨_, h, rfl⟩

theorem ARelB.id_lt (h : ARelB C s β S a w) {j : Nat} {o : Ob} (hj : (j, o) ∈ s.st) : j < s.nx := by
  obtain ⟨v, hv, _⟩ := h.st.obj j o hj
  rcases Nat.lt_or_ge j s.nx with h' | h'
  · exact h'
  · rw [h.nx j h'] at hv; cases hv

/-- What is imm stays as it is while the world grows beside one owned block. -/
theorem ARelB.imm (h : ARelB C s β S a w) {row : Option Nat} (hg : w.grownBy w' row) (hr : ∀ g, row = some g → Owned β s.st g) : ∀ b, S b → S b ∧ w'.heap[b]? = w.heap[b]? :=
  fun b hb => ⟨hb, hg.block b (h.st.inS b hb) fun e => (h.st.own b (hr b e.symm)).1 hb⟩

theorem fr_grown {S' own' : Nat → Prop} (h : ARelB C s β S a w) {row : Option Nat} (hg : w.grownBy w' row) (hr : ∀ g, row = some g → Owned β s.st g)
    (hS : ∀ b, S' b → S b ∨ Owned β s.st b ∨ w.heap.size ≤ b) (ho : ∀ b, own' b → Owned β s.st b ∨ w.heap.size ≤ b) : Fr C w' S' own' := by
  have hf := h.frame
  refine ⟨Nat.le_trans hf.size hg.size, hg.os.trans hf.os, hg.tape.trans hf.tape, hg.output.trans hf.output, fun b hb hE => ?_, fun b hb => ?_, fun b hb => ?_⟩
  · rw [hg.block b (Nat.lt_of_lt_of_le hb hf.size) fun e => ?_]
    · exact hf.old b hb hE
    · rcases hf.own b (hr b e.symm) with h' | h'
      · exact hE h'
      · omega
  · rcases hS b hb with h' | h' | h'
    · exact hf.inS b h'
    · exact .inr (hf.own b h')
    · exact .inr (.inr (Nat.le_trans hf.size h'))
  · rcases ho b hb with h' | h'
    · exact hf.own b h'
    · exact .inr (Nat.le_trans hf.size h')

theorem orel_cells {w : World} {β : Nat → Option Value} {S : Nat → Prop} {v : Value} {o : Ob} (h : ORel w β S v o) {b : Nat} (hb : blk v = some b) : ∃ cs t, w.heap[b]? = some (.cells cs t (0, 0)) := by
  have own : ∀ {t : TypeId} {sz n : Nat} {vs : List Value}, OwnsV w t sz v n vs → ∃ cs t, w.heap[b]? = some (.cells cs t (0, 0)) := fun {t sz n vs} h => by
    rcases h with ⟨A, rfl, _⟩ | ⟨g, cap, cur, rfl, hc, hh, _⟩
    · cases A <;> simp [blk] at hb
    · simp only [blk] at hb
      split at hb
      · cases hb
      · injection hb with hb; subst hb; exact ⟨_, _, hh⟩
  cases o with
  | row k t xs => simp only [ORel] at h; exact own h.1
  | rowD t sz es => simp only [ORel] at h; obtain ⟨vs, h1, _⟩ := h; exact own h1
  | cell t cs =>
    simp only [ORel] at h
    obtain ⟨g, vs, rfl, hh, _⟩ := h
    simp only [blk] at hb
    injection hb with hb; subst hb
    exact ⟨_, _, hh⟩

theorem SRel.cells {w : World} {β : Nat → Option Value} {S : Nat → Prop} {st : List (Nat × Ob)} (h : SRel w β S st) {b : Nat} (hb : Owned β st b) : ∃ cs t, w.heap[b]? = some (.cells cs t (0, 0)) := by
  obtain ⟨j, o, hj, hb⟩ := hb
  obtain ⟨v, hv, hr⟩ := h.obj j o hj
  rw [hv] at hb
  exact orel_cells hr hb

theorem Marks.keep {a : Act} {w w' : World} {S S' : Nat → Prop} (h : Marks C S a w)
    (hk : ∀ D : Nat, w.heap[D]? = some (Obj.deferred (some [])) → ¬ S D → w'.heap[D]? = some (Obj.deferred (some [])) ∧ ¬ S' D) : Marks C S' a w' :=
  ⟨fun d hd => by
    obtain ⟨D, e, hD, hS, hC⟩ := h.1 d hd
    exact ⟨D, e, (hk D hD hS).1, (hk D hD hS).2, hC⟩, h.2⟩

theorem ARelB.marks (h : ARelB C s β S a w) {row : Option Nat} (hg : w.grownBy w' row) (hr : ∀ g, row = some g → Owned β s.st g) : Marks C S a w' :=
  Marks.keep h.defers fun D hD hS => by
    have hlt : D < w.heap.size := (Array.getElem?_eq_some_iff.1 hD).1
    refine ⟨?_, hS⟩
    rw [hg.block D hlt fun e => ?_]
    · exact hD
    · obtain ⟨cs, t, hc⟩ := h.st.cells (hr D e.symm)
      rw [hD] at hc; cases hc

/-- L1: an owned object is written in place. -/
theorem ARelB.touch (h : ARelB C s β S a w) {j : Nat} {o o' : Ob} {v : Value} (hj : (j, o) ∈ s.st) (hv : β j = some v) (hg : w.grownBy w' (blk v)) (ho : ORel w' β S v o') :
    ARelB C { s with st := setO j o' s.st } β S a w' := by
  have hown : ∀ g, blk v = some g → Owned β s.st g := fun g e => ⟨j, o, hj, by rw [hv]; exact e⟩
  have himm := h.imm hg hown
  have hnd := setO_ids j o' s.st
  have hsame : ∀ b, Owned β (setO j o' s.st) b ↔ Owned β s.st b := fun b => by
    constructor
    · rintro ⟨i, p, hi, hb⟩
      rcases mem_setO hi with ⟨rfl, _⟩ | ⟨_, hi⟩
      · exact ⟨_, o, hj, hb⟩
      · exact ⟨i, p, hi, hb⟩
    · rintro ⟨i, p, hi, hb⟩
      have : i ∈ (setO j o' s.st).map (·.1) := by rw [hnd]; exact mem_id hi
      obtain ⟨⟨i', p'⟩, hm, rfl⟩ := List.mem_map.1 this
      exact ⟨_, p', hm, hb⟩
  refine ⟨fun t => VRel.keep himm (fun _ _ e => e) _ _ (h.fr t), h.size, ⟨fun i p hi => ?_, by rw [hnd]; exact h.st.nodup, fun i p k q hi hk hne b hb => ?_, fun b hb => ?_, fun b hb => ?_, h.st.gl.keep himm⟩, ?_, h.nx, h.marks hg hown, h.pin, h.nxm⟩
  · rcases mem_setO hi with ⟨rfl, rfl⟩ | ⟨hne, hi⟩
    · exact ⟨v, hv, ho⟩
    · obtain ⟨u, hu, hr⟩ := h.st.obj i p hi
      refine ⟨u, hu, hr.keep himm (fun _ _ e => e) fun b hb => hg.block b (h.st.own b ⟨i, p, hi, by rw [hu]; exact hb⟩).2 fun e => ?_⟩
      exact h.st.apart i p j o hi hj hne b (by rw [hu]; exact hb) (by rw [hv]; exact e.symm)
  · have h1 : ∃ p', (i, p') ∈ s.st := by
      rcases mem_setO hi with ⟨rfl, _⟩ | ⟨_, hi⟩
      · exact ⟨o, hj⟩
      · exact ⟨p, hi⟩
    have h2 : ∃ q', (k, q') ∈ s.st := by
      rcases mem_setO hk with ⟨rfl, _⟩ | ⟨_, hk⟩
      · exact ⟨o, hj⟩
      · exact ⟨q, hk⟩
    obtain ⟨p', h1⟩ := h1
    obtain ⟨q', h2⟩ := h2
    exact h.st.apart i p' k q' h1 h2 hne b hb
  · have := h.st.own b ((hsame b).1 hb)
    exact ⟨this.1, Nat.lt_of_lt_of_le this.2 hg.size⟩
  · exact Nat.lt_of_lt_of_le (h.st.inS b hb) hg.size
  · exact fr_grown h hg hown (fun b hb => .inl hb) fun b hb => .inl ((hsame b).1 hb)

def updO (β : Nat → Option Value) (j : Nat) (v : Value) : Nat → Option Value := fun i => if i = j then some v else β i

/-- L2: a new object. -/
theorem ARelB.fresh (h : ARelB C s β S a w) {o' : Ob} {v : Value} (hg : w.grownBy w' none) (hb : ∀ b, blk v = some b → w.heap.size ≤ b ∧ b < w'.heap.size) (ho : ORel w' (updO β s.nx v) S v o') :
    ARelB C { s with st := (s.nx, o') :: s.st, nx := s.nx + 1 } (updO β s.nx v) S a w' := by
  have himm := h.imm hg (by simp)
  have hβ : ∀ i u, β i = some u → updO β s.nx v i = some u := fun i u e => by
    unfold updO
    rw [if_neg]
    · exact e
    · rintro rfl; rw [h.nx _ (Nat.le_refl _)] at e; cases e
  have hnew : updO β s.nx v s.nx = some v := by simp [updO]
  have hold : ∀ {i p}, (i, p) ∈ s.st → updO β s.nx v i = β i := fun {i p} hi => by
    obtain ⟨u, hu, _⟩ := h.st.obj i p hi
    rw [hβ i u hu, hu]
  have hown : ∀ b, Owned (updO β s.nx v) ((s.nx, o') :: s.st) b → Owned β s.st b ∨ (w.heap.size ≤ b ∧ b < w'.heap.size) := fun b => by
    rintro ⟨i, p, hi, hbb⟩
    rcases List.mem_cons.1 hi with hi | hi
    · injection hi with h1 h2
      subst h1
      rw [hnew] at hbb
      exact .inr (hb b hbb)
    · exact .inl ⟨i, p, hi, by rw [hold hi] at hbb; exact hbb⟩
  refine ⟨fun t => VRel.keep himm hβ _ _ (h.fr t), h.size, ⟨fun i p hi => ?_, ?_, fun i p k q hi hk hne b hbb hbk => ?_, fun b hbb => ?_, fun b hbb => ?_, h.st.gl.keep himm⟩, ?_, fun j hj => ?_, h.marks hg (by simp), fun j hj => ?_, Nat.le_succ_of_le h.nxm⟩
  · rcases List.mem_cons.1 hi with hi | hi
    · injection hi with h1 h2
      subst h1; subst h2
      exact ⟨v, hnew, ho⟩
    · obtain ⟨u, hu, hr⟩ := h.st.obj i p hi
      exact ⟨u, hβ i u hu, hr.keep himm hβ fun b hbb => hg.block b (h.st.own b ⟨i, p, hi, by rw [hu]; exact hbb⟩).2 (by simp)⟩
  · simp only [List.map_cons, List.nodup_cons]
    refine ⟨fun hm => ?_, h.st.nodup⟩
    obtain ⟨⟨i, p⟩, hi, e⟩ := List.mem_map.1 hm
    have := h.id_lt hi
    simp at e
    omega
  · rcases List.mem_cons.1 hi with hi | hi <;> rcases List.mem_cons.1 hk with hk | hk
    · injection hi with h1 _; injection hk with h2 _
      exact hne (h1.trans h2.symm)
    · injection hi with h1 _
      subst h1
      rw [hnew] at hbb
      rw [hold hk] at hbk
      have := hb b hbb
      have := (h.st.own b ⟨k, q, hk, hbk⟩).2
      omega
    · injection hk with h1 _
      subst h1
      rw [hnew] at hbk
      rw [hold hi] at hbb
      have := hb b hbk
      have := (h.st.own b ⟨i, p, hi, hbb⟩).2
      omega
    · rw [hold hi] at hbb
      rw [hold hk] at hbk
      exact h.st.apart i p k q hi hk hne b hbb hbk
  · rcases hown b hbb with h' | h'
    · have := h.st.own b h'
      exact ⟨this.1, Nat.lt_of_lt_of_le this.2 hg.size⟩
    · exact ⟨fun hs => by have := h.st.inS b hs; omega, h'.2⟩
  · exact Nat.lt_of_lt_of_le (h.st.inS b hbb) hg.size
  · exact fr_grown h hg (by simp) (fun b hb => .inl hb) fun b hb => (hown b hb).imp id (·.1)
  · simp only at hj
    unfold updO
    rw [if_neg (by omega)]
    exact h.nx j (by omega)
  · have := h.nxm
    unfold updO
    rw [if_neg (by omega)]
    exact h.pin j hj

/-- L3: an owned object may move; what named it is forgotten. -/
theorem ARelB.move (h : ARelB C s β S a w) {j : Nat} (hjm : C.m ≤ j) {o o' : Ob} {v v' : Value} (hj : (j, o) ∈ s.st) (hv : β j = some v) (hg : w.grownBy w' (blk v))
    (hb : ∀ b, blk v' = some b → (blk v = some b ∨ (w.heap.size ≤ b ∧ b < w'.heap.size))) (ho : ORel w' (updO β j v') S v' o') :
    ARelB C { s with st := setOd j o' s.st, fr := fun t => dropV j (s.fr t) } (updO β j v') S a w' := by
  have hown : ∀ g, blk v = some g → Owned β s.st g := fun g e => ⟨j, o, hj, by rw [hv]; exact e⟩
  have himm := h.imm hg hown
  have hnd := setOd_ids j o' s.st
  have hβ : ∀ i, i ≠ j → updO β j v' i = β i := fun i hi => by simp [updO, hi]
  have hnew : updO β j v' j = some v' := by simp [updO]
  have hOwn : ∀ b, Owned (updO β j v') (setOd j o' s.st) b → Owned β s.st b ∨ (w.heap.size ≤ b ∧ b < w'.heap.size) := fun b => by
    rintro ⟨i, p, hi, hbb⟩
    rcases mem_setOd hi with ⟨rfl, _⟩ | ⟨hne, q, hi, _⟩
    · rw [hnew] at hbb
      rcases hb b hbb with h' | h'
      · exact .inl (hown b h')
      · exact .inr h'
    · rw [hβ i hne] at hbb
      exact .inl ⟨i, q, hi, hbb⟩
  refine ⟨fun t => VRel.drop himm hβ (h.fr t), h.size, ⟨fun i p hi => ?_, by rw [hnd]; exact h.st.nodup, fun i p k q hi hk hne b hbb hbk => ?_, fun b hbb => ?_, fun b hbb => ?_, h.st.gl.keep himm⟩, ?_, fun i hi => ?_, h.marks hg hown, fun i hi => ?_, h.nxm⟩
  · rcases mem_setOd hi with ⟨rfl, rfl⟩ | ⟨hne, q, hiq, rfl⟩
    · exact ⟨v', hnew, ho⟩
    · obtain ⟨u, hu, hr⟩ := h.st.obj i q hiq
      refine ⟨u, by rw [hβ i hne]; exact hu, hr.drop himm hβ fun b hbb => hg.block b (h.st.own b ⟨i, q, hiq, by rw [hu]; exact hbb⟩).2 fun e => ?_⟩
      exact h.st.apart i q j o hiq hj hne b (by rw [hu]; exact hbb) (by rw [hv]; exact e.symm)
  · have key : ∀ {i p}, (i, p) ∈ setOd j o' s.st → i ≠ j → ∃ q, (i, q) ∈ s.st := fun hi hne => by
      rcases mem_setOd hi with ⟨e, _⟩ | ⟨_, q, hi, _⟩
      · exact (hne e).elim
      · exact ⟨q, hi⟩
    by_cases e1 : i = j
    · subst e1
      have e2 : k ≠ i := fun e => hne e.symm
      obtain ⟨q', hq'⟩ := key hk e2
      rw [hnew] at hbb
      rw [hβ k e2] at hbk
      rcases hb b hbb with h' | h'
      · exact h.st.apart k q' i o hq' hj e2 b hbk (by rw [hv]; exact h')
      · have := (h.st.own b ⟨k, q', hq', hbk⟩).2
        omega
    · obtain ⟨p', hp'⟩ := key hi e1
      rw [hβ i e1] at hbb
      by_cases e2 : k = j
      · subst e2
        rw [hnew] at hbk
        rcases hb b hbk with h' | h'
        · exact h.st.apart i p' k o hp' hj e1 b hbb (by rw [hv]; exact h')
        · have := (h.st.own b ⟨i, p', hp', hbb⟩).2
          omega
      · obtain ⟨q', hq'⟩ := key hk e2
        rw [hβ k e2] at hbk
        exact h.st.apart i p' k q' hp' hq' hne b hbb hbk
  · rcases hOwn b hbb with h' | h'
    · have := h.st.own b h'
      exact ⟨this.1, Nat.lt_of_lt_of_le this.2 hg.size⟩
    · exact ⟨fun hs => by have := h.st.inS b hs; omega, h'.2⟩
  · exact Nat.lt_of_lt_of_le (h.st.inS b hbb) hg.size
  · exact fr_grown h hg hown (fun b hb => .inl hb) fun b hb => (hOwn b hb).imp id (·.1)
  · have : i ≠ j := by
      have := h.id_lt hj
      simp only at hi
      omega
    simp only [hβ i this]
    exact h.nx i hi
  · rw [hβ i (by omega)]
    exact h.pin i hi

/-- A slot is written. -/
theorem ARelB.put (h : ARelB C s β S a w) {dst : Option Tmp} {x : AVal} {v : Value} (hx : VRel w β S x v) (hd : ∀ t, dst = some t → t < s.n) : ARelB C (s.put dst x) β S (a.put dst v) w := by
  cases dst with
  | none => exact h
  | some t =>
    have ht := hd t rfl
    refine ⟨fun u => ?_, ?_, h.st, h.frame, h.nx, h.defers, h.pin, h.nxm⟩
    · simp only [AState.put, upd, Act.put]
      split
      · rename_i e
        subst e
        simpa [Array.getElem?_setIfInBounds, h.size, ht] using hx
      · rename_i hne
        have := h.fr u
        rw [Array.getD_eq_getD_getElem?] at this ⊢
        rwa [Array.getElem?_setIfInBounds_ne (fun e => hne e.symm)]
    · simp [AState.put, Act.put, h.size]

end
end Go.Proofs.YtniaeiikdgbnfaaDoor.AW
