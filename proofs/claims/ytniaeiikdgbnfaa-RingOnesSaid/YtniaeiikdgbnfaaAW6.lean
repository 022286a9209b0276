/- The abstract walker, part 6: numbers, texts, lengths, cuts. -/
import Derived.Test.YtniaeiikdgbnfaaAW5
namespace Go.Proofs.Ytniaeiikdgbnfaa.AW
open Go Go.RowKit

section
variable {P : Program} {C : Ctx} {s : AState} {β : Nat → Option Value} {S : Nat → Prop} {a : Act} {w : World}

theorem vrel_int {k : IntKind} {n : Int} (h : k.wrap n = n) : VRel w β S (.d (.int k n)) (.int k n) := by
  simp only [VRel, Rep]; exact ⟨_, ⟨rfl, h⟩, rfl⟩
theorem vrel_bool {b : Bool} : VRel w β S (.d (.bool b)) (.bool b) := by simp only [VRel, Rep]; exact ⟨_, rfl, rfl⟩
theorem d_bool {v : Value} {b : Bool} (hx : VRel w β S (.d (.bool b)) v) : v = .bool b := by
  simp only [VRel, Rep] at hx; obtain ⟨cs, rfl, rfl⟩ := hx; rfl
theorem d_str {v : Value} {xs : List Int} (hx : VRel w β S (.d (.str xs)) v) : ∃ s, v = .string s ∧ bytesOf s = xs ∧ s.size ≤ LIM := by
  simp only [VRel, Rep] at hx; obtain ⟨cs, ⟨s, rfl, h⟩, rfl⟩ := hx; exact ⟨s, rfl, h⟩
theorem d_nilp {v : Value} (hx : VRel w β S (.d .nilp) v) : v = .pointer none := by
  simp only [VRel, Rep] at hx; obtain ⟨cs, rfl, rfl⟩ := hx; rfl
theorem d_ptr {v : Value} {x : D} (hx : VRel w β S (.d (.ptr x)) v) : ∃ a, v = .pointer (some a) := by
  simp only [VRel, Rep] at hx; obtain ⟨cs, ⟨b, o, rfl, _⟩, rfl⟩ := hx; exact ⟨_, rfl⟩
theorem o_ptr {v : Value} {j o : Nat} (hx : VRel w β S (.optr j o) v) : ∃ a, v = .pointer (some a) := by
  simp only [VRel] at hx; obtain ⟨b, _, rfl⟩ := hx; exact ⟨_, rfl⟩
theorem d_ints {v : Value} {k : IntKind} {xs : List Int} (hx : VRel w β S (.d (.ints k xs)) v) : ∃ A c, v = .slice A xs.length c ∧ xs.length ≤ c ∧ xs.length ≤ LIM ∧ (∀ x ∈ xs, k.wrap x = x) ∧
      (xs ≠ [] → ∃ b o, A = some ⟨b, o, none⟩ ∧ S b ∧ Cells w b o (xs.map (Value.int k))) := by
  simp only [VRel, Rep] at hx; obtain ⟨cs, ⟨A, c, rfl, h⟩, rfl⟩ := hx; exact ⟨A, c, rfl, h⟩
theorem d_sl {v : Value} {sz : Nat} {es : List D} (hx : VRel w β S (.d (.sl sz es)) v) : ∃ A c, v = .slice A es.length c ∧ es.length ≤ c ∧ es.length ≤ LIM ∧
      (es ≠ [] → ∃ b o, A = some ⟨b, o, none⟩ ∧ S b ∧ RepRow w S sz es b o) := by
  simp only [VRel, Rep] at hx; obtain ⟨cs, ⟨A, c, rfl, h⟩, rfl⟩ := hx; exact ⟨A, c, rfl, h⟩

theorem len_wrap {n : Nat} (h : n ≤ LIM) : IntKind.i64.wrap (n : Int) = n := by
  rw [wrap_in]; unfold LIM at h; simp [loK, hiK]; omega

theorem bytesOf_length (s : ByteArray) : (bytesOf s).length = s.size := by simp [bytesOf]
theorem bytesOf_get (s : ByteArray) (i : Nat) (h : i < s.size) : (bytesOf s)[i]? = some (s[i].toNat : Int) := by
  simp [bytesOf, h]; rfl

theorem qIndex_sound {t : TypeId} {x i : AVal} {v u : Value} {K : AVal → Prop} (hx : VRel w β S x v) (hi : VRel w β S i u) (hq : qIndex P t x i K) :
    ∃ y r, Runs0 P w (Instr.index t v u) y ∧ VRel w β S r y ∧ K r := by
  unfold qIndex at hq
  split at hq
  · rename_i k n hd
    obtain ⟨rfl, hkn⟩ := dv_int hi hd
    split at hq
    · rename_i xs hu
      obtain ⟨h0, hlt, hK⟩ := hq
      obtain ⟨s, rfl, rfl, hl⟩ := d_str hx
      rw [bytesOf_length] at hlt
      have hlt' : n.toNat < s.size := by omega
      have hg := bytesOf_get s n.toNat hlt'
      refine ⟨.int .u8 s[n.toNat].toNat, _, fun w' _ => ?_, ?_, hK⟩
      · have : s[n.toNat]? = some s[n.toNat] := by simp [hlt']
        simp only [Instr.index, asIntOf, Sem.run_bind, Sem.run_pure, Result.andThen_ok, run_underlying hu, h0, if_true, this]
      · rw [List.getD, hg, Option.getD_some]
        refine vrel_int ?_
        rw [wrap_in]; simp [loK, hiK]; have := s[n.toNat].toNat_lt; omega
    · exact hq.elim
  · exact hq.elim

theorem qExtract_sound {x : AVal} {v : Value} {i : Nat} {K : AVal → Prop} (hx : VRel w β S x v) (hq : qExtract x i K) :
    ∃ y r, Runs0 P w (Instr.extract v i) y ∧ VRel w β S r y ∧ K r := by
  unfold qExtract at hq
  split at hq
  · rename_i vs
    split at hq
    · rename_i r hr
      simp only [VRel] at hx
      obtain ⟨us, rfl, hall⟩ := hx
      obtain ⟨u, hu, hru⟩ := VAll.get _ _ hall _ _ hr
      have : us[i]? = some u := by simpa using hu
      exact ⟨u, r, fun w' _ => by simp [Instr.extract, this], hru, hq⟩
    · exact hq.elim
  · exact hq.elim

theorem qLen_sound (h : ARelB C s β S a w) {t ty : TypeId} {x : AVal} {v : Value} {K : AVal → Prop} (hx : VRel w β S x v) (hq : qLen P s t x K) :
    ∃ y r, Runs0 P w (Builtin.len_ #[t] ty #[v]) y ∧ VRel w β S r y ∧ K r := by
  unfold qLen at hq
  split at hq
  · rename_i e hu
    have hrun : ∀ A n c w', (Builtin.len_ #[t] ty #[.slice A n c]).run P w' = .ok (.int .i64 n) w' := fun A n c w' => by
      simp [Builtin.len_, run_underlying hu, goInt]
    split at hq
    · obtain ⟨A, c, rfl, _, hl, _⟩ := d_ints hx
      exact ⟨_, _, fun w' _ => hrun A _ c w', vrel_int (len_wrap hl), hq⟩
    · obtain ⟨A, c, rfl, _, hl, _⟩ := d_sl hx
      exact ⟨_, _, fun w' _ => hrun A _ c w', vrel_int (len_wrap hl), hq⟩
    · simp only [VRel] at hx
      obtain ⟨⟨A, rfl⟩, _⟩ := hx
      exact ⟨_, _, fun w' _ => hrun A 0 0 w', vrel_int (by decide), hq⟩
    · simp only [VRel] at hx
      obtain ⟨rfl, _⟩ := hx
      exact ⟨_, _, fun w' _ => hrun none 0 0 w', vrel_int (by decide), hq⟩
    · rename_i j
      split at hq
      · rename_i k t' xs ho
        obtain ⟨bv, hβ0, hob⟩ := h.st.obj j _ (getO_mem ho)
        simp only [ORel] at hob
        simp only [VRel] at hx
        rw [hβ0] at hx; injection hx with hx; subst hx
        obtain ⟨A, c, hv⟩ : ∃ A c, bv = .slice A xs.length c := by
          rcases hob.1 with ⟨A, e1, e2, _⟩ | ⟨g, cap, cur, e1, _⟩
          · exact ⟨A, 0, by rw [e1, e2]⟩
          · exact ⟨_, cap, e1⟩
        rw [hv]
        exact ⟨_, _, fun w' _ => hrun A _ c w', vrel_int (len_wrap hob.2.2), hq⟩
      · rename_i t' sz es ho
        obtain ⟨bv, hβ0, hob⟩ := h.st.obj j _ (getO_mem ho)
        simp only [ORel] at hob
        obtain ⟨vs, hown, _, _, hl, _⟩ := hob
        simp only [VRel] at hx
        rw [hβ0] at hx; injection hx with hx; subst hx
        obtain ⟨A, c, hv⟩ : ∃ A c, bv = .slice A es.length c := by
          rcases hown with ⟨A, e1, e2, _⟩ | ⟨g, cap, cur, e1, _⟩
          · exact ⟨A, 0, by rw [e1, e2]⟩
          · exact ⟨_, cap, e1⟩
        rw [hv]
        exact ⟨_, _, fun w' _ => hrun A _ c w', vrel_int (len_wrap hl), hq⟩
      · exact hq.elim
    · rename_i j off len
      obtain ⟨hl, hK⟩ := hq
      simp only [VRel] at hx
      obtain ⟨A, c, rfl, _⟩ := hx
      exact ⟨_, _, fun w' _ => hrun A _ c w', vrel_int (len_wrap hl), hK⟩
    · exact hq.elim
  · rename_i hu
    split at hq
    · obtain ⟨s, rfl, rfl, hl⟩ := d_str hx
      rw [bytesOf_length] at hq
      exact ⟨_, _, fun w' _ => by simp [Builtin.len_, run_underlying hu, goInt], vrel_int (len_wrap hl), hq⟩
    · exact hq.elim
  · rename_i n e hu
    obtain ⟨hl, hK⟩ := hq
    exact ⟨_, _, fun w' _ => by cases v <;> simp [Builtin.len_, run_underlying hu, goInt] <;> rfl, vrel_int (len_wrap hl), hK⟩
  · exact hq.elim

theorem shr_in {k : IntKind} {n : Int} (m : Nat) (h : k.wrap n = n) : k.wrap (n / 2 ^ m) = n / 2 ^ m := by
  rw [wrap_in] at h ⊢
  have hp : (0 : Int) < 2 ^ m := Int.pow_pos (by decide)
  constructor
  · rw [Int.le_ediv_iff_mul_le hp]
    have : loK k ≤ 0 := by cases k <;> simp [loK]
    have h1 : (1 : Int) ≤ 2 ^ m := hp
    calc loK k * 2 ^ m ≤ loK k * 1 := Int.mul_le_mul_of_nonpos_left this h1
      _ ≤ n := by omega
  · rcases Int.lt_or_le n 0 with hn | hn
    · have : n / 2 ^ m < 0 := Int.ediv_neg_of_neg_of_pos hn hp
      have : 0 ≤ hiK k := by cases k <;> simp [hiK]
      omega
    · exact Int.le_trans (Int.ediv_le_self _ hn) h.2

theorem emod_le_self {a b : Int} (h : 0 ≤ a) : a % b ≤ a := by
  obtain ⟨n, rfl⟩ := Int.eq_ofNat_of_zero_le h
  show ((n % b.natAbs : Nat) : Int) ≤ n
  exact Int.ofNat_le.2 (Nat.mod_le _ _)

theorem tmod_in {k : IntKind} {a b : Int} (h : k.wrap a = a) : k.wrap (a.tmod b) = a.tmod b := by
  rw [wrap_in] at h ⊢
  have hlo : loK k ≤ 0 := by cases k <;> simp [loK]
  have hhi : 0 ≤ hiK k := by cases k <;> simp [hiK]
  rcases Int.lt_or_le a 0 with hn | hn
  · have e : a.tmod b = -((-a).tmod b) := by rw [Int.neg_tmod]; omega
    have h1 : 0 ≤ (-a).tmod b := Int.tmod_nonneg _ (by omega)
    have h2 : (-a).tmod b ≤ -a := by rw [Int.tmod_eq_emod_of_nonneg (by omega)]; exact emod_le_self (by omega)
    omega
  · have h1 : 0 ≤ a.tmod b := Int.tmod_nonneg _ hn
    have h2 : a.tmod b ≤ a := by rw [Int.tmod_eq_emod_of_nonneg hn]; exact emod_le_self hn
    omega

theorem run_eqGuard {w : World} {op : BinOp} {t : TypeId} {x y : Operand} {u v : Value} (h1 : ∀ c, u = .agg c → False) (h2 : u = .nilIface → False) : (eqGuard op t x y u v).run P w = .ok () w := by
  unfold eqGuard
  cases u <;> simp_all <;> cases op <;> simp

theorem qInts_sound {op : BinOp} {k : IntKind} {x y : Int} {K : AVal → Prop} (hx : k.wrap x = x) (hs : op ≠ .shl ∧ op ≠ .shr) (hq : qInts op k x y K) (t : TypeId) :
    ∃ u r, (∀ w' : World, (binOp op t (.int k x) (.int k y)).run P w' = .ok u w') ∧ VRel w β S r u ∧ K r := by
  unfold qInts at hq
  split at hq
  case h_1 => exact ⟨_, _, fun w' => by simp [binOp, Op.intArith], vrel_int (wrap_wrap _ _), hq⟩
  case h_2 => exact ⟨_, _, fun w' => by simp [binOp, Op.intArith], vrel_int (wrap_wrap _ _), hq⟩
  case h_3 => exact ⟨_, _, fun w' => by simp [binOp, Op.intArith], vrel_int (wrap_wrap _ _), hq⟩
  case h_4 => exact ⟨_, _, fun w' => by simp [binOp, Op.intDiv, hq.1], vrel_int (wrap_wrap _ _), hq.2⟩
  case h_5 => exact ⟨_, _, fun w' => by simp [binOp, Op.intDiv, hq.1], vrel_int (tmod_in hx), hq.2⟩
  case h_6 => exact ⟨_, _, fun w' => by simp [binOp, Op.intBits]; rfl, vrel_int (by simp [bitsK, wrap_wrap]), hq⟩
  case h_7 => exact ⟨_, _, fun w' => by simp [binOp, Op.intBits]; rfl, vrel_int (by simp [bitsK, wrap_wrap]), hq⟩
  case h_8 => exact ⟨_, _, fun w' => by simp [binOp, Op.intBits]; rfl, vrel_int (by simp [bitsK, wrap_wrap]), hq⟩
  case h_9 => exact ⟨_, _, fun w' => by simp only [binOp, Op.intBits, ne_eq, not_true_eq_false, if_false]; rfl, vrel_int (by simp [bitsK, wrap_wrap]), hq⟩
  case h_10 => exact ⟨.bool (decide (x = y)), _, fun w' => by simp [binOp, Op.intCmp]; rfl, vrel_bool, hq⟩
  case h_11 => exact ⟨.bool (!decide (x = y)), _, fun w' => by simp [binOp, Op.intCmp, bne]; rfl, vrel_bool, hq⟩
  case h_12 => exact ⟨_, _, fun w' => by simp [binOp, Op.intCmp], vrel_bool, hq⟩
  case h_13 => exact ⟨_, _, fun w' => by simp [binOp, Op.intCmp], vrel_bool, hq⟩
  case h_14 => exact ⟨_, _, fun w' => by simp [binOp, Op.intCmp], vrel_bool, hq⟩
  case h_15 => exact ⟨_, _, fun w' => by simp [binOp, Op.intCmp], vrel_bool, hq⟩
  case h_16 => exact hq.elim

theorem toList_data (z : ByteArray) : z.toList = z.data.toList := by
  unfold ByteArray.toList
  have : ∀ i r, ByteArray.toList.loop z i r = r.reverse ++ z.data.toList.drop i := by
    intro i r
    induction h : z.size - i generalizing i r with
    | zero =>
      rw [ByteArray.toList.loop, if_neg (by omega), List.drop_eq_nil_of_le (by simpa using (by omega : z.size ≤ i))]; simp
    | succ n ih =>
      rw [ByteArray.toList.loop, if_pos (by omega), ih (i+1) _ (by omega)]
      have hi : i < z.data.toList.length := by simpa using (by omega : i < z.size)
      rw [List.drop_eq_getElem_cons hi]
      simp [ByteArray.get!, getElem!_pos, show i < z.size by omega]
  simpa using this 0 []

theorem bytes_inj {x y : ByteArray} (h : bytesOf x = bytesOf y) : x.toList = y.toList := by
  have e : ∀ z : ByteArray, z.toList = z.data.toList := toList_data
  rw [e, e]
  unfold bytesOf at h
  exact List.map_inj_right (fun a b hab => by exact UInt8.toNat_inj.1 (by omega)) |>.1 h

theorem str_eq (x y : ByteArray) : (x.toList == y.toList) = decide (bytesOf x = bytesOf y) := by
  rw [Bool.eq_iff_iff]
  simp only [beq_iff_eq, decide_eq_true_eq]
  constructor
  · intro h
    have e : ∀ z : ByteArray, z.toList = z.data.toList := toList_data
    rw [e, e] at h
    simp [bytesOf, h]
  · exact bytes_inj

theorem samePtr_none {w : World} {x : Option Addr} : (samePointer x none).run P w = .ok x.isNone w := by cases x <;> simp [samePointer]
theorem samePtr_none' {w : World} {x : Option Addr} : (samePointer none x).run P w = .ok x.isNone w := by cases x <;> simp [samePointer]

theorem eqIn_bool {w : World} {t : TypeId} (hu : P.underlying t = some .bool) (x y : Bool) (d : Nat) : (Op.equalIn (d + 1) t (.bool x) (.bool y)).run P w = .ok (x == y) w := by
  simp [Op.equalIn, run_underlying hu]
theorem eqIn_nil {w : World} {t e : TypeId} (hu : P.underlying t = some (.slice e)) (A : Option Addr) (n c : Nat) (d : Nat) : (Op.equalIn (d + 1) t (.slice A n c) (.slice none 0 0)).run P w = .ok A.isNone w := by
  cases A <;> simp [Op.equalIn, run_underlying hu]
theorem eqIn_ptr {w : World} {t e : TypeId} (hu : P.underlying t = some (.pointer e)) (A : Option Addr) (d : Nat) : (Op.equalIn (d + 1) t (.pointer A) (.pointer none)).run P w = .ok A.isNone w := by
  cases A <;> simp [Op.equalIn, run_underlying hu]
theorem eqIn_ptr' {w : World} {t e : TypeId} (hu : P.underlying t = some (.pointer e)) (A : Option Addr) (d : Nat) : (Op.equalIn (d + 1) t (.pointer none) (.pointer A)).run P w = .ok A.isNone w := by
  cases A <;> simp [Op.equalIn, run_underlying hu]

theorem run_eql {w : World} {t : TypeId} {x y : Value} {b : Bool} (hb : ∀ d, (Op.equalIn (d + 1) t x y).run P w = .ok b w) : (Op.equal t x y).run P w = .ok b w := hb 9999

theorem qNilSl_sound (h : ARelB C s β S a w) {x : AVal} {u : Value} {K : Bool → Prop} (hx : VRel w β S x u) (hq : qNilSl x s K) : ∃ A n c, u = .slice A n c ∧ K A.isNone := by
  have own : ∀ {t : TypeId} {sz : Nat} {v : Value} {n : Nat} {vs : List Value}, OwnsV w t sz v n vs → ∃ A c, v = .slice A n c ∧ (A = none → n = 0) := fun hv => by
    rcases hv with ⟨A, e1, e2, _⟩ | ⟨g, cap, cur, e1, _⟩
    · exact ⟨A, 0, by rw [e1, e2], fun _ => e2⟩
    · exact ⟨_, cap, e1, by simp⟩
  unfold qNilSl at hq
  split at hq
  · simp only [VRel] at hx
    obtain ⟨⟨A, rfl⟩, _⟩ := hx
    refine ⟨A, 0, 0, rfl, ?_⟩
    cases A
    · exact hq.1
    · exact hq.2
  · simp only [VRel] at hx
    obtain ⟨rfl, _⟩ := hx
    exact ⟨none, 0, 0, rfl, hq⟩
  · obtain ⟨A, c, rfl, _, _, _, hne⟩ := d_ints hx
    refine ⟨A, _, c, rfl, ?_⟩
    cases A with
    | none =>
      refine hq.1 (Classical.byContradiction fun e => ?_)
      obtain ⟨b, o, e, _⟩ := hne e
      cases e
    | some A => exact hq.2
  · obtain ⟨A, c, rfl, _, _, hne⟩ := d_sl hx
    refine ⟨A, _, c, rfl, ?_⟩
    cases A with
    | none =>
      refine hq.1 (Classical.byContradiction fun e => ?_)
      obtain ⟨b, o, e, _⟩ := hne e
      cases e
    | some A => exact hq.2
  · rename_i j
    split at hq
    · rename_i k t' xs ho
      obtain ⟨bv, hβ0, hob⟩ := h.st.obj j _ (getO_mem ho)
      simp only [ORel] at hob
      simp only [VRel] at hx
      rw [hβ0] at hx; injection hx with hx; subst hx
      obtain ⟨A, c, e, hA⟩ := own hob.1
      refine ⟨A, _, c, e, ?_⟩
      cases A with
      | none => exact hq.1 (List.eq_nil_of_length_eq_zero (hA rfl))
      | some A => exact hq.2
    · rename_i t' sz es ho
      obtain ⟨bv, hβ0, hob⟩ := h.st.obj j _ (getO_mem ho)
      simp only [ORel] at hob
      obtain ⟨vs, hown, _⟩ := hob
      simp only [VRel] at hx
      rw [hβ0] at hx; injection hx with hx; subst hx
      obtain ⟨A, c, e, hA⟩ := own hown
      refine ⟨A, _, c, e, ?_⟩
      cases A with
      | none => exact hq.1 (List.eq_nil_of_length_eq_zero (hA rfl))
      | some A => exact hq.2
    · exact hq.elim
  · exact hq.elim

theorem qBin_sound (h : ARelB C s β S a w) {op : BinOp} {t : TypeId} {x y : AVal} {u v : Value} {K : AVal → Prop} (hx : VRel w β S x u) (hy : VRel w β S y v) (hq : qBin P s op t x y K) (ox oy : Operand) :
    ∃ z r, Runs0 P w (do eqGuard op t ox oy u v; binOp op t u v) z ∧ VRel w β S r z ∧ K r := by
  have guard : ∀ {w' : World}, (∀ c, u = .agg c → False) → (u = .nilIface → False) → (do eqGuard op t ox oy u v; binOp op t u v : Sem Value).run P w' = (binOp op t u v).run P w' := fun h1 h2 => by
    simp only [Sem.run_bind, run_eqGuard h1 h2, Result.andThen_ok]
  suffices H : (∀ c, u = .agg c → False) ∧ (u = .nilIface → False) ∧ ∃ z r, Runs0 P w (binOp op t u v) z ∧ VRel w β S r z ∧ K r by
    obtain ⟨h1, h2, z, r, h3, h4⟩ := H
    exact ⟨z, r, fun w' hw => by rw [guard h1 h2]; exact h3 w' hw, h4⟩
  unfold qBin at hq
  split at hq
  · obtain ⟨rfl, hk⟩ := d_int hx
    obtain ⟨rfl, hk'⟩ := d_int hy
    obtain ⟨h0, hK⟩ := hq
    refine ⟨by simp, by simp, _, _, fun w' _ => ?_, vrel_int (wrap_wrap _ _), hK⟩
    simp [binOp, Op.shift, Int.not_lt.2 h0]
  · rename_i k n k' m
    obtain ⟨rfl, hk⟩ := d_int hx
    obtain ⟨rfl, hk'⟩ := d_int hy
    obtain ⟨h0, hK⟩ := hq
    refine ⟨by simp, by simp, .int k (n / 2 ^ (min m.toNat k.bits)), _, fun w' _ => ?_, vrel_int (shr_in _ hk), hK⟩
    have : (0 : Int) ≤ 2 ^ (min m.toNat k.bits) := Int.le_of_lt (Int.pow_pos (by decide))
    simp [binOp, Op.shift, Int.not_lt.2 h0, Int.fdiv_eq_ediv_of_nonneg _ this]
  · rename_i k n k' m h1 h2
    obtain ⟨rfl, hk⟩ := d_int hx
    obtain ⟨rfl, hk'⟩ := d_int hy
    obtain ⟨rfl, hK⟩ := hq
    have hs : op ≠ .shl ∧ op ≠ .shr := by
      constructor
      · intro e; first | exact h1 e | exact h1 _ _ e rfl | exact h1 _ _ _ _ e rfl rfl | exact h1 _ _ _ e rfl rfl
      · intro e; first | exact h2 e | exact h2 _ _ e rfl | exact h2 _ _ _ _ e rfl rfl | exact h2 _ _ _ e rfl rfl
    obtain ⟨z, r, h3, h4, h5⟩ := qInts_sound (P := P) (w := w) (β := β) (S := S) hk hs hK t
    exact ⟨by simp, by simp, z, r, fun w' _ => h3 w', h4, h5⟩
  · obtain ⟨x', rfl, rfl, _⟩ := d_str hx
    obtain ⟨y', rfl, rfl, _⟩ := d_str hy
    exact ⟨by simp, by simp, _, _, fun w' _ => by simp only [binOp, Op.stringOp, str_eq, Sem.run_pure], vrel_bool, hq⟩
  · obtain ⟨x', rfl, rfl, _⟩ := d_str hx
    obtain ⟨y', rfl, rfl, _⟩ := d_str hy
    exact ⟨by simp, by simp, _, _, fun w' _ => by simp only [binOp, Op.stringOp, str_eq, Sem.run_pure], vrel_bool, hq⟩
  · obtain ⟨x', rfl, rfl, hl⟩ := d_str hx
    obtain ⟨y', rfl, rfl, hl'⟩ := d_str hy
    obtain ⟨hlen, hK⟩ := hq
    rw [bytesOf_length, bytesOf_length] at hlen
    have hmax : ¬ ((x'.size + y'.size : Nat) : Int) > IntKind.i64.max := by
      unfold LIM at hlen
      simp only [IntKind.max, IntKind.signed, IntKind.bits]; simp; omega
    refine ⟨by simp, by simp, .string (x' ++ y'), _, fun w' _ => ?_, ?_, hK⟩
    · simp only [binOp, Op.stringOp, hmax, if_false, Sem.run_pure]
    · simp only [VRel, Rep]
      refine ⟨_, ⟨_, rfl, by simp [bytesOf], ?_⟩, rfl⟩
      simp; exact hlen
  · obtain ⟨hu, hK⟩ := hq
    have e1 := d_bool hx; have e2 := d_bool hy
    subst e1; subst e2
    refine ⟨by simp, by simp, _, _, fun w' _ => ?_, vrel_bool, hK⟩
    simp only [binOp, Sem.run_bind, run_eql (eqIn_bool hu _ _), Result.andThen_ok, Sem.run_pure]
    rfl
  · obtain ⟨hu, hK⟩ := hq
    have e1 := d_bool hx; have e2 := d_bool hy
    subst e1; subst e2
    refine ⟨by simp, by simp, _, _, fun w' _ => ?_, vrel_bool, hK⟩
    simp only [binOp, Sem.run_bind, run_eql (eqIn_bool hu _ _), Result.andThen_ok, Sem.run_pure]
    rfl
  · split at hq
    · rename_i e hu
      split at hq
      · simp only [VRel] at hy
        obtain ⟨rfl, _⟩ := hy
        obtain ⟨A, n, c, rfl, hK⟩ := qNilSl_sound h hx hq
        refine ⟨by simp, by simp, .bool (A.isNone), _, fun w' _ => ?_, vrel_bool, hK⟩
        simp only [binOp, Sem.run_bind, run_eql (eqIn_nil hu A n c), Result.andThen_ok, Sem.run_pure]
      · exact hq.elim
    · rename_i e hu
      split at hq
      · have e1 := d_nilp hx; have e2 := d_nilp hy
        subst e1; subst e2
        refine ⟨by simp, by simp, _, _, fun w' _ => ?_, vrel_bool, hq⟩
        simp only [binOp, Sem.run_bind, run_eql (eqIn_ptr hu _), Result.andThen_ok, Sem.run_pure]; rfl
      · have e2 := d_nilp hy; obtain ⟨p, e1⟩ := d_ptr hx
        subst e1; subst e2
        refine ⟨by simp, by simp, _, _, fun w' _ => ?_, vrel_bool, hq⟩
        simp only [binOp, Sem.run_bind, run_eql (eqIn_ptr hu _), Result.andThen_ok, Sem.run_pure]; rfl
      · have e2 := d_nilp hx; obtain ⟨p, e1⟩ := d_ptr hy
        subst e1; subst e2
        refine ⟨by simp, by simp, _, _, fun w' _ => ?_, vrel_bool, hq⟩
        simp only [binOp, Sem.run_bind, run_eql (eqIn_ptr' hu _), Result.andThen_ok, Sem.run_pure]; rfl
      · have e2 := d_nilp hy; obtain ⟨p, e1⟩ := o_ptr hx
        subst e1; subst e2
        refine ⟨by simp, by simp, _, _, fun w' _ => ?_, vrel_bool, hq⟩
        simp only [binOp, Sem.run_bind, run_eql (eqIn_ptr hu _), Result.andThen_ok, Sem.run_pure]; rfl
      · have e2 := d_nilp hx; obtain ⟨p, e1⟩ := o_ptr hy
        subst e1; subst e2
        refine ⟨by simp, by simp, _, _, fun w' _ => ?_, vrel_bool, hq⟩
        simp only [binOp, Sem.run_bind, run_eql (eqIn_ptr' hu _), Result.andThen_ok, Sem.run_pure]; rfl
      · exact hq.elim
    · exact hq.elim
  · split at hq
    · rename_i e hu
      split at hq
      · simp only [VRel] at hy
        obtain ⟨rfl, _⟩ := hy
        obtain ⟨A, n, c, rfl, hK⟩ := qNilSl_sound h hx hq
        refine ⟨by simp, by simp, .bool (!A.isNone), _, fun w' _ => ?_, vrel_bool, hK⟩
        simp only [binOp, Sem.run_bind, run_eql (eqIn_nil hu A n c), Result.andThen_ok, Sem.run_pure]
      · exact hq.elim
    · rename_i e hu
      split at hq
      · have e1 := d_nilp hx; have e2 := d_nilp hy
        subst e1; subst e2
        refine ⟨by simp, by simp, _, _, fun w' _ => ?_, vrel_bool, hq⟩
        simp only [binOp, Sem.run_bind, run_eql (eqIn_ptr hu _), Result.andThen_ok, Sem.run_pure]; rfl
      · have e2 := d_nilp hy; obtain ⟨p, e1⟩ := d_ptr hx
        subst e1; subst e2
        refine ⟨by simp, by simp, _, _, fun w' _ => ?_, vrel_bool, hq⟩
        simp only [binOp, Sem.run_bind, run_eql (eqIn_ptr hu _), Result.andThen_ok, Sem.run_pure]; rfl
      · have e2 := d_nilp hx; obtain ⟨p, e1⟩ := d_ptr hy
        subst e1; subst e2
        refine ⟨by simp, by simp, _, _, fun w' _ => ?_, vrel_bool, hq⟩
        simp only [binOp, Sem.run_bind, run_eql (eqIn_ptr' hu _), Result.andThen_ok, Sem.run_pure]; rfl
      · have e2 := d_nilp hy; obtain ⟨p, e1⟩ := o_ptr hx
        subst e1; subst e2
        refine ⟨by simp, by simp, _, _, fun w' _ => ?_, vrel_bool, hq⟩
        simp only [binOp, Sem.run_bind, run_eql (eqIn_ptr hu _), Result.andThen_ok, Sem.run_pure]; rfl
      · have e2 := d_nilp hx; obtain ⟨p, e1⟩ := o_ptr hy
        subst e1; subst e2
        refine ⟨by simp, by simp, _, _, fun w' _ => ?_, vrel_bool, hq⟩
        simp only [binOp, Sem.run_bind, run_eql (eqIn_ptr' hu _), Result.andThen_ok, Sem.run_pure]; rfl
      · exact hq.elim
    · exact hq.elim
  · exact hq.elim

end
end Go.Proofs.Ytniaeiikdgbnfaa.AW
