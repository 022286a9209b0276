/- The abstract walker, part 7: the rest of the operations that leave the world alone, and all of them together. -/
import Derived.Test.YtniaeiikdgbnfaaAW6
namespace Go.Proofs.Ytniaeiikdgbnfaa.AW
open Go Go.RowKit

section
variable {P : Program} {C : Ctx} {s : AState} {β : Nat → Option Value} {S : Nat → Prop} {a : Act} {w : World}

theorem qUn_sound {op : UnOp} {x : AVal} {v : Value} {K : AVal → Prop} (hx : VRel w β S x v) (hq : qUn op x K) :
    ∃ z r, Runs0 P w (Op.unary op v) z ∧ VRel w β S r z ∧ K r := by
  unfold qUn at hq
  split at hq
  · have e := d_bool hx; subst e
    exact ⟨_, _, fun w' _ => by simp only [Op.unary, Sem.run_pure], vrel_bool, hq⟩
  · obtain ⟨rfl, hk⟩ := d_int hx
    exact ⟨_, _, fun w' _ => by simp only [Op.unary, Op.intArith, Sem.run_pure], vrel_int (wrap_wrap _ _), hq⟩
  · obtain ⟨rfl, hk⟩ := d_int hx
    exact ⟨_, _, fun w' _ => by simp only [Op.unary, Op.intBits, Sem.run_pure]; rfl, vrel_int (by simp [bitsK, wrap_wrap]), hq⟩
  · exact hq.elim

theorem loadCells_list {w : World} {b o : Nat} {cs : List Value} (h : Cells w b o cs) {n : Nat} (hn : cs.length = n) : (loadCells ⟨b, o, none⟩ n).run P w = .ok cs.toArray w := by
  subst hn; exact loadCells_run h

theorem bytes_fold {w : World} (f : Value → ByteArray → Sem (ForInStep ByteArray)) (hf : ∀ n r, f (.int .u8 n) r = pure (ForInStep.yield (r.push (UInt8.ofNat n.toNat)))) :
    ∀ (xs : List Int) (s : ByteArray), (∀ x ∈ xs, IntKind.u8.wrap x = x) → ∃ r : ByteArray, (forIn (xs.map (Value.int .u8)) s f : Sem ByteArray).run P w = .ok r w ∧ bytesOf r = bytesOf s ++ xs
  | [], s, _ => ⟨s, by simp, by simp⟩
  | x :: xs, s, h => by
    obtain ⟨r, h1, h2⟩ := bytes_fold f hf xs (s.push (UInt8.ofNat x.toNat)) (fun y hy => h y (List.mem_cons_of_mem _ hy))
    refine ⟨r, ?_, ?_⟩
    · simp only [List.map_cons, List.forIn_cons, hf, Sem.run_bind, Sem.run_pure, Result.andThen_ok]
      exact h1
    · rw [h2]
      have := (wrap_in.1 (h x (by simp)))
      simp [loK, hiK] at this
      simp [bytesOf, ByteArray.push]
      omega

theorem bytesToString_run {w : World} {b o n c : Nat} {xs : List Int} (hl : xs.length = n) (hwf : ∀ x ∈ xs, IntKind.u8.wrap x = x) (hc : Cells w b o (xs.map (Value.int .u8))) :
    ∃ r : ByteArray, (Conv.bytesToString (.slice (some ⟨b, o, none⟩) n c)).run P w = .ok (.string r) w ∧ bytesOf r = xs := by
  unfold Conv.bytesToString
  simp only [Sem.run_bind, loadCells_list hc (by simpa using hl), Result.andThen_ok]
  simp only [← Array.forIn_toList]
  generalize hf : (fun (c : Value) (r : ByteArray) => (_ : Sem (ForInStep ByteArray))) = f
  obtain ⟨r, h1, h2⟩ := bytes_fold (P := P) (w := w) f (fun n r => by rw [← hf]) xs .empty hwf
  refine ⟨r, ?_, by rw [h2]; simp [bytesOf]⟩
  rw [h1]
  simp

theorem qConv_sound (h : ARelB C s β S a w) {src dst : TypeId} {x : AVal} {v : Value} {K : AVal → Prop} (hx : VRel w β S x v) (hq : qConv P src dst x K) :
    ∃ z r, Runs P w (convert src dst v) z ∧ VRel w β S r z ∧ K r := by
  unfold qConv at hq
  split at hq
  · rename_i k' k k'' n h1 h2
    obtain ⟨rfl, hk⟩ := d_int hx
    exact ⟨_, _, fun w' _ => by simp only [convert, Sem.run_bind, run_underlying h1, run_underlying h2, Result.andThen_ok, Conv.intToInt, Sem.run_pure], vrel_int (wrap_wrap _ _), hq⟩
  · rename_i xs h1 h2
    obtain ⟨s', rfl, hs⟩ := d_str hx
    refine ⟨.string s', _, fun w' _ => by simp only [convert, Sem.run_bind, run_underlying h1, run_underlying h2, Result.andThen_ok, Sem.run_pure], ?_, hq⟩
    simp only [VRel, Rep]; exact ⟨_, ⟨s', rfl, hs⟩, rfl⟩
  · rename_i e xs h1 h2
    obtain ⟨hu, hK⟩ := hq
    obtain ⟨A, c, rfl, hle, hl, hwf, hne⟩ := d_ints hx
    by_cases hxs : xs = []
    · subst hxs
      cases A with
      | none =>
        refine ⟨.string .empty, _, fun w' _ => ?_, ?_, hK⟩
        · simp only [convert, Sem.run_bind, run_underlying h1, run_underlying h2, run_underlying hu, Result.andThen_ok, Conv.bytesToString, Sem.run_pure]
        · simp only [VRel, Rep]; exact ⟨_, ⟨_, rfl, rfl, by simp⟩, rfl⟩
      | some A =>
        refine ⟨.string .empty, _, fun w' _ => ?_, ?_, hK⟩
        · simp [convert, run_underlying h1, run_underlying h2, run_underlying hu, Conv.bytesToString, loadCells, loadCellsFrom]
        · simp only [VRel, Rep]; exact ⟨_, ⟨_, rfl, rfl, by simp⟩, rfl⟩
    · obtain ⟨b, o, rfl, hb, hc⟩ := hne hxs
      have hrun : ∀ w', Ext w w' → ∃ r : ByteArray, (Conv.bytesToString (.slice (some ⟨b, o, none⟩) xs.length c)).run P w' = .ok (.string r) w' ∧ bytesOf r = xs := fun w' hw =>
        bytesToString_run rfl hwf (hc.keep (hw b (h.st.inS b hb)))
      obtain ⟨r, h3, h4⟩ := hrun w (Ext.refl w)
      refine ⟨.string r, _, fun w' hw => ?_, ?_, hK⟩
      · obtain ⟨r', h5, h6⟩ := hrun w' hw
        have hr : r' = r := by
          have := bytes_inj (h6.trans h4.symm)
          rw [toList_data, toList_data] at this
          cases r; cases r'; simp_all [Array.toList_inj]
        subst hr
        simp only [convert, Sem.run_bind, run_underlying h1, run_underlying h2, run_underlying hu, Result.andThen_ok, h5]
      · simp only [VRel, Rep]
        exact ⟨_, ⟨r, rfl, h4, by rw [← bytesOf_length, h4]; exact hl⟩, rfl⟩
  · rename_i e y h1 h2
    obtain ⟨hu, hK⟩ := hq
    simp only [VRel] at hx
    obtain ⟨⟨A, rfl⟩, _⟩ := hx
    cases A with
    | none =>
      refine ⟨.string .empty, _, fun w' _ => ?_, ?_, hK⟩
      · simp only [convert, Sem.run_bind, run_underlying h1, run_underlying h2, run_underlying hu, Result.andThen_ok, Conv.bytesToString, Sem.run_pure]
      · simp only [VRel, Rep]; exact ⟨_, ⟨_, rfl, rfl, by simp⟩, rfl⟩
    | some A =>
      refine ⟨.string .empty, _, fun w' _ => ?_, ?_, hK⟩
      · simp [convert, run_underlying h1, run_underlying h2, run_underlying hu, Conv.bytesToString, loadCells, loadCellsFrom]
      · simp only [VRel, Rep]; exact ⟨_, ⟨_, rfl, rfl, by simp⟩, rfl⟩
  · rename_i e y h1 h2
    obtain ⟨hu, hK⟩ := hq
    simp only [VRel] at hx
    obtain ⟨rfl, _⟩ := hx
    refine ⟨.string .empty, _, fun w' _ => ?_, ?_, hK⟩
    · simp only [convert, Sem.run_bind, run_underlying h1, run_underlying h2, run_underlying hu, Result.andThen_ok, Conv.bytesToString, Sem.run_pure]
    · simp only [VRel, Rep]; exact ⟨_, ⟨_, rfl, rfl, by simp⟩, rfl⟩
  · exact hq.elim

/-- A bound's value. -/
def ORelV (w : World) (β : Nat → Option Value) (S : Nat → Prop) : Option AVal → Option Value → Prop
  | none, none => True
  | some x, some v => VRel w β S x v
  | _, _ => False

theorem qBound_sound {x : Option AVal} {v : Option Value} {d : Int} {K : Int → Prop} (hx : ORelV w β S x v) (hq : qBound x d K) :
    ∃ n, K n ∧ ((v = none ∧ n = d) ∨ ∃ k, v = some (.int k n)) := by
  unfold qBound at hq
  split at hq
  · cases v <;> simp [ORelV] at hx
    exact ⟨d, hq, .inl ⟨rfl, rfl⟩⟩
  · rename_i k n
    cases v <;> simp only [ORelV] at hx
    obtain ⟨rfl, _⟩ := d_int hx
    exact ⟨n, hq, .inr ⟨k, rfl⟩⟩
  · exact hq.elim

theorem sliceBound_run {w : World} {k : IntKind} {n : Int} {y : Nat} {c : BoundsCode} (h : 0 ≤ n ∧ n ≤ y) : (Instr.sliceBound (.int k n) y c).run P w = .ok n.toNat w := by
  simp [Instr.sliceBound, asIntOf, h]

theorem sliceBounds_run {w : World} {b : Bool} {len cap : Nat} {lo hi : Option Value} {l h : Int} (hcap : h ≤ cap) (hl : (lo = none ∧ l = 0) ∨ ∃ k, lo = some (.int k l)) (hh : (hi = none ∧ h = len) ∨ ∃ k, hi = some (.int k h))
    (h0 : 0 ≤ l) (h1 : l ≤ h) : (Instr.sliceBounds b len cap lo hi none).run P w = .ok (l.toNat, h.toNat, cap) w := by
  have e1 : (0 ≤ h ∧ h ≤ (cap : Int)) := ⟨by omega, hcap⟩
  have e2 : (0 ≤ l ∧ l ≤ (h.toNat : Int)) := ⟨h0, by omega⟩
  unfold Instr.sliceBounds
  rcases hl with ⟨rfl, rfl⟩ | ⟨k, rfl⟩ <;> rcases hh with ⟨rfl, rfl⟩ | ⟨k', rfl⟩
  · simp
  · simp only [Sem.run_bind, Sem.run_pure, Result.andThen_ok, sliceBound_run e1]; rfl
  · simp only [Int.toNat_natCast] at e2
    simp only [Sem.run_bind, Sem.run_pure, Result.andThen_ok, Int.toNat_natCast]
    simp [sliceBound_run e2]
  · simp only [Sem.run_bind, Sem.run_pure, Result.andThen_ok, sliceBound_run e1]
    simp [sliceBound_run e2]

theorem sliceBounds3_run {w : World} {b : Bool} {len cap : Nat} {lo hi : Option Value} {k : IntKind} (hl : lo = none ∨ ∃ k, lo = some (.int k 0)) (hh : ∃ k, hi = some (.int k 0)) :
    (Instr.sliceBounds b len cap lo hi (some (.int k 0))).run P w = .ok (0, 0, 0) w := by
  obtain ⟨k', rfl⟩ := hh
  unfold Instr.sliceBounds
  rcases hl with rfl | ⟨k'', rfl⟩ <;> simp [Instr.sliceBound, asIntOf]

theorem RepRow.take {sz : Nat} : ∀ (ds : List D) (b o n : Nat), RepRow w S sz ds b o → RepRow w S sz (ds.take n) b o
  | [], b, o, n, h => by simp [RepRow]
  | d :: ds, b, o, 0, h => by simp [RepRow]
  | d :: ds, b, o, n + 1, h => by
    simp only [RepRow, List.take_succ_cons] at h ⊢
    exact ⟨h.1, RepRow.take ds b _ n h.2⟩
theorem RepRow.drop {sz : Nat} : ∀ (ds : List D) (b o n : Nat), RepRow w S sz ds b o → RepRow w S sz (ds.drop n) b (o + n * sz)
  | [], b, o, n, h => by simp [RepRow]
  | d :: ds, b, o, 0, h => by simpa using h
  | d :: ds, b, o, n + 1, h => by
    simp only [RepRow, List.drop_succ_cons] at h ⊢
    have := RepRow.drop ds b _ n h.2
    rwa [show o + sz + n * sz = o + (n + 1) * sz by rw [Nat.add_mul]; omega] at this

theorem slice_run {w : World} {t e : TypeId} {sz : Nat} (hu : P.underlying t = some (.slice e)) (hsz : szT P e = some sz) {A : Option Addr} {len cap : Nat} {lo hi : Option Value} {l h : Int} (hcap : h ≤ cap)
    (hl : (lo = none ∧ l = 0) ∨ ∃ k, lo = some (.int k l)) (hh : (hi = none ∧ h = len) ∨ ∃ k, hi = some (.int k h)) (h0 : 0 ≤ l) (h1 : l ≤ h) :
    (Instr.sliceAt t (.slice A len cap) lo hi none).run P w = .ok (.slice (if cap = l.toNat then A else A.map (·.add (l.toNat * sz))) (h.toNat - l.toNat) (cap - l.toNat)) w := by
  simp only [Instr.sliceAt, Sem.run_bind, run_underlying hu, Result.andThen_ok, Instr.slice, sliceBounds_run hcap hl hh h0 h1, run_sizeT hsz, Sem.run_pure]

theorem slice3_run {w : World} {t e : TypeId} (hu : P.underlying t = some (.slice e)) (hsz : (szT P e).isSome = true) {A : Option Addr} {len cap : Nat} {lo hi : Option Value} {k : IntKind}
    (hl : lo = none ∨ ∃ k, lo = some (.int k 0)) (hh : ∃ k, hi = some (.int k 0)) :
    (Instr.sliceAt t (.slice A len cap) lo hi (some (.int k 0))).run P w = .ok (.slice A 0 0) w := by
  obtain ⟨sz, hsz⟩ := Option.isSome_iff_exists.1 hsz
  simp only [Instr.sliceAt, Sem.run_bind, run_underlying hu, Result.andThen_ok, Instr.slice, sliceBounds3_run hl hh, run_sizeT hsz, Sem.run_pure, if_true, Nat.sub_self]

theorem dropTake {α : Type} (xs : List α) (l h : Nat) : (xs.take h).drop l = (xs.drop l).take (h - l) := by
  rw [List.drop_take]

theorem ints_cut {k : IntKind} {xs : List Int} {A : Option Addr} {c : Nat} {l h : Int} (hle : xs.length ≤ c) (hl : xs.length ≤ LIM) (hwf : ∀ x ∈ xs, k.wrap x = x)
    (hne : xs ≠ [] → ∃ b o, A = some ⟨b, o, none⟩ ∧ S b ∧ Cells w b o (xs.map (Value.int k))) (h0 : 0 ≤ l) (h1 : l ≤ h) (h2 : h ≤ xs.length) :
    VRel w β S (.d (.ints k ((xs.take h.toNat).drop l.toNat))) (.slice (if c = l.toNat then A else A.map (·.add (l.toNat * 1))) (h.toNat - l.toNat) (c - l.toNat)) := by
  have hlen : ((xs.take h.toNat).drop l.toNat).length = h.toNat - l.toNat := by simp; omega
  simp only [VRel, Rep]
  refine ⟨_, ⟨_, _, rfl, ?_, ?_, ?_, ?_⟩, by rw [hlen]; rfl⟩
  · rw [hlen]; omega
  · rw [hlen]; omega
  · exact fun x hx => hwf x (List.mem_of_mem_take (List.mem_of_mem_drop hx))
  · intro hx
    have hpos : 0 < ((xs.take h.toNat).drop l.toNat).length := List.length_pos_iff.2 hx
    obtain ⟨b, o, rfl, hb, hc⟩ := hne (by intro e; subst e; simp at hpos)
    refine ⟨b, o + l.toNat, ?_, hb, ?_⟩
    · rw [if_neg (by omega)]; simp [addr_add]
    · have := hc.sub l.toNat (h.toNat - l.toNat)
      rw [dropTake]
      simpa [List.map_take, List.map_drop] using this

theorem sl_cut {sz : Nat} {es : List D} {A : Option Addr} {c : Nat} {l h : Int} (hle : es.length ≤ c) (hl : es.length ≤ LIM)
    (hne : es ≠ [] → ∃ b o, A = some ⟨b, o, none⟩ ∧ S b ∧ RepRow w S sz es b o) (h0 : 0 ≤ l) (h1 : l ≤ h) (h2 : h ≤ es.length) :
    VRel w β S (.d (.sl sz ((es.take h.toNat).drop l.toNat))) (.slice (if c = l.toNat then A else A.map (·.add (l.toNat * sz))) (h.toNat - l.toNat) (c - l.toNat)) := by
  have hlen : ((es.take h.toNat).drop l.toNat).length = h.toNat - l.toNat := by simp; omega
  simp only [VRel, Rep]
  refine ⟨_, ⟨_, _, rfl, ?_, ?_, ?_⟩, by rw [hlen]; rfl⟩
  · rw [hlen]; omega
  · rw [hlen]; omega
  · intro hx
    have hpos : 0 < ((es.take h.toNat).drop l.toNat).length := List.length_pos_iff.2 hx
    obtain ⟨b, o, rfl, hb, hc⟩ := hne (by intro e; subst e; simp at hpos)
    refine ⟨b, o + l.toNat * sz, ?_, hb, ?_⟩
    · rw [if_neg (by omega)]; simp [addr_add]
    · rw [dropTake]
      exact (hc.drop _ _ _ l.toNat).take _ _ _ _

theorem em_cut {x : D} {A : Option Addr} (he : emptyD x = true) : VRel w β S (.em x) (.slice A 0 0) := by
  simp only [VRel]; exact ⟨⟨A, rfl⟩, he⟩

theorem qSlice_sound (h : ARelB C s β S a w) {t : TypeId} {x : AVal} {v : Value} {lo hi mx : Option AVal} {lv hv mv : Option Value} {K : AVal → Prop} (hx : VRel w β S x v)
    (hlo : ORelV w β S lo lv) (hhi : ORelV w β S hi hv) (hmx : ORelV w β S mx mv) (hq : qSlice P s t x lo hi mx K) :
    ∃ z r, Runs0 P w (Instr.sliceAt t v lv hv mv) z ∧ VRel w β S r z ∧ K r := by
  unfold qSlice at hq
  split at hq
  · rename_i e hu
    split at hq
    · cases mv <;> simp only [ORelV] at hmx
      split at hq
      · rename_i k xs
        obtain ⟨hh, hq, hhv⟩ := qBound_sound hhi hq
        obtain ⟨l, ⟨h0, h1, h2, hsz, hK⟩, hlv⟩ := qBound_sound hlo hq
        obtain ⟨A, c, rfl, hle, hl, hwf, hne⟩ := d_ints hx
        exact ⟨_, _, fun w' _ => slice_run hu hsz (by omega) hlv hhv h0 h1, ints_cut hle hl hwf hne h0 h1 h2, hK⟩
      · rename_i sz es
        obtain ⟨hh, hq, hhv⟩ := qBound_sound hhi hq
        obtain ⟨l, ⟨h0, h1, h2, hsz, hK⟩, hlv⟩ := qBound_sound hlo hq
        obtain ⟨A, c, rfl, hle, hl, hne⟩ := d_sl hx
        exact ⟨_, _, fun w' _ => slice_run hu hsz (by omega) hlv hhv h0 h1, sl_cut hle hl hne h0 h1 h2, hK⟩
      · rename_i j
        split at hq
        · rename_i k t' xs ho
          obtain ⟨hh, hq, hhv⟩ := qBound_sound hhi hq
          obtain ⟨l, ⟨h0, h1, h2, hsz, hK⟩, hlv⟩ := qBound_sound hlo hq
          obtain ⟨bv, hβ0, hob⟩ := h.st.obj j _ (getO_mem ho)
          simp only [ORel] at hob
          simp only [VRel] at hx
          rw [hβ0] at hx; injection hx with hx; subst hx
          rcases hob.1 with ⟨A, e1, e2, _⟩ | ⟨g, cap, cur, e1, hcp, _, hle, _⟩
          · rw [e1]
            refine ⟨_, _, fun w' _ => slice_run (len := 0) (cap := 0) hu hsz (by omega) hlv (by rw [e2] at hhv; exact hhv) h0 h1, ?_, hK⟩
            simp only [VRel]
            exact ⟨_, _, rfl, by omega, fun h => by omega⟩
          · rw [e1]
            refine ⟨_, _, fun w' _ => slice_run hu hsz (by omega) hlv hhv h0 h1, ?_, hK⟩
            simp only [VRel]
            refine ⟨_, _, rfl, by omega, fun h => ⟨g, by rw [hβ0, e1]; simp [blk]; omega, ?_⟩⟩
            rw [if_neg (by omega)]; simp [addr_add]
        · exact hq.elim
      · rename_i j off len
        obtain ⟨hh, hq, hhv⟩ := qBound_sound hhi hq
        obtain ⟨l, ⟨h0, h1, h2, hsz, hK⟩, hlv⟩ := qBound_sound hlo hq
        simp only [VRel] at hx
        obtain ⟨A, c, rfl, hle, hA⟩ := hx
        refine ⟨_, _, fun w' _ => slice_run hu hsz (by omega) hlv hhv h0 h1, ?_, hK⟩
        simp only [VRel]
        refine ⟨_, _, rfl, by omega, fun h => ?_⟩
        obtain ⟨b, hb, rfl⟩ := hA (by omega)
        refine ⟨b, hb, ?_⟩
        rw [if_neg (by omega)]; simp [addr_add]
      · rename_i y
        obtain ⟨hh, hq, hhv⟩ := qBound_sound hhi hq
        obtain ⟨l, ⟨rfl, rfl, hsz, hK⟩, hlv⟩ := qBound_sound hlo hq
        simp only [VRel] at hx
        obtain ⟨⟨A, rfl⟩, he⟩ := hx
        obtain ⟨sz, hsz⟩ := Option.isSome_iff_exists.1 hsz
        exact ⟨_, _, fun w' _ => slice_run hu hsz (by omega) hlv hhv (by omega) (by omega), em_cut he, hK⟩
      · rename_i y
        obtain ⟨hh, hq, hhv⟩ := qBound_sound hhi hq
        obtain ⟨l, ⟨rfl, rfl, hsz, hK⟩, hlv⟩ := qBound_sound hlo hq
        simp only [VRel] at hx
        obtain ⟨rfl, he⟩ := hx
        obtain ⟨sz, hsz⟩ := Option.isSome_iff_exists.1 hsz
        exact ⟨_, _, fun w' _ => slice_run hu hsz (by omega) hlv hhv (by omega) (by omega), by simp only [VRel]; exact ⟨rfl, he⟩, hK⟩
      · exact hq.elim
    · rename_i k
      cases mv <;> simp only [ORelV] at hmx
      obtain ⟨rfl, _⟩ := d_int hmx
      have hh0 : ∀ {hh : Int}, hh = 0 → ((hv = none ∧ hh = 1) ∨ ∃ k, hv = some (.int k hh)) → ∃ k, hv = some (.int k 0) := fun e h => by
        subst e
        rcases h with ⟨_, h⟩ | h
        · omega
        · exact h
      have hl0 : ∀ {l : Int}, l = 0 → ((lv = none ∧ l = 0) ∨ ∃ k, lv = some (.int k l)) → lv = none ∨ ∃ k, lv = some (.int k 0) := fun e h => by
        subst e
        exact h.imp (·.1) id
      split at hq
      · rename_i k' xs
        obtain ⟨hh, hq, hhv⟩ := qBound_sound hhi hq
        obtain ⟨l, ⟨e1, e2, hsz, hK⟩, hlv⟩ := qBound_sound hlo hq
        obtain ⟨A, c, rfl, _⟩ := d_ints hx
        exact ⟨_, _, fun w' _ => slice3_run hu hsz (hl0 e1 hlv) (hh0 e2 hhv), em_cut rfl, hK⟩
      · rename_i k' xs
        obtain ⟨hh, hq, hhv⟩ := qBound_sound hhi hq
        obtain ⟨l, ⟨e1, e2, hsz, hK⟩, hlv⟩ := qBound_sound hlo hq
        obtain ⟨A, c, rfl, _⟩ := d_sl hx
        exact ⟨_, _, fun w' _ => slice3_run hu hsz (hl0 e1 hlv) (hh0 e2 hhv), em_cut rfl, hK⟩
      · obtain ⟨hh, hq, hhv⟩ := qBound_sound hhi hq
        obtain ⟨l, ⟨e1, e2, hsz, hK⟩, hlv⟩ := qBound_sound hlo hq
        simp only [VRel] at hx
        obtain ⟨⟨A, rfl⟩, he⟩ := hx
        exact ⟨_, _, fun w' _ => slice3_run hu hsz (hl0 e1 hlv) (hh0 e2 hhv), em_cut he, hK⟩
      · obtain ⟨hh, hq, hhv⟩ := qBound_sound hhi hq
        obtain ⟨l, ⟨e1, e2, hsz, hK⟩, hlv⟩ := qBound_sound hlo hq
        simp only [VRel] at hx
        obtain ⟨rfl, he⟩ := hx
        exact ⟨_, _, fun w' _ => slice3_run hu hsz (hl0 e1 hlv) (hh0 e2 hhv), by simp [VRel, he], hK⟩
      · exact hq.elim
    · exact hq.elim
  · rename_i hu
    split at hq
    · rename_i xs
      cases mv <;> simp only [ORelV] at hmx
      obtain ⟨hh, hq, hhv⟩ := qBound_sound hhi hq
      obtain ⟨l, ⟨h0, h1, h2, hK⟩, hlv⟩ := qBound_sound hlo hq
      obtain ⟨st, rfl, rfl, hl⟩ := d_str hx
      rw [bytesOf_length] at h2 hhv
      refine ⟨.string (st.extract l.toNat hh.toNat), _, fun w' _ => ?_, ?_, hK⟩
      · simp only [Instr.sliceAt, Sem.run_bind, run_underlying hu, Result.andThen_ok, Instr.slice, Option.isSome_none, Bool.false_eq_true, if_false, sliceBounds_run h2 hlv hhv h0 h1, Sem.run_pure]
      · simp only [VRel, Rep]
        refine ⟨_, ⟨_, rfl, ?_, ?_⟩, rfl⟩
        · simp [bytesOf, ByteArray.data_extract, List.map_take, List.map_drop, dropTake]
        · simp; omega
    · exact hq.elim
  · exact hq.elim

theorem allD_spec : ∀ {xs : List AVal} {ds : List D}, allD xs = some ds → xs = ds.map AVal.d
  | [], ds, h => by simp [allD] at h; subst h; rfl
  | .d x :: r, ds, h => by
    simp only [allD] at h
    split at h
    · rename_i ds' h1
      injection h with h; subst h
      rw [allD_spec h1]; rfl
    · cases h
  | .any :: r, ds, h | .un :: r, ds, h | .em _ :: r, ds, h | .nls _ :: r, ds, h | .own _ :: r, ds, h | .view _ _ _ :: r, ds, h | .optr _ _ :: r, ds, h | .ag _ _ :: r, ds, h | .tup _ :: r, ds, h | .ofn _ _ :: r, ds, h => by simp [allD] at h

theorem vall_rep : ∀ {ds : List D} {vs : List Value}, (∀ d ∈ ds, d.isAgg = false) → VAll w β S (ds.map AVal.d) vs → RepAll w S ds vs
  | [], vs, _, h => by simp only [List.map_nil, VAll] at h; simp only [RepAll]; exact h
  | d :: ds, vs, h1, h => by
    simp only [List.map_cons, VAll, VRel] at h
    obtain ⟨v, r, rfl, ⟨cs, hr, rfl⟩, h2⟩ := h
    simp only [RepAll]
    have hd := h1 d (by simp)
    have hsz := Rep.size _ _ hr
    have : d.size = 1 := by cases d <;> simp_all [D.isAgg, D.size]
    rw [this] at hsz
    match cs, hsz with
    | [u], _ => exact ⟨[u], r, by simp [packD_one hd], hr, vall_rep (fun e he => h1 e (List.mem_cons_of_mem _ he)) h2⟩

theorem qFunc_sound {f : Fn} {first caps : List AVal} {fv cv : Array Value} {K : AVal → Prop} (hf : VAll w β S first fv.toList) (hc : VAll w β S caps cv.toList) (hq : qFunc f first caps K) :
    ∃ r, VRel w β S r (.func f fv cv) ∧ K r := by
  unfold qFunc at hq
  split at hq
  · simp only [VAll] at hf
    have : fv = #[] := by simpa using hf
    subst this
    split at hq
    · rename_i ds hd
      obtain ⟨h0, hK⟩ := hq
      have h1 := noAgg_spec h0
      refine ⟨_, ?_, hK⟩
      rw [allD_spec hd] at hc
      simp only [VRel, Rep]
      exact ⟨_, ⟨cv, rfl, vall_rep h1 hc⟩, rfl⟩
    · refine ⟨_, ?_, hq⟩
      simp only [VRel]
      exact ⟨cv, rfl, hc⟩
  · exact hq.elim

theorem max_k {k : IntKind} {x y : Int} (hx : k.wrap x = x) (hy : k.wrap y = y) : k.wrap (max x y) = max x y := by
  rcases Int.le_total x y with h | h
  · rw [Int.max_eq_right h]; exact hy
  · rw [Int.max_eq_left h]; exact hx
theorem min_k {k : IntKind} {x y : Int} (hx : k.wrap x = x) (hy : k.wrap y = y) : k.wrap (min x y) = min x y := by
  rcases Int.le_total x y with h | h
  · rw [Int.min_eq_left h]; exact hx
  · rw [Int.min_eq_right h]; exact hy

theorem max2_run {w : World} {k k' : IntKind} {x y : Int} : (Builtin.max2 (.int k x) (.int k' y)).run P w = .ok (.int k (max x y)) w := by
  simp only [Builtin.max2, Sem.run_pure]
  congr 2
  split <;> omega
theorem min2_run {w : World} {k k' : IntKind} {x y : Int} : (Builtin.min2 (.int k x) (.int k' y)).run P w = .ok (.int k (min x y)) w := by
  simp only [Builtin.min2, Sem.run_pure]
  congr 2
  split <;> omega

theorem qMinMax_sound {m : Bool} {xs : List AVal} {vs : List Value} {K : AVal → Prop} {ts : Array TypeId} {ty : TypeId} (hx : VAll w β S xs vs) (hq : qMinMax m xs K) :
    ∃ z r, Runs0 P w (if m = true then Builtin.max_ ts ty vs.toArray else Builtin.min_ ts ty vs.toArray) z ∧ VRel w β S r z ∧ K r := by
  unfold qMinMax at hq
  split at hq
  · simp only [VAll] at hx
    obtain ⟨v1, _, rfl, h1, v2, _, rfl, h2, rfl⟩ := hx
    obtain ⟨rfl, e1⟩ := d_int h1
    obtain ⟨rfl, e2⟩ := d_int h2
    obtain ⟨rfl, hK⟩ := hq
    exact ⟨_, _, fun w' _ => by simp [Builtin.max_, max2_run], vrel_int (by simpa using max_k e1 e2), hK⟩
  · simp only [VAll] at hx
    obtain ⟨v1, _, rfl, h1, v2, _, rfl, h2, v3, _, rfl, h3, rfl⟩ := hx
    obtain ⟨rfl, e1⟩ := d_int h1
    obtain ⟨rfl, e2⟩ := d_int h2
    obtain ⟨rfl, e3⟩ := d_int h3
    obtain ⟨rfl, rfl, hK⟩ := hq
    exact ⟨_, _, fun w' _ => by simp [Builtin.max_, max2_run], vrel_int (by simpa using max_k (max_k e1 e2) e3), hK⟩
  · simp only [VAll] at hx
    obtain ⟨v1, _, rfl, h1, v2, _, rfl, h2, v3, _, rfl, h3, v4, _, rfl, h4, rfl⟩ := hx
    obtain ⟨rfl, e1⟩ := d_int h1
    obtain ⟨rfl, e2⟩ := d_int h2
    obtain ⟨rfl, e3⟩ := d_int h3
    obtain ⟨rfl, e4⟩ := d_int h4
    obtain ⟨rfl, rfl, rfl, hK⟩ := hq
    exact ⟨_, _, fun w' _ => by simp [Builtin.max_, max2_run], vrel_int (by simpa using max_k (max_k (max_k e1 e2) e3) e4), hK⟩
  · simp only [VAll] at hx
    obtain ⟨v1, _, rfl, h1, v2, _, rfl, h2, rfl⟩ := hx
    obtain ⟨rfl, e1⟩ := d_int h1
    obtain ⟨rfl, e2⟩ := d_int h2
    obtain ⟨rfl, hK⟩ := hq
    exact ⟨_, _, fun w' _ => by simp [Builtin.min_, min2_run], vrel_int (by simpa using min_k e1 e2), hK⟩
  · simp only [VAll] at hx
    obtain ⟨v1, _, rfl, h1, v2, _, rfl, h2, v3, _, rfl, h3, rfl⟩ := hx
    obtain ⟨rfl, e1⟩ := d_int h1
    obtain ⟨rfl, e2⟩ := d_int h2
    obtain ⟨rfl, e3⟩ := d_int h3
    obtain ⟨rfl, rfl, hK⟩ := hq
    exact ⟨_, _, fun w' _ => by simp [Builtin.min_, min2_run], vrel_int (by simpa using min_k (min_k e1 e2) e3), hK⟩
  · simp only [VAll] at hx
    obtain ⟨v1, _, rfl, h1, v2, _, rfl, h2, v3, _, rfl, h3, v4, _, rfl, h4, rfl⟩ := hx
    obtain ⟨rfl, e1⟩ := d_int h1
    obtain ⟨rfl, e2⟩ := d_int h2
    obtain ⟨rfl, e3⟩ := d_int h3
    obtain ⟨rfl, e4⟩ := d_int h4
    obtain ⟨rfl, rfl, rfl, hK⟩ := hq
    exact ⟨_, _, fun w' _ => by simp [Builtin.min_, min2_run], vrel_int (by simpa using min_k (min_k (min_k e1 e2) e3) e4), hK⟩
  · exact hq.elim

/-! ### All of them: which operations these are, and what each asks -/
def quietOp : Op → Bool
  | .move _ | .assign _ | .pick .. | .load .. | .nilCheck _ | .binOp .. | .unOp .. | .convert .. | .makeFunc .. | .slice .. | .fieldAddr .. | .field .. | .indexAddr .. | .index .. | .extract .. => true
  | .call { callee := .builtin .len, .. } | .call { callee := .builtin .max, .. } | .call { callee := .builtin .min, .. } => true
  | _ => false

def aevO (P : Program) (s : AState) (ty : TypeId) (x : Option Operand) : Option AVal := x.map (aev P s ty)
def constBO (P : Program) (ty : TypeId) (x : Option Operand) : Bool := match x with | some x => constB P ty x | none => true
def constOkO (P : Program) (ty : TypeId) (x : Option Operand) : Prop := constBO P ty x = true

def constsB (P : Program) (ty : TypeId) : List Operand → Bool
  | [] => true
  | x :: r => constB P ty x && constsB P ty r
def constsOk (P : Program) (ty : TypeId) (xs : List Operand) : Prop := constsB P ty xs = true
theorem constsOk.all {P : Program} {ty : TypeId} : ∀ {xs : List Operand}, constsOk P ty xs → ∀ x ∈ xs, constOk P ty x
  | [], _, x, h => by simp at h
  | y :: r, hc, x, h => by
    simp only [constsOk, constsB, Bool.and_eq_true] at hc
    rcases List.mem_cons.1 h with rfl | h
    · exact hc.1
    · exact constsOk.all hc.2 x h

def qCall (P : Program) (s : AState) (ty : TypeId) (c : Call) (K : AVal → Prop) : Prop :=
  match c.callee with
  | .builtin b =>
    match b with
    | .len =>
      (match c.args.toList, c.argTypes.toList with
      | [x], [t] => constOk P t x ∧ qLen P s t (aev P s t x) K
      | _, _ => False)
    | .max => constsOk P ty c.args.toList ∧ qMinMax true (c.args.toList.map (aev P s ty)) K
    | .min => constsOk P ty c.args.toList ∧ qMinMax false (c.args.toList.map (aev P s ty)) K
    | _ => False
  | _ => False

/-- Which of them read the memory. -/
def readsO : Op → Bool
  | .load .. | .convert .. => true
  | _ => false

def aquiet (P : Program) (s : AState) (o : Oper) (K : AVal → Prop) : Prop :=
  match o.op with
  | .move x | .assign x => constOk P o.type x ∧ K (aev P s o.type x)
  | .pick c x y =>
    match aev P s o.type c with
    | .d (.bool b) => constOk P o.type c ∧ constOk P o.type x ∧ constOk P o.type y ∧ (b = true → K (aev P s o.type x)) ∧ (b = false → K (aev P s o.type y))
    | _ => False
  | .load t x => (constOk P 0 x) ∧ qLoad P s t (aev P s 0 x) K
  | .nilCheck x => (constOk P 0 x) ∧ qNil (aev P s 0 x) K
  | .binOp op t x y ty => (constOk P t x ∧ constOk P ty y) ∧ qBin P s op t (aev P s t x) (aev P s ty y) K
  | .unOp op t x => (constOk P t x) ∧ qUn op (aev P s t x) K
  | .convert src dst x => (constOk P src x) ∧ qConv P src dst (aev P s src x) K
  | .makeFunc f first caps => (constsOk P 0 first.toList ∧ constsOk P 0 caps.toList) ∧ qFunc f (first.toList.map (aev P s 0)) (caps.toList.map (aev P s 0)) K
  | .slice t x lo hi mx => (constOk P t x ∧ constOkO P 0 lo ∧ constOkO P 0 hi ∧ constOkO P 0 mx) ∧ qSlice P s t (aev P s t x) (aevO P s 0 lo) (aevO P s 0 hi) (aevO P s 0 mx) K
  | .fieldAddr t x f => (constOk P 0 x) ∧ qFieldAddr P t (aev P s 0 x) f K
  | .field t x f => (constOk P t x) ∧ qField P t (aev P s t x) f K
  | .indexAddr t x i => (constOk P t x ∧ constOk P 0 i) ∧ qIndexAddr P s t (aev P s t x) (aev P s 0 i) K
  | .index t x i => (constOk P t x ∧ constOk P 0 i) ∧ qIndex P t (aev P s t x) (aev P s 0 i) K
  | .extract x i => (constOk P 0 x) ∧ qExtract (aev P s 0 x) i K
  | .call c => qCall P s o.type c K
  | _ => False

theorem aevO_rel (h : ARelB C s β S a w) {ty : TypeId} {x : Option Operand} (hc : constOkO P ty x) : ORelV w β S (aevO P s ty x) (x.map a.eval) := by
  cases x with
  | none => simp [aevO, ORelV]
  | some x => simp only [aevO, Option.map_some, ORelV]; exact aev_rel h hc

theorem aevs_rel (h : ARelB C s β S a w) {ty : TypeId} : ∀ {xs : List Operand}, (∀ x ∈ xs, constOk P ty x) → VAll w β S (xs.map (aev P s ty)) (xs.map a.eval)
  | [], _ => by simp [VAll]
  | x :: xs, hc => by
    simp only [List.map_cons, VAll]
    exact ⟨_, _, rfl, aev_rel h (hc x (by simp)), aevs_rel h fun y hy => hc y (List.mem_cons_of_mem _ hy)⟩

theorem run_value {w : World} {m : Sem Value} {v : Value} (h : m.run P w = .ok v w) : (do pure (Next.value (← m)) : Sem Next).run P w = .ok (.value v) w := by
  simp only [Sem.run_bind, h, Result.andThen_ok, Sem.run_pure]

theorem aquiet_sound (h : ARelB C s β S a w) {o : Oper} {K : AVal → Prop} (hq : aquiet P s o K) :
    ∃ v r, (∀ w', (readsO o.op = true → Ext w w') → (execOp a.eval o).run P w' = .ok (.value v) w') ∧ VRel w β S r v ∧ K r := by
  obtain ⟨dst, op, type, pos, after, guard⟩ := o
  cases op <;> simp only [aquiet] at hq
  case move x => exact ⟨_, _, fun w' _ => rfl, aev_rel h hq.1, hq.2⟩
  case assign x => exact ⟨_, _, fun w' _ => rfl, aev_rel h hq.1, hq.2⟩
  case pick c x y =>
    split at hq
    · rename_i b hb
      obtain ⟨h1, h2, h3, hK⟩ := hq
      have hc := aev_rel h h1
      rw [hb] at hc
      have e := d_bool hc
      cases b
      · exact ⟨_, _, fun w' _ => by simp [execOp, e, asBool], aev_rel h h3, hK.2 rfl⟩
      · exact ⟨_, _, fun w' _ => by simp [execOp, e, asBool], aev_rel h h2, hK.1 rfl⟩
    · exact hq.elim
  case load t x =>
    obtain ⟨u, r, h1, h2, h3⟩ := qLoad_sound (P := P) h (aev_rel h hq.1) hq.2
    exact ⟨u, r, fun w' hw => run_value (h1 w' (hw rfl)), h2, h3⟩
  case nilCheck x =>
    obtain ⟨r, h1, h2, h3⟩ := qNil_sound (P := P) (o := ⟨dst, .nilCheck x, type, pos, after, guard⟩) (aev_rel h hq.1) hq.2 rfl rfl
    exact ⟨_, r, fun w' _ => h1 w', h2, h3⟩
  case binOp op t x y ty =>
    obtain ⟨u, r, h1, h2, h3⟩ := qBin_sound (P := P) h (aev_rel h hq.1.1) (aev_rel h hq.1.2) hq.2 x y
    exact ⟨u, r, fun w' hw => run_value (h1 w' trivial), h2, h3⟩
  case unOp op t x =>
    obtain ⟨u, r, h1, h2, h3⟩ := qUn_sound (P := P) (aev_rel h hq.1) hq.2
    exact ⟨u, r, fun w' hw => run_value (h1 w' trivial), h2, h3⟩
  case convert src dst x =>
    obtain ⟨u, r, h1, h2, h3⟩ := qConv_sound (P := P) h (aev_rel h hq.1) hq.2
    exact ⟨u, r, fun w' hw => run_value (h1 w' (hw rfl)), h2, h3⟩
  case makeFunc f first caps =>
    have e1 := aevs_rel h hq.1.1.all
    have e2 := aevs_rel h hq.1.2.all
    obtain ⟨r, h2, h3⟩ := qFunc_sound (fv := first.map a.eval) (cv := caps.map a.eval) (by simpa using e1) (by simpa using e2) hq.2
    exact ⟨_, r, fun w' _ => rfl, h2, h3⟩
  case slice t x lo hi mx =>
    obtain ⟨u, r, h1, h2, h3⟩ := qSlice_sound (P := P) h (aev_rel h hq.1.1) (aevO_rel h hq.1.2.1) (aevO_rel h hq.1.2.2.1) (aevO_rel h hq.1.2.2.2) hq.2
    exact ⟨u, r, fun w' hw => run_value (h1 w' trivial), h2, h3⟩
  case fieldAddr t x f =>
    obtain ⟨u, r, h1, h2, h3⟩ := qFieldAddr_sound (P := P) (aev_rel h hq.1) hq.2
    exact ⟨u, r, fun w' hw => run_value (h1 w' trivial), h2, h3⟩
  case field t x f =>
    obtain ⟨u, r, h1, h2, h3⟩ := qField_sound (P := P) (aev_rel h hq.1) hq.2
    exact ⟨u, r, fun w' hw => run_value (h1 w' trivial), h2, h3⟩
  case indexAddr t x i =>
    obtain ⟨u, r, h1, h2, h3⟩ := qIndexAddr_sound (P := P) h (aev_rel h hq.1.1) (aev_rel h hq.1.2) hq.2
    exact ⟨u, r, fun w' hw => run_value (h1 w' trivial), h2, h3⟩
  case index t x i =>
    obtain ⟨u, r, h1, h2, h3⟩ := qIndex_sound (P := P) (aev_rel h hq.1.1) (aev_rel h hq.1.2) hq.2
    exact ⟨u, r, fun w' hw => run_value (h1 w' trivial), h2, h3⟩
  case extract x i =>
    obtain ⟨u, r, h1, h2, h3⟩ := qExtract_sound (P := P) (aev_rel h hq.1) hq.2
    exact ⟨u, r, fun w' hw => run_value (h1 w' trivial), h2, h3⟩
  case call c =>
    obtain ⟨callee, args, ts⟩ := c
    unfold qCall at hq
    cases callee
    case value f => exact hq.elim
    case invoke r m => exact hq.elim
    rename_i b
    cases b
    all_goals (try (exact hq.elim))
    case len =>
      dsimp only at hq
      split at hq
      · rename_i x t e1 e2
        have e1 : args = #[x] := by apply Array.ext'; simpa using e1
        have e2 : ts = #[t] := by apply Array.ext'; simpa using e2
        subst e1; subst e2
        obtain ⟨u, r, h1, h2, h3⟩ := qLen_sound (P := P) (ty := type) h (aev_rel h hq.1) hq.2
        refine ⟨u, r, fun w' hw => ?_, h2, h3⟩
        have := run_value (h1 w' trivial)
        simpa [execOp, resolve, invoke, builtin] using this
      · exact hq.elim
    case max =>
      obtain ⟨u, r, h1, h2, h3⟩ := qMinMax_sound (P := P) (ts := ts) (ty := type) (aevs_rel h hq.1.all) hq.2
      refine ⟨u, r, fun w' hw => ?_, h2, h3⟩
      have := run_value (h1 w' trivial)
      rw [show (args.toList.map a.eval).toArray = args.map a.eval by apply Array.ext'; simp] at this
      simpa [execOp, resolve, invoke, builtin] using this
    case min =>
      obtain ⟨u, r, h1, h2, h3⟩ := qMinMax_sound (P := P) (ts := ts) (ty := type) (aevs_rel h hq.1.all) hq.2
      refine ⟨u, r, fun w' hw => ?_, h2, h3⟩
      have := run_value (h1 w' trivial)
      rw [show (args.toList.map a.eval).toArray = args.map a.eval by apply Array.ext'; simp] at this
      simpa [execOp, resolve, invoke, builtin] using this

end
end Go.Proofs.Ytniaeiikdgbnfaa.AW
