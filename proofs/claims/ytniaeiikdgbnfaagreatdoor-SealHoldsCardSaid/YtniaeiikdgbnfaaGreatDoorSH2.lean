/- Parts AW7, AW8, AW9, AW10, AW11. No condition of its own. -/
import Derived.Test.YtniaeiikdgbnfaaGreatDoorSH1
import Derived.Laws.IdiomCopy

namespace Go.Proofs.YtniaeiikdgbnfaaGreatDoor.AW
open Go Go.RowKit
set_option linter.unusedSectionVars false
variable [Globs]

section
variable {P : Program} {C : Ctx} {s : AState} {β : Nat → Option Value} {S : Nat → Prop} {a : Act} {w : World}

theorem qUn_sound {op : UnOp} {x : AVal} {v : Value} {K : AVal → Prop} (hx : VRel w β S x v) (hq : qUn op x K) :
    ∃ z r, Runs0 P w (Op.unary op v) z ∧ VRel w β S r z ∧ K r := by
  unfold qUn at hq
  split at hq
  · have e := d_bool hx; subst e
    exact ⟨_, _, fun w' _ => by simp only [Op.unary, Sem.run_pure], vrel_bool, hq⟩
  · obtain ⟨rfl, hk⟩ := d_int hx
    exact ⟨_, _, fun w' _ => by simp only [Op.unary, Op.intArith, Sem.run_pure], vrel_int (wrap_wrap _ _), hq⟩
  · obtain ⟨rfl, hk⟩ := d_int hx
    exact ⟨_, _, fun w' _ => by simp only [Op.unary, Op.intBits, Sem.run_pure]; rfl, vrel_int (by simp [bitsK, wrap_wrap]), hq⟩
  · exact hq.elim

theorem loadCells_list {w : World} {b o : Nat} {cs : List Value} (h : Cells w b o cs) {n : Nat} (hn : cs.length = n) : (loadCells ⟨b, o, none⟩ n).run P w = .ok cs.toArray w := by
  subst hn; exact loadCells_run h

theorem bytes_fold {w : World} (f : Value → ByteArray → Sem (ForInStep ByteArray)) (hf : ∀ n r, f (.int .u8 n) r = pure (ForInStep.yield (r.push (UInt8.ofNat n.toNat)))) :
    ∀ (xs : List Int) (s : ByteArray), (∀ x ∈ xs, IntKind.u8.wrap x = x) → ∃ r : ByteArray, (forIn (xs.map (Value.int .u8)) s f : Sem ByteArray).run P w = .ok r w ∧ bytesOf r = bytesOf s ++ xs
  | [], s, _ => ⟨s, by simp, by simp⟩
  | x :: xs, s, h => by
    obtain ⟨r, h1, h2⟩ := bytes_fold f hf xs (s.push (UInt8.ofNat x.toNat)) (fun y hy => h y (List.mem_cons_of_mem _ hy))
    refine ⟨r, ?_, ?_⟩
    · simp only [List.map_cons, List.forIn_cons, hf, Sem.run_bind, Sem.run_pure, Result.andThen_ok]
      exact h1
    · rw [h2]
      have := (wrap_in.1 (h x (by simp)))
      simp [loK, hiK] at this
      simp [bytesOf, ByteArray.push]
      omega

theorem bytesToString_run {w : World} {b o n c : Nat} {xs : List Int} (hl : xs.length = n) (hwf : ∀ x ∈ xs, IntKind.u8.wrap x = x) (hc : Cells w b o (xs.map (Value.int .u8))) :
    ∃ r : ByteArray, (Conv.bytesToString (.slice (some ⟨b, o, none⟩) n c)).run P w = .ok (.string r) w ∧ bytesOf r = xs := by
  unfold Conv.bytesToString
  simp only [Sem.run_bind, loadCells_list hc (by simpa using hl), Result.andThen_ok]
  simp only [← Array.forIn_toList]
  generalize hf : (fun (c : Value) (r : ByteArray) => (_ : Sem (ForInStep ByteArray))) = f
  obtain ⟨r, h1, h2⟩ := bytes_fold (P := P) (w := w) f (fun n r => by rw [← hf]) xs .empty hwf
  refine ⟨r, ?_, by rw [h2]; simp [bytesOf]⟩
  rw [h1]
  simp

theorem qConv_sound (h : ARelB C s β S a w) {src dst : TypeId} {x : AVal} {v : Value} {K : AVal → Prop} (hx : VRel w β S x v) (hq : qConv P src dst x K) :
    ∃ z r, Runs P w (convert src dst v) z ∧ VRel w β S r z ∧ K r := by
  unfold qConv at hq
  split at hq
  · rename_i k' k k'' n h1 h2
    obtain ⟨rfl, hk⟩ := d_int hx
    exact ⟨_, _, fun w' _ => by simp only [convert, Sem.run_bind, run_underlying h1, run_underlying h2, Result.andThen_ok, Conv.intToInt, Sem.run_pure], vrel_int (wrap_wrap _ _), hq⟩
  · rename_i xs h1 h2
    obtain ⟨s', rfl, hs⟩ := d_str hx
    refine ⟨.string s', _, fun w' _ => by simp only [convert, Sem.run_bind, run_underlying h1, run_underlying h2, Result.andThen_ok, Sem.run_pure], ?_, hq⟩
    simp only [VRel, Rep]; exact ⟨_, ⟨s', rfl, hs⟩, rfl⟩
  · rename_i e xs h1 h2
    obtain ⟨hu, hK⟩ := hq
    obtain ⟨A, c, rfl, hle, hl, hwf, hne⟩ := d_ints hx
    by_cases hxs : xs = []
    · subst hxs
      cases A with
      | none =>
        refine ⟨.string .empty, _, fun w' _ => ?_, ?_, hK⟩
        · simp only [convert, Sem.run_bind, run_underlying h1, run_underlying h2, run_underlying hu, Result.andThen_ok, Conv.bytesToString, Sem.run_pure]
        · simp only [VRel, Rep]; exact ⟨_, ⟨_, rfl, rfl, by simp⟩, rfl⟩
      | some A =>
        refine ⟨.string .empty, _, fun w' _ => ?_, ?_, hK⟩
        · simp [convert, run_underlying h1, run_underlying h2, run_underlying hu, Conv.bytesToString, loadCells, loadCellsFrom]
        · simp only [VRel, Rep]; exact ⟨_, ⟨_, rfl, rfl, by simp⟩, rfl⟩
    · obtain ⟨b, o, rfl, hb, hc⟩ := hne hxs
      have hrun : ∀ w', Ext w w' → ∃ r : ByteArray, (Conv.bytesToString (.slice (some ⟨b, o, none⟩) xs.length c)).run P w' = .ok (.string r) w' ∧ bytesOf r = xs := fun w' hw =>
        bytesToString_run rfl hwf (hc.keep (hw b (h.st.inS b hb)))
      obtain ⟨r, h3, h4⟩ := hrun w (Ext.refl w)
      refine ⟨.string r, _, fun w' hw => ?_, ?_, hK⟩
      · obtain ⟨r', h5, h6⟩ := hrun w' hw
        have hr : r' = r := by
          have := bytes_inj (h6.trans h4.symm)
          rw [toList_data, toList_data] at this
          cases r; cases r'; simp_all [Array.toList_inj]
        subst hr
        simp only [convert, Sem.run_bind, run_underlying h1, run_underlying h2, run_underlying hu, Result.andThen_ok, h5]
      · simp only [VRel, Rep]
        exact ⟨_, ⟨r, rfl, h4, by rw [← bytesOf_length, h4]; exact hl⟩, rfl⟩
  · rename_i e y h1 h2
    obtain ⟨hu, hK⟩ := hq
    simp only [VRel] at hx
    obtain ⟨⟨A, rfl⟩, _⟩ := hx
    cases A with
    | none =>
      refine ⟨.string .empty, _, fun w' _ => ?_, ?_, hK⟩
      · simp only [convert, Sem.run_bind, run_underlying h1, run_underlying h2, run_underlying hu, Result.andThen_ok, Conv.bytesToString, Sem.run_pure]
      · simp only [VRel, Rep]; exact ⟨_, ⟨_, rfl, rfl, by simp⟩, rfl⟩
    | some A =>
      refine ⟨.string .empty, _, fun w' _ => ?_, ?_, hK⟩
      · simp [convert, run_underlying h1, run_underlying h2, run_underlying hu, Conv.bytesToString, loadCells, loadCellsFrom]
      · simp only [VRel, Rep]; exact ⟨_, ⟨_, rfl, rfl, by simp⟩, rfl⟩
  · rename_i e y h1 h2
    obtain ⟨hu, hK⟩ := hq
    simp only [VRel] at hx
    obtain ⟨rfl, _⟩ := hx
    refine ⟨.string .empty, _, fun w' _ => ?_, ?_, hK⟩
    · simp only [convert, Sem.run_bind, run_underlying h1, run_underlying h2, run_underlying hu, Result.andThen_ok, Conv.bytesToString, Sem.run_pure]
    · simp only [VRel, Rep]; exact ⟨_, ⟨_, rfl, rfl, by simp⟩, rfl⟩
  · exact hq.elim

/-- A bound's value. -/
def ORelV (w : World) (β : Nat → Option Value) (S : Nat → Prop) : Option AVal → Option Value → Prop
  | none, none => True
  | some x, some v => VRel w β S x v
  | _, _ => False

theorem qBound_sound {x : Option AVal} {v : Option Value} {d : Int} {K : Int → Prop} (hx : ORelV w β S x v) (hq : qBound x d K) :
    ∃ n, K n ∧ ((v = none ∧ n = d) ∨ ∃ k, v = some (.int k n)) := by
  unfold qBound at hq
  split at hq
  · cases v <;> simp [ORelV] at hx
    exact ⟨d, hq, .inl ⟨rfl, rfl⟩⟩
  · rename_i k n
    cases v <;> simp only [ORelV] at hx
    obtain ⟨rfl, _⟩ := d_int hx
    exact ⟨n, hq, .inr ⟨k, rfl⟩⟩
  · exact hq.elim

theorem sliceBound_run {w : World} {k : IntKind} {n : Int} {y : Nat} {c : BoundsCode} (h : 0 ≤ n ∧ n ≤ y) : (Instr.sliceBound (.int k n) y c).run P w = .ok n.toNat w := by
  simp [Instr.sliceBound, asIntOf, h]

theorem sliceBounds_run {w : World} {b : Bool} {len cap : Nat} {lo hi : Option Value} {l h : Int} (hcap : h ≤ cap) (hl : (lo = none ∧ l = 0) ∨ ∃ k, lo = some (.int k l)) (hh : (hi = none ∧ h = len) ∨ ∃ k, hi = some (.int k h))
    (h0 : 0 ≤ l) (h1 : l ≤ h) : (Instr.sliceBounds b len cap lo hi none).run P w = .ok (l.toNat, h.toNat, cap) w := by
  have e1 : (0 ≤ h ∧ h ≤ (cap : Int)) := ⟨by omega, hcap⟩
  have e2 : (0 ≤ l ∧ l ≤ (h.toNat : Int)) := ⟨h0, by omega⟩
  unfold Instr.sliceBounds
  rcases hl with ⟨rfl, rfl⟩ | ⟨k, rfl⟩ <;> rcases hh with ⟨rfl, rfl⟩ | ⟨k', rfl⟩
  · simp
  · simp only [Sem.run_bind, Sem.run_pure, Result.andThen_ok, sliceBound_run e1]; rfl
  · simp only [Int.toNat_natCast] at e2
    simp only [Sem.run_bind, Sem.run_pure, Result.andThen_ok, Int.toNat_natCast]
    simp [sliceBound_run e2]
  · simp only [Sem.run_bind, Sem.run_pure, Result.andThen_ok, sliceBound_run e1]
    simp [sliceBound_run e2]

theorem sliceBounds3_run {w : World} {b : Bool} {len cap : Nat} {lo hi : Option Value} {k : IntKind} (hl : lo = none ∨ ∃ k, lo = some (.int k 0)) (hh : ∃ k, hi = some (.int k 0)) :
    (Instr.sliceBounds b len cap lo hi (some (.int k 0))).run P w = .ok (0, 0, 0) w := by
  obtain ⟨k', rfl⟩ := hh
  unfold Instr.sliceBounds
  rcases hl with rfl | ⟨k'', rfl⟩ <;> simp [Instr.sliceBound, asIntOf]

theorem RepRow.take {sz : Nat} : ∀ (ds : List D) (b o n : Nat), RepRow w S sz ds b o → RepRow w S sz (ds.take n) b o
  | [], b, o, n, h => by simp [RepRow]
  | d :: ds, b, o, 0, h => by simp [RepRow]
  | d :: ds, b, o, n + 1, h => by
    simp only [RepRow, List.take_succ_cons] at h ⊢
    exact ⟨h.1, RepRow.take ds b _ n h.2⟩
theorem RepRow.drop {sz : Nat} : ∀ (ds : List D) (b o n : Nat), RepRow w S sz ds b o → RepRow w S sz (ds.drop n) b (o + n * sz)
  | [], b, o, n, h => by simp [RepRow]
  | d :: ds, b, o, 0, h => by simpa using h
  | d :: ds, b, o, n + 1, h => by
    simp only [RepRow, List.drop_succ_cons] at h ⊢
    have := RepRow.drop ds b _ n h.2
    rwa [show o + sz + n * sz = o + (n + 1) * sz by rw [Nat.add_mul]; omega] at this

theorem slice_run {w : World} {t e : TypeId} {sz : Nat} (hu : P.underlying t = some (.slice e)) (hsz : szT P e = some sz) {A : Option Addr} {len cap : Nat} {lo hi : Option Value} {l h : Int} (hcap : h ≤ cap)
    (hl : (lo = none ∧ l = 0) ∨ ∃ k, lo = some (.int k l)) (hh : (hi = none ∧ h = len) ∨ ∃ k, hi = some (.int k h)) (h0 : 0 ≤ l) (h1 : l ≤ h) :
    (Instr.sliceAt t (.slice A len cap) lo hi none).run P w = .ok (.slice (if cap = l.toNat then A else A.map (·.add (l.toNat * sz))) (h.toNat - l.toNat) (cap - l.toNat)) w := by
  simp only [Instr.sliceAt, Sem.run_bind, run_underlying hu, Result.andThen_ok, Instr.slice, sliceBounds_run hcap hl hh h0 h1, run_sizeT hsz, Sem.run_pure]

theorem slice3_run {w : World} {t e : TypeId} (hu : P.underlying t = some (.slice e)) (hsz : (szT P e).isSome = true) {A : Option Addr} {len cap : Nat} {lo hi : Option Value} {k : IntKind}
    (hl : lo = none ∨ ∃ k, lo = some (.int k 0)) (hh : ∃ k, hi = some (.int k 0)) :
    (Instr.sliceAt t (.slice A len cap) lo hi (some (.int k 0))).run P w = .ok (.slice A 0 0) w := by
  obtain ⟨sz, hsz⟩ := Option.isSome_iff_exists.1 hsz
  simp only [Instr.sliceAt, Sem.run_bind, run_underlying hu, Result.andThen_ok, Instr.slice, sliceBounds3_run hl hh, run_sizeT hsz, Sem.run_pure, if_true, Nat.sub_self]

theorem dropTake {α : Type} (xs : List α) (l h : Nat) : (xs.take h).drop l = (xs.drop l).take (h - l) := by
  rw [List.drop_take]

theorem ints_cut {k : IntKind} {xs : List Int} {A : Option Addr} {c : Nat} {l h : Int} (hle : xs.length ≤ c) (hl : xs.length ≤ LIM) (hwf : ∀ x ∈ xs, k.wrap x = x)
    (hne : xs ≠ [] → ∃ b o, A = some ⟨b, o, none⟩ ∧ S b ∧ Cells w b o (xs.map (Value.int k))) (h0 : 0 ≤ l) (h1 : l ≤ h) (h2 : h ≤ xs.length) :
    VRel w β S (.d (.ints k ((xs.take h.toNat).drop l.toNat))) (.slice (if c = l.toNat then A else A.map (·.add (l.toNat * 1))) (h.toNat - l.toNat) (c - l.toNat)) := by
  have hlen : ((xs.take h.toNat).drop l.toNat).length = h.toNat - l.toNat := by simp; omega
  simp only [VRel, Rep]
  refine ⟨_, ⟨_, _, rfl, ?_, ?_, ?_, ?_⟩, by rw [hlen]; rfl⟩
  · rw [hlen]; omega
  · rw [hlen]; omega
  · exact fun x hx => hwf x (List.mem_of_mem_take (List.mem_of_mem_drop hx))
  · intro hx
    have hpos : 0 < ((xs.take h.toNat).drop l.toNat).length := List.length_pos_iff.2 hx
    obtain ⟨b, o, rfl, hb, hc⟩ := hne (by intro e; subst e; simp at hpos)
    refine ⟨b, o + l.toNat, ?_, hb, ?_⟩
    · rw [if_neg (by omega)]; simp [addr_add]
    · have := hc.sub l.toNat (h.toNat - l.toNat)
      rw [dropTake]
      simpa [List.map_take, List.map_drop] using this

theorem sl_cut {sz : Nat} {es : List D} {A : Option Addr} {c : Nat} {l h : Int} (hle : es.length ≤ c) (hl : es.length ≤ LIM)
    (hne : es ≠ [] → ∃ b o, A = some ⟨b, o, none⟩ ∧ S b ∧ RepRow w S sz es b o) (h0 : 0 ≤ l) (h1 : l ≤ h) (h2 : h ≤ es.length) :
    VRel w β S (.d (.sl sz ((es.take h.toNat).drop l.toNat))) (.slice (if c = l.toNat then A else A.map (·.add (l.toNat * sz))) (h.toNat - l.toNat) (c - l.toNat)) := by
  have hlen : ((es.take h.toNat).drop l.toNat).length = h.toNat - l.toNat := by simp; omega
  simp only [VRel, Rep]
  refine ⟨_, ⟨_, _, rfl, ?_, ?_, ?_⟩, by rw [hlen]; rfl⟩
  · rw [hlen]; omega
  · rw [hlen]; omega
  · intro hx
    have hpos : 0 < ((es.take h.toNat).drop l.toNat).length := List.length_pos_iff.2 hx
    obtain ⟨b, o, rfl, hb, hc⟩ := hne (by intro e; subst e; simp at hpos)
    refine ⟨b, o + l.toNat * sz, ?_, hb, ?_⟩
    · rw [if_neg (by omega)]; simp [addr_add]
    · rw [dropTake]
      exact (hc.drop _ _ _ l.toNat).take _ _ _ _

theorem em_cut {x : D} {A : Option Addr} (he : emptyD x = true) : VRel w β S (.em x) (.slice A 0 0) := by
  simp only [VRel]; exact ⟨⟨A, rfl⟩, he⟩

theorem qSlice_sound (h : ARelB C s β S a w) {t : TypeId} {x : AVal} {v : Value} {lo hi mx : Option AVal} {lv hv mv : Option Value} {K : AVal → Prop} (hx : VRel w β S x v)
    (hlo : ORelV w β S lo lv) (hhi : ORelV w β S hi hv) (hmx : ORelV w β S mx mv) (hq : qSlice P s t x lo hi mx K) :
    ∃ z r, Runs0 P w (Instr.sliceAt t v lv hv mv) z ∧ VRel w β S r z ∧ K r := by
  unfold qSlice at hq
  split at hq
  · rename_i e hu
    split at hq
    · cases mv <;> simp only [ORelV] at hmx
      split at hq
      · rename_i k xs
        obtain ⟨hh, hq, hhv⟩ := qBound_sound hhi hq
        obtain ⟨l, ⟨h0, h1, h2, hsz, hK⟩, hlv⟩ := qBound_sound hlo hq
        obtain ⟨A, c, rfl, hle, hl, hwf, hne⟩ := d_ints hx
        exact ⟨_, _, fun w' _ => slice_run hu hsz (by omega) hlv hhv h0 h1, ints_cut hle hl hwf hne h0 h1 h2, hK⟩
      · rename_i sz es
        obtain ⟨hh, hq, hhv⟩ := qBound_sound hhi hq
        obtain ⟨l, ⟨h0, h1, h2, hsz, hK⟩, hlv⟩ := qBound_sound hlo hq
        obtain ⟨A, c, rfl, hle, hl, hne⟩ := d_sl hx
        exact ⟨_, _, fun w' _ => slice_run hu hsz (by omega) hlv hhv h0 h1, sl_cut hle hl hne h0 h1 h2, hK⟩
      · rename_i j
        split at hq
        · rename_i k t' xs ho
          obtain ⟨hh, hq, hhv⟩ := qBound_sound hhi hq
          obtain ⟨l, ⟨h0, h1, h2, hsz, hK⟩, hlv⟩ := qBound_sound hlo hq
          obtain ⟨bv, hβ0, hob⟩ := h.st.obj j _ (getO_mem ho)
          simp only [ORel] at hob
          simp only [VRel] at hx
          rw [hβ0] at hx; injection hx with hx; subst hx
          rcases hob.1 with ⟨A, e1, e2, _⟩ | ⟨g, cap, cur, e1, hcp, _, hle, _⟩
          · rw [e1]
            refine ⟨_, _, fun w' _ => slice_run (len := 0) (cap := 0) hu hsz (by omega) hlv (by rw [e2] at hhv; exact hhv) h0 h1, ?_, hK⟩
            simp only [VRel]
            exact ⟨_, _, rfl, by omega, fun h => by omega⟩
          · rw [e1]
            refine ⟨_, _, fun w' _ => slice_run hu hsz (by omega) hlv hhv h0 h1, ?_, hK⟩
            simp only [VRel]
            refine ⟨_, _, rfl, by omega, fun h => ⟨g, by rw [hβ0, e1]; simp [blk]; omega, ?_⟩⟩
            rw [if_neg (by omega)]; simp [addr_add]
        · exact hq.elim
      · rename_i j off len
        obtain ⟨hh, hq, hhv⟩ := qBound_sound hhi hq
        obtain ⟨l, ⟨h0, h1, h2, hsz, hK⟩, hlv⟩ := qBound_sound hlo hq
        simp only [VRel] at hx
        obtain ⟨A, c, rfl, hle, hA⟩ := hx
        refine ⟨_, _, fun w' _ => slice_run hu hsz (by omega) hlv hhv h0 h1, ?_, hK⟩
        simp only [VRel]
        refine ⟨_, _, rfl, by omega, fun h => ?_⟩
        obtain ⟨b, hb, rfl⟩ := hA (by omega)
        refine ⟨b, hb, ?_⟩
        rw [if_neg (by omega)]; simp [addr_add]
      · rename_i y
        obtain ⟨hh, hq, hhv⟩ := qBound_sound hhi hq
        obtain ⟨l, ⟨rfl, rfl, hsz, hK⟩, hlv⟩ := qBound_sound hlo hq
        simp only [VRel] at hx
        obtain ⟨⟨A, rfl⟩, he⟩ := hx
        obtain ⟨sz, hsz⟩ := Option.isSome_iff_exists.1 hsz
        exact ⟨_, _, fun w' _ => slice_run hu hsz (by omega) hlv hhv (by omega) (by omega), em_cut he, hK⟩
      · rename_i y
        obtain ⟨hh, hq, hhv⟩ := qBound_sound hhi hq
        obtain ⟨l, ⟨rfl, rfl, hsz, hK⟩, hlv⟩ := qBound_sound hlo hq
        simp only [VRel] at hx
        obtain ⟨rfl, he⟩ := hx
        obtain ⟨sz, hsz⟩ := Option.isSome_iff_exists.1 hsz
        exact ⟨_, _, fun w' _ => slice_run hu hsz (by omega) hlv hhv (by omega) (by omega), by simp only [VRel]; exact ⟨rfl, he⟩, hK⟩
      · exact hq.elim
    · rename_i k
      cases mv <;> simp only [ORelV] at hmx
      obtain ⟨rfl, _⟩ := d_int hmx
      have hh0 : ∀ {hh : Int}, hh = 0 → ((hv = none ∧ hh = 1) ∨ ∃ k, hv = some (.int k hh)) → ∃ k, hv = some (.int k 0) := fun e h => by
        subst e
        rcases h with ⟨_, h⟩ | h
        · omega
        · exact h
      have hl0 : ∀ {l : Int}, l = 0 → ((lv = none ∧ l = 0) ∨ ∃ k, lv = some (.int k l)) → lv = none ∨ ∃ k, lv = some (.int k 0) := fun e h => by
        subst e
        exact h.imp (·.1) id
      split at hq
      · rename_i k' xs
        obtain ⟨hh, hq, hhv⟩ := qBound_sound hhi hq
        obtain ⟨l, ⟨e1, e2, hsz, hK⟩, hlv⟩ := qBound_sound hlo hq
        obtain ⟨A, c, rfl, _⟩ := d_ints hx
        exact ⟨_, _, fun w' _ => slice3_run hu hsz (hl0 e1 hlv) (hh0 e2 hhv), em_cut rfl, hK⟩
      · rename_i k' xs
        obtain ⟨hh, hq, hhv⟩ := qBound_sound hhi hq
        obtain ⟨l, ⟨e1, e2, hsz, hK⟩, hlv⟩ := qBound_sound hlo hq
        obtain ⟨A, c, rfl, _⟩ := d_sl hx
        exact ⟨_, _, fun w' _ => slice3_run hu hsz (hl0 e1 hlv) (hh0 e2 hhv), em_cut rfl, hK⟩
      · obtain ⟨hh, hq, hhv⟩ := qBound_sound hhi hq
        obtain ⟨l, ⟨e1, e2, hsz, hK⟩, hlv⟩ := qBound_sound hlo hq
        simp only [VRel] at hx
        obtain ⟨⟨A, rfl⟩, he⟩ := hx
        exact ⟨_, _, fun w' _ => slice3_run hu hsz (hl0 e1 hlv) (hh0 e2 hhv), em_cut he, hK⟩
      · obtain ⟨hh, hq, hhv⟩ := qBound_sound hhi hq
        obtain ⟨l, ⟨e1, e2, hsz, hK⟩, hlv⟩ := qBound_sound hlo hq
        simp only [VRel] at hx
        obtain ⟨rfl, he⟩ := hx
        exact ⟨_, _, fun w' _ => slice3_run hu hsz (hl0 e1 hlv) (hh0 e2 hhv), by simp [VRel, he], hK⟩
      · exact hq.elim
    · exact hq.elim
  · rename_i n e hu
    split at hq
    · rename_i ds
      cases mv <;> simp only [ORelV] at hmx
      split at hq
      · rename_i k xs hds
        obtain ⟨hn, hlim, hq⟩ := hq
        obtain ⟨hh, hq, hhv⟩ := qBound_sound hhi hq
        obtain ⟨l, ⟨h0, h1, h2, hsz, hK⟩, hlv⟩ := qBound_sound hlo hq
        simp only [VRel, Rep] at hx
        obtain ⟨cs, ⟨b, o, rfl, hb, vs, hc, hr⟩, rfl⟩ := hx
        obtain ⟨rfl, hwf, hne⟩ := agInts_rep ds vs hds hr
        refine ⟨_, _, fun w' _ => ?_, ints_cut (A := some ⟨b, o, none⟩) (c := n) (l := l) (h := hh) (by omega) (by omega) hwf (fun _ => ⟨b, o, rfl, hb, hc⟩) h0 h1 (by omega), hK⟩
        simp only [Instr.sliceAt, Sem.run_bind, run_underlying hu, Result.andThen_ok, packD, List.headD, Instr.sureAddr, Sem.run_pure, sliceBounds_run (len := n) (cap := n) (by omega) hlv hhv h0 h1, run_sizeT hsz]
        by_cases e : n = l.toNat <;> simp [e]
      · exact hq.elim
    · exact hq.elim
  · rename_i hu
    split at hq
    · rename_i xs
      cases mv <;> simp only [ORelV] at hmx
      obtain ⟨hh, hq, hhv⟩ := qBound_sound hhi hq
      obtain ⟨l, ⟨h0, h1, h2, hK⟩, hlv⟩ := qBound_sound hlo hq
      obtain ⟨st, rfl, rfl, hl⟩ := d_str hx
      rw [bytesOf_length] at h2 hhv
      refine ⟨.string (st.extract l.toNat hh.toNat), _, fun w' _ => ?_, ?_, hK⟩
      · simp only [Instr.sliceAt, Sem.run_bind, run_underlying hu, Result.andThen_ok, Instr.slice, Option.isSome_none, Bool.false_eq_true, if_false, sliceBounds_run h2 hlv hhv h0 h1, Sem.run_pure]
      · simp only [VRel, Rep]
        refine ⟨_, ⟨_, rfl, ?_, ?_⟩, rfl⟩
        · simp [bytesOf, ByteArray.data_extract, List.map_take, List.map_drop, dropTake]
        · simp; omega
    · exact hq.elim
  · exact hq.elim

theorem vall_rep : ∀ {ds : List D} {vs : List Value}, (∀ d ∈ ds, d.isAgg = false) → VAll w β S (ds.map AVal.d) vs → RepAll w S ds vs
  | [], vs, _, h => by simp only [List.map_nil, VAll] at h; simp only [RepAll]; exact h
  | d :: ds, vs, h1, h => by
    simp only [List.map_cons, VAll, VRel] at h
    obtain ⟨v, r, rfl, ⟨cs, hr, rfl⟩, h2⟩ := h
    simp only [RepAll]
    have hd := h1 d (by simp)
    have hsz := Rep.size _ _ hr
    have : d.size = 1 := by cases d <;> simp_all [D.isAgg, D.size]
    rw [this] at hsz
    match cs, hsz with
    | [u], _ => exact ⟨[u], r, by simp [packD_one hd], hr, vall_rep (fun e he => h1 e (List.mem_cons_of_mem _ he)) h2⟩

theorem qFunc_sound {f : Fn} {first caps : List AVal} {fv cv : Array Value} {K : AVal → Prop} (hf : VAll w β S first fv.toList) (hc : VAll w β S caps cv.toList) (hq : qFunc f first caps K) :
    ∃ r, VRel w β S r (.func f fv cv) ∧ K r := by
  unfold qFunc at hq
  split at hq
  · simp only [VAll] at hf
    have : fv = #[] := by simpa using hf
    subst this
    split at hq
    · rename_i ds hd
      obtain ⟨h0, hK⟩ := hq
      have h1 := noAgg_spec h0
      refine ⟨_, ?_, hK⟩
      rw [allD_spec hd] at hc
      simp only [VRel, Rep]
      exact ⟨_, ⟨cv, rfl, vall_rep h1 hc⟩, rfl⟩
    · refine ⟨_, ?_, hq⟩
      simp only [VRel]
      exact ⟨cv, rfl, hc⟩
  · exact hq.elim

theorem max_k {k : IntKind} {x y : Int} (hx : k.wrap x = x) (hy : k.wrap y = y) : k.wrap (max x y) = max x y := by
  rcases Int.le_total x y with h | h
  · rw [Int.max_eq_right h]; exact hy
  · rw [Int.max_eq_left h]; exact hx
theorem min_k {k : IntKind} {x y : Int} (hx : k.wrap x = x) (hy : k.wrap y = y) : k.wrap (min x y) = min x y := by
  rcases Int.le_total x y with h | h
  · rw [Int.min_eq_left h]; exact hx
  · rw [Int.min_eq_right h]; exact hy

theorem max2_run {w : World} {k k' : IntKind} {x y : Int} : (Builtin.max2 (.int k x) (.int k' y)).run P w = .ok (.int k (max x y)) w := by
  simp only [Builtin.max2, Sem.run_pure]
  congr 2
  split <;> omega
theorem min2_run {w : World} {k k' : IntKind} {x y : Int} : (Builtin.min2 (.int k x) (.int k' y)).run P w = .ok (.int k (min x y)) w := by
  simp only [Builtin.min2, Sem.run_pure]
  congr 2
  split <;> omega

theorem qMinMax_sound {m : Bool} {xs : List AVal} {vs : List Value} {K : AVal → Prop} {ts : Array TypeId} {ty : TypeId} (hx : VAll w β S xs vs) (hq : qMinMax m xs K) :
    ∃ z r, Runs0 P w (if m = true then Builtin.max_ ts ty vs.toArray else Builtin.min_ ts ty vs.toArray) z ∧ VRel w β S r z ∧ K r := by
  unfold qMinMax at hq
  split at hq
  · simp only [VAll] at hx
    obtain ⟨v1, _, rfl, h1, v2, _, rfl, h2, rfl⟩ := hx
    obtain ⟨rfl, e1⟩ := d_int h1
    obtain ⟨rfl, e2⟩ := d_int h2
    obtain ⟨rfl, hK⟩ := hq
    exact ⟨_, _, fun w' _ => by simp [Builtin.max_, max2_run], vrel_int (by simpa using max_k e1 e2), hK⟩
  · simp only [VAll] at hx
    obtain ⟨v1, _, rfl, h1, v2, _, rfl, h2, v3, _, rfl, h3, rfl⟩ := hx
    obtain ⟨rfl, e1⟩ := d_int h1
    obtain ⟨rfl, e2⟩ := d_int h2
    obtain ⟨rfl, e3⟩ := d_int h3
    obtain ⟨rfl, rfl, hK⟩ := hq
    exact ⟨_, _, fun w' _ => by simp [Builtin.max_, max2_run], vrel_int (by simpa using max_k (max_k e1 e2) e3), hK⟩
  · simp only [VAll] at hx
    obtain ⟨v1, _, rfl, h1, v2, _, rfl, h2, v3, _, rfl, h3, v4, _, rfl, h4, rfl⟩ := hx
    obtain ⟨rfl, e1⟩ := d_int h1
    obtain ⟨rfl, e2⟩ := d_int h2
    obtain ⟨rfl, e3⟩ := d_int h3
    obtain ⟨rfl, e4⟩ := d_int h4
    obtain ⟨rfl, rfl, rfl, hK⟩ := hq
    exact ⟨_, _, fun w' _ => by simp [Builtin.max_, max2_run], vrel_int (by simpa using max_k (max_k (max_k e1 e2) e3) e4), hK⟩
  · simp only [VAll] at hx
    obtain ⟨v1, _, rfl, h1, v2, _, rfl, h2, rfl⟩ := hx
    obtain ⟨rfl, e1⟩ := d_int h1
    obtain ⟨rfl, e2⟩ := d_int h2
    obtain ⟨rfl, hK⟩ := hq
    exact ⟨_, _, fun w' _ => by simp [Builtin.min_, min2_run], vrel_int (by simpa using min_k e1 e2), hK⟩
  · simp only [VAll] at hx
    obtain ⟨v1, _, rfl, h1, v2, _, rfl, h2, v3, _, rfl, h3, rfl⟩ := hx
    obtain ⟨rfl, e1⟩ := d_int h1
    obtain ⟨rfl, e2⟩ := d_int h2
    obtain ⟨rfl, e3⟩ := d_int h3
    obtain ⟨rfl, rfl, hK⟩ := hq
    exact ⟨_, _, fun w' _ => by simp [Builtin.min_, min2_run], vrel_int (by simpa using min_k (min_k e1 e2) e3), hK⟩
  · simp only [VAll] at hx
    obtain ⟨v1, _, rfl, h1, v2, _, rfl, h2, v3, _, rfl, h3, v4, _, rfl, h4, rfl⟩ := hx
    obtain ⟨rfl, e1⟩ := d_int h1
    obtain ⟨rfl, e2⟩ := d_int h2
    obtain ⟨rfl, e3⟩ := d_int h3
    obtain ⟨rfl, e4⟩ := d_int h4
    obtain ⟨rfl, rfl, rfl, hK⟩ := hq
    exact ⟨_, _, fun w' _ => by simp [Builtin.min_, min2_run], vrel_int (by simpa using min_k (min_k (min_k e1 e2) e3) e4), hK⟩
  · exact hq.elim

/-! ### All of them: which operations these are, and what each asks -/
def quietOp : Op → Bool
  | .move _ | .assign _ | .pick .. | .load .. | .nilCheck _ | .binOp .. | .unOp .. | .convert .. | .makeFunc .. | .slice .. | .fieldAddr .. | .field .. | .indexAddr .. | .index .. | .extract .. => true
  | .call { callee := .builtin .len, .. } | .call { callee := .builtin .max, .. } | .call { callee := .builtin .min, .. } => true
  | _ => false

def aevO (P : Program) (s : AState) (ty : TypeId) (x : Option Operand) : Option AVal := x.map (aev P s ty)
def constBO (P : Program) (ty : TypeId) (x : Option Operand) : Bool := match x with | some x => constB P ty x | none => true
def constOkO (P : Program) (ty : TypeId) (x : Option Operand) : Prop := constBO P ty x = true

def constsB (P : Program) (ty : TypeId) : List Operand → Bool
  | [] => true
  | x :: r => constB P ty x && constsB P ty r
def constsOk (P : Program) (ty : TypeId) (xs : List Operand) : Prop := constsB P ty xs = true
theorem constsOk.all {P : Program} {ty : TypeId} : ∀ {xs : List Operand}, constsOk P ty xs → ∀ x ∈ xs, constOk P ty x
  | [], _, x, h => by simp at h
  | y :: r, hc, x, h => by
    simp only [constsOk, constsB, Bool.and_eq_true] at hc
    rcases List.mem_cons.1 h with rfl | h
    · exact hc.1
    · exact constsOk.all hc.2 x h

def qCall (P : Program) (s : AState) (ty : TypeId) (c : Call) (K : AVal → Prop) : Prop :=
  match c.callee with
  | .builtin b =>
    match b with
    | .len =>
      (match c.args.toList, c.argTypes.toList with
      | [x], [t] => constOk P t x ∧ qLen P s t (aev P s t x) K
      | _, _ => False)
    | .max => constsOk P ty c.args.toList ∧ qMinMax true (c.args.toList.map (aev P s ty)) K
    | .min => constsOk P ty c.args.toList ∧ qMinMax false (c.args.toList.map (aev P s ty)) K
    | _ => False
  | _ => False

/-- Which of them read the memory. -/
def readsO : Op → Bool
  | .load .. | .convert .. => true
  | _ => false

def aquiet (P : Program) (s : AState) (o : Oper) (K : AVal → Prop) : Prop :=
  match o.op with
  | .move x | .assign x => constOk P o.type x ∧ K (aev P s o.type x)
  | .pick c x y =>
    match aev P s o.type c with
    | .d (.bool b) => constOk P o.type c ∧ constOk P o.type x ∧ constOk P o.type y ∧ (b = true → K (aev P s o.type x)) ∧ (b = false → K (aev P s o.type y))
    | _ => False
  | .load t x => (constOk P 0 x) ∧ qLoad P s t (aev P s 0 x) K
  | .nilCheck x => (constOk P 0 x) ∧ qNil (aev P s 0 x) K
  | .binOp op t x y ty => (constOk P t x ∧ constOk P ty y) ∧ qBin P s op t (aev P s t x) (aev P s ty y) K
  | .unOp op t x => (constOk P t x) ∧ qUn op (aev P s t x) K
  | .convert src dst x => (constOk P src x) ∧ qConv P src dst (aev P s src x) K
  | .makeFunc f first caps => (constsOk P 0 first.toList ∧ constsOk P 0 caps.toList) ∧ qFunc f (first.toList.map (aev P s 0)) (caps.toList.map (aev P s 0)) K
  | .slice t x lo hi mx => (constOk P t x ∧ constOkO P 0 lo ∧ constOkO P 0 hi ∧ constOkO P 0 mx) ∧ qSlice P s t (aev P s t x) (aevO P s 0 lo) (aevO P s 0 hi) (aevO P s 0 mx) K
  | .fieldAddr t x f => (constOk P 0 x) ∧ qFieldAddr P t (aev P s 0 x) f K
  | .field t x f => (constOk P t x) ∧ qField P t (aev P s t x) f K
  | .indexAddr t x i => (constOk P t x ∧ constOk P 0 i) ∧ qIndexAddr P s t (aev P s t x) (aev P s 0 i) K
  | .index t x i => (constOk P t x ∧ constOk P 0 i) ∧ qIndex P t (aev P s t x) (aev P s 0 i) K
  | .extract x i => (constOk P 0 x) ∧ qExtract (aev P s 0 x) i K
  | .call c => qCall P s o.type c K
  | _ => False

theorem aevO_rel (h : ARelB C s β S a w) {ty : TypeId} {x : Option Operand} (hc : constOkO P ty x) : ORelV w β S (aevO P s ty x) (x.map a.eval) := by
  cases x with
  | none => simp [aevO, ORelV]
  | some x => simp only [aevO, Option.map_some, ORelV]; exact aev_rel h hc

theorem aevs_rel (h : ARelB C s β S a w) {ty : TypeId} : ∀ {xs : List Operand}, (∀ x ∈ xs, constOk P ty x) → VAll w β S (xs.map (aev P s ty)) (xs.map a.eval)
  | [], _ => by simp [VAll]
  | x :: xs, hc => by
    simp only [List.map_cons, VAll]
    exact ⟨_, _, rfl, aev_rel h (hc x (by simp)), aevs_rel h fun y hy => hc y (List.mem_cons_of_mem _ hy)⟩

theorem run_value {w : World} {m : Sem Value} {v : Value} (h : m.run P w = .ok v w) : (do pure (Next.value (← m)) : Sem Next).run P w = .ok (.value v) w := by
  simp only [Sem.run_bind, h, Result.andThen_ok, Sem.run_pure]

theorem aquiet_sound (h : ARelB C s β S a w) {o : Oper} {K : AVal → Prop} (hq : aquiet P s o K) :
    ∃ v r, (∀ w', (readsO o.op = true → Ext w w') → (execOp a.eval o).run P w' = .ok (.value v) w') ∧ VRel w β S r v ∧ K r := by
  obtain ⟨dst, op, type, pos, after, guard⟩ := o
  cases op <;> simp only [aquiet] at hq
  case move x => exact ⟨_, _, fun w' _ => rfl, aev_rel h hq.1, hq.2⟩
  case assign x => exact ⟨_, _, fun w' _ => rfl, aev_rel h hq.1, hq.2⟩
  case pick c x y =>
    split at hq
    · rename_i b hb
      obtain ⟨h1, h2, h3, hK⟩ := hq
      have hc := aev_rel h h1
      rw [hb] at hc
      have e := d_bool hc
      cases b
      · exact ⟨_, _, fun w' _ => by simp [execOp, e, asBool], aev_rel h h3, hK.2 rfl⟩
      · exact ⟨_, _, fun w' _ => by simp [execOp, e, asBool], aev_rel h h2, hK.1 rfl⟩
    · exact hq.elim
  case load t x =>
    obtain ⟨u, r, h1, h2, h3⟩ := qLoad_sound (P := P) h (aev_rel h hq.1) hq.2
    exact ⟨u, r, fun w' hw => run_value (h1 w' (hw rfl)), h2, h3⟩
  case nilCheck x =>
    obtain ⟨r, h1, h2, h3⟩ := qNil_sound (P := P) (o := ⟨dst, .nilCheck x, type, pos, after, guard⟩) (aev_rel h hq.1) hq.2 rfl rfl
    exact ⟨_, r, fun w' _ => h1 w', h2, h3⟩
  case binOp op t x y ty =>
    obtain ⟨u, r, h1, h2, h3⟩ := qBin_sound (P := P) h (aev_rel h hq.1.1) (aev_rel h hq.1.2) hq.2 x y
    exact ⟨u, r, fun w' hw => run_value (h1 w' trivial), h2, h3⟩
  case unOp op t x =>
    obtain ⟨u, r, h1, h2, h3⟩ := qUn_sound (P := P) (aev_rel h hq.1) hq.2
    exact ⟨u, r, fun w' hw => run_value (h1 w' trivial), h2, h3⟩
  case convert src dst x =>
    obtain ⟨u, r, h1, h2, h3⟩ := qConv_sound (P := P) h (aev_rel h hq.1) hq.2
    exact ⟨u, r, fun w' hw => run_value (h1 w' (hw rfl)), h2, h3⟩
  case makeFunc f first caps =>
    have e1 := aevs_rel h hq.1.1.all
    have e2 := aevs_rel h hq.1.2.all
    obtain ⟨r, h2, h3⟩ := qFunc_sound (fv := first.map a.eval) (cv := caps.map a.eval) (by simpa using e1) (by simpa using e2) hq.2
    exact ⟨_, r, fun w' _ => rfl, h2, h3⟩
  case slice t x lo hi mx =>
    obtain ⟨u, r, h1, h2, h3⟩ := qSlice_sound (P := P) h (aev_rel h hq.1.1) (aevO_rel h hq.1.2.1) (aevO_rel h hq.1.2.2.1) (aevO_rel h hq.1.2.2.2) hq.2
    exact ⟨u, r, fun w' hw => run_value (h1 w' trivial), h2, h3⟩
  case fieldAddr t x f =>
    obtain ⟨u, r, h1, h2, h3⟩ := qFieldAddr_sound (P := P) (aev_rel h hq.1) hq.2
    exact ⟨u, r, fun w' hw => run_value (h1 w' trivial), h2, h3⟩
  case field t x f =>
    obtain ⟨u, r, h1, h2, h3⟩ := qField_sound (P := P) (aev_rel h hq.1) hq.2
    exact ⟨u, r, fun w' hw => run_value (h1 w' trivial), h2, h3⟩
  case indexAddr t x i =>
    obtain ⟨u, r, h1, h2, h3⟩ := qIndexAddr_sound (P := P) h (aev_rel h hq.1.1) (aev_rel h hq.1.2) hq.2
    exact ⟨u, r, fun w' hw => run_value (h1 w' trivial), h2, h3⟩
  case index t x i =>
    obtain ⟨u, r, h1, h2, h3⟩ := qIndex_sound (P := P) (aev_rel h hq.1.1) (aev_rel h hq.1.2) hq.2
    exact ⟨u, r, fun w' hw => run_value (h1 w' trivial), h2, h3⟩
  case extract x i =>
    obtain ⟨u, r, h1, h2, h3⟩ := qExtract_sound (P := P) (aev_rel h hq.1) hq.2
    exact ⟨u, r, fun w' hw => run_value (h1 w' trivial), h2, h3⟩
  case call c =>
    obtain ⟨callee, args, ts⟩ := c
    unfold qCall at hq
    cases callee
    case value f => exact hq.elim
    case invoke r m => exact hq.elim
    rename_i b
    cases b
    all_goals (try (exact hq.elim))
    case len =>
      dsimp only at hq
      split at hq
      · rename_i x t e1 e2
        have e1 : args = #[x] := by apply Array.ext'; simpa using e1
        have e2 : ts = #[t] := by apply Array.ext'; simpa using e2
        subst e1; subst e2
        obtain ⟨u, r, h1, h2, h3⟩ := qLen_sound (P := P) (ty := type) h (aev_rel h hq.1) hq.2
        refine ⟨u, r, fun w' hw => ?_, h2, h3⟩
        have := run_value (h1 w' trivial)
        simpa [execOp, resolve, invoke, builtin] using this
      · exact hq.elim
    case max =>
      obtain ⟨u, r, h1, h2, h3⟩ := qMinMax_sound (P := P) (ts := ts) (ty := type) (aevs_rel h hq.1.all) hq.2
      refine ⟨u, r, fun w' hw => ?_, h2, h3⟩
      have := run_value (h1 w' trivial)
      rw [show (args.toList.map a.eval).toArray = args.map a.eval by apply Array.ext'; simp] at this
      simpa [execOp, resolve, invoke, builtin] using this
    case min =>
      obtain ⟨u, r, h1, h2, h3⟩ := qMinMax_sound (P := P) (ts := ts) (ty := type) (aevs_rel h hq.1.all) hq.2
      refine ⟨u, r, fun w' hw => ?_, h2, h3⟩
      have := run_value (h1 w' trivial)
      rw [show (args.toList.map a.eval).toArray = args.map a.eval by apply Array.ext'; simp] at this
      simpa [execOp, resolve, invoke, builtin] using this

end

mutual
/-- Does a value name object j? -/
def refs (j : Nat) : AVal → Bool
  | .own i => i == j
  | .view i _ _ => i == j
  | .optr i _ => i == j
  | .ag _ cs => refsL j cs
  | .tup cs => refsL j cs
  | .ofn _ cs => refsL j cs
  | _ => false
def refsL (j : Nat) : List AVal → Bool
  | [] => false
  | x :: xs => refs j x || refsL j xs
end

def dropV (j : Nat) (x : AVal) : AVal := if refs j x = true then .any else x
def dropOb (j : Nat) : Ob → Ob
  | .cell t cs => .cell t (cs.map (dropV j))
  | o => o

mutual
theorem VRel.keepR {w w' : World} {β β' : Nat → Option Value} {S S' : Nat → Prop} {j : Nat} (hS : ∀ b, S b → S' b ∧ w'.heap[b]? = w.heap[b]?) (hβ : ∀ i, i ≠ j → β' i = β i) :
    ∀ (x : AVal) (v : Value), refs j x = false → VRel w β S x v → VRel w' β' S' x v
  | .any, v, _, h => by simp only [VRel]
  | .un, v, _, h => by simpa only [VRel] using h
  | .d x, v, _, h => by
    simp only [VRel] at h ⊢
    obtain ⟨cs, h1, h2⟩ := h
    exact ⟨cs, h1.keep hS, h2⟩
  | .em x, v, _, h => by simpa only [VRel] using h
  | .nls x, v, _, h => by simpa only [VRel] using h
  | .own i, v, hr, h => by simp only [VRel] at h ⊢; rw [hβ i (by simpa [refs] using hr)]; exact h
  | .view i off len, v, hr, h => by simp only [VRel] at h ⊢; rw [hβ i (by simpa [refs] using hr)]; exact h
  | .optr i off, v, hr, h => by simp only [VRel] at h ⊢; rw [hβ i (by simpa [refs] using hr)]; exact h
  | .ag _ cs, v, hr, h => by
    simp only [VRel] at h ⊢
    obtain ⟨vs, h1, h2⟩ := h
    exact ⟨vs, h1, VAll.keepR hS hβ cs _ (by simpa [refs] using hr) h2⟩
  | .tup cs, v, hr, h => by
    simp only [VRel] at h ⊢
    obtain ⟨vs, h1, h2⟩ := h
    exact ⟨vs, h1, VAll.keepR hS hβ cs _ (by simpa [refs] using hr) h2⟩
  | .ofn f cs, v, hr, h => by
    simp only [VRel] at h ⊢
    obtain ⟨vs, h1, h2⟩ := h
    exact ⟨vs, h1, VAll.keepR hS hβ cs _ (by simpa [refs] using hr) h2⟩
theorem VAll.keepR {w w' : World} {β β' : Nat → Option Value} {S S' : Nat → Prop} {j : Nat} (hS : ∀ b, S b → S' b ∧ w'.heap[b]? = w.heap[b]?) (hβ : ∀ i, i ≠ j → β' i = β i) :
    ∀ (xs : List AVal) (vs : List Value), refsL j xs = false → VAll w β S xs vs → VAll w' β' S' xs vs
  | [], vs, _, h => by simpa only [VAll] using h
  | x :: xs, vs, hr, h => by
    simp only [refsL, Bool.or_eq_false_iff] at hr
    simp only [VAll] at h ⊢
    obtain ⟨v, r, e, h1, h2⟩ := h
    exact ⟨v, r, e, VRel.keepR hS hβ x v hr.1 h1, VAll.keepR hS hβ xs r hr.2 h2⟩
end

theorem VRel.drop {w w' : World} {β β' : Nat → Option Value} {S S' : Nat → Prop} {j : Nat} (hS : ∀ b, S b → S' b ∧ w'.heap[b]? = w.heap[b]?) (hβ : ∀ i, i ≠ j → β' i = β i)
    {x : AVal} {v : Value} (h : VRel w β S x v) : VRel w' β' S' (dropV j x) v := by
  unfold dropV
  split
  · simp only [VRel]
  · rename_i hr; exact VRel.keepR hS hβ x v (by simpa using hr) h

theorem VAll.drop {w w' : World} {β β' : Nat → Option Value} {S S' : Nat → Prop} {j : Nat} (hS : ∀ b, S b → S' b ∧ w'.heap[b]? = w.heap[b]?) (hβ : ∀ i, i ≠ j → β' i = β i) :
    ∀ (xs : List AVal) (vs : List Value), VAll w β S xs vs → VAll w' β' S' (xs.map (dropV j)) vs
  | [], vs, h => by simpa only [List.map_nil, VAll] using h
  | x :: xs, vs, h => by
    simp only [List.map_cons, VAll] at h ⊢
    obtain ⟨v, r, e, h1, h2⟩ := h
    exact ⟨v, r, e, VRel.drop hS hβ h1, VAll.drop hS hβ xs r h2⟩

theorem ORel.drop {w w' : World} {β β' : Nat → Option Value} {S S' : Nat → Prop} {j : Nat} (hS : ∀ b, S b → S' b ∧ w'.heap[b]? = w.heap[b]?) (hβ : ∀ i, i ≠ j → β' i = β i) {v : Value}
    (hj : ∀ b, blk v = some b → w'.heap[b]? = w.heap[b]?) : ∀ {o : Ob}, ORel w β S v o → ORel w' β' S' v (dropOb j o)
  | .row k t xs, h => by
    simp only [ORel, dropOb] at h ⊢
    obtain ⟨h1, h2, h3⟩ := h
    exact ⟨h1.keep hj, h2, h3⟩
  | .rowD t sz es, h => by
    simp only [ORel, dropOb] at h ⊢
    obtain ⟨vs, h1, h2, h3, h4⟩ := h
    exact ⟨vs, h1.keep hj, RepAll.keep hS es vs h2, h3, h4⟩
  | .cell t cs, h => by
    simp only [ORel, dropOb] at h ⊢
    obtain ⟨b, vs, h1, h2, h3⟩ := h
    exact ⟨b, vs, h1, by rw [hj b (by rw [h1]; rfl)]; exact h2, VAll.drop hS hβ cs _ h3⟩

/-- Object j becomes another one; what names it elsewhere is forgotten. -/
def setO (j : Nat) (o : Ob) : List (Nat × Ob) → List (Nat × Ob)
  | [] => []
  | (i, p) :: r => (if i = j then (j, o) else (i, p)) :: setO j o r
def setOd (j : Nat) (o : Ob) : List (Nat × Ob) → List (Nat × Ob)
  | [] => []
  | (i, p) :: r => (if i = j then (j, o) else (i, dropOb j p)) :: setOd j o r
def delO (j : Nat) : List (Nat × Ob) → List (Nat × Ob)
  | [] => []
  | (i, p) :: r => if i = j then delO j r else (i, dropOb j p) :: delO j r

theorem setO_ids (j : Nat) (o : Ob) : ∀ st, (setO j o st).map (·.1) = st.map (·.1)
  | [] => rfl
  | (i, p) :: r => by simp only [setO, List.map_cons, setO_ids j o r]; split <;> simp_all
theorem setOd_ids (j : Nat) (o : Ob) : ∀ st, (setOd j o st).map (·.1) = st.map (·.1)
  | [] => rfl
  | (i, p) :: r => by simp only [setOd, List.map_cons, setOd_ids j o r]; split <;> simp_all
theorem mem_setO {j : Nat} {o : Ob} : ∀ {st : List (Nat × Ob)} {i : Nat} {p : Ob}, (i, p) ∈ setO j o st → (i = j ∧ p = o) ∨ (i ≠ j ∧ (i, p) ∈ st)
  | [], _, _, h => by simp [setO] at h
  | (k, q) :: r, i, p, h => by
    simp only [setO, List.mem_cons] at h
    rcases h with h | h
    · split at h
      · injection h with h1 h2; exact .inl ⟨h1, h2⟩
      · rename_i hne; injection h with h1 h2; subst h1; subst h2; exact .inr ⟨hne, by simp⟩
    · rcases mem_setO h with h | h
      · exact .inl h
      · exact .inr ⟨h.1, List.mem_cons_of_mem _ h.2⟩
theorem mem_setOd {j : Nat} {o : Ob} : ∀ {st : List (Nat × Ob)} {i : Nat} {p : Ob}, (i, p) ∈ setOd j o st → (i = j ∧ p = o) ∨ (i ≠ j ∧ ∃ q, (i, q) ∈ st ∧ p = dropOb j q)
  | [], _, _, h => by simp [setOd] at h
  | (k, q) :: r, i, p, h => by
    simp only [setOd, List.mem_cons] at h
    rcases h with h | h
    · split at h
      · injection h with h1 h2; exact .inl ⟨h1, h2⟩
      · rename_i hne; injection h with h1 h2; subst h1; subst h2; exact .inr ⟨hne, q, by simp⟩
    · rcases mem_setOd h with h | ⟨h, q', h2, h3⟩
      · exact .inl h
      · exact .inr ⟨h, q', List.mem_cons_of_mem _ h2, h3⟩
theorem mem_delO {j : Nat} : ∀ {st : List (Nat × Ob)} {i : Nat} {p : Ob}, (i, p) ∈ delO j st → i ≠ j ∧ ∃ q, (i, q) ∈ st ∧ p = dropOb j q
  | [], _, _, h => by simp [delO] at h
  | (k, q) :: r, i, p, h => by
    simp only [delO] at h
    split at h
    · obtain ⟨h1, q', h2, h3⟩ := mem_delO h
      exact ⟨h1, q', List.mem_cons_of_mem _ h2, h3⟩
    · rename_i hne
      simp only [List.mem_cons] at h
      rcases h with h | h
      · injection h with h1 h2; subst h1; subst h2; exact ⟨hne, q, by simp⟩
      · obtain ⟨h1, q', h2, h3⟩ := mem_delO h
        exact ⟨h1, q', List.mem_cons_of_mem _ h2, h3⟩
theorem delO_ids {j : Nat} : ∀ {st : List (Nat × Ob)}, (st.map (·.1)).Nodup → ((delO j st).map (·.1)).Nodup
  | [], h => by simp [delO]
  | (i, p) :: r, h => by
    simp only [List.map_cons, List.nodup_cons] at h
    simp only [delO]
    split
    · exact delO_ids h.2
    · simp only [List.map_cons, List.nodup_cons]
      refine ⟨fun hm => ?_, delO_ids h.2⟩
      obtain ⟨⟨k, q⟩, hk, rfl⟩ := List.mem_map.1 hm
      obtain ⟨_, q', h2, _⟩ := mem_delO hk
      exact h.1 (List.mem_map.2 ⟨_, h2, rfl⟩)

section
variable {P : Program} {C : Ctx} {s : AState} {β : Nat → Option Value} {S : Nat → Prop} {a : Act} {w w' : World}

theorem mem_id {st : List (Nat × Ob)} {j : Nat} {o : Ob} (h : (j, o) ∈ st) : j ∈ st.map (·.1) := List.mem_map.2 ⟨_, h, rfl⟩

theorem ARelB.id_lt (h : ARelB C s β S a w) {j : Nat} {o : Ob} (hj : (j, o) ∈ s.st) : j < s.nx := by
  obtain ⟨v, hv, _⟩ := h.st.obj j o hj
  rcases Nat.lt_or_ge j s.nx with h' | h'
  · exact h'
  · rw [h.nx j h'] at hv; cases hv

/-- What is imm stays as it is while the world grows beside one owned block. -/
theorem ARelB.imm (h : ARelB C s β S a w) {row : Option Nat} (hg : w.grownBy w' row) (hr : ∀ g, row = some g → Owned β s.st g) : ∀ b, S b → S b ∧ w'.heap[b]? = w.heap[b]? :=
  fun b hb => ⟨hb, hg.block b (h.st.inS b hb) fun e => (h.st.own b (hr b e.symm)).1 hb⟩

theorem fr_grown {S' own' : Nat → Prop} (h : ARelB C s β S a w) {row : Option Nat} (hg : w.grownBy w' row) (hr : ∀ g, row = some g → Owned β s.st g)
    (hS : ∀ b, S' b → S b ∨ Owned β s.st b ∨ w.heap.size ≤ b) (ho : ∀ b, own' b → Owned β s.st b ∨ w.heap.size ≤ b) : Fr C w' S' own' := by
  have hf := h.frame
  refine ⟨Nat.le_trans hf.size hg.size, hg.os.trans hf.os, hg.tape.trans hf.tape, hg.output.trans hf.output, fun b hb hE => ?_, fun b hb => ?_, fun b hb => ?_⟩
  · rw [hg.block b (Nat.lt_of_lt_of_le hb hf.size) fun e => ?_]
    · exact hf.old b hb hE
    · rcases hf.own b (hr b e.symm) with h' | h'
      · exact hE h'
      · omega
  · rcases hS b hb with h' | h' | h'
    · exact hf.inS b h'
    · exact .inr (hf.own b h')
    · exact .inr (.inr (Nat.le_trans hf.size h'))
  · rcases ho b hb with h' | h'
    · exact hf.own b h'
    · exact .inr (Nat.le_trans hf.size h')

theorem orel_cells {w : World} {β : Nat → Option Value} {S : Nat → Prop} {v : Value} {o : Ob} (h : ORel w β S v o) {b : Nat} (hb : blk v = some b) : ∃ cs t, w.heap[b]? = some (.cells cs t (0, 0)) := by
  have own : ∀ {t : TypeId} {sz n : Nat} {vs : List Value}, OwnsV w t sz v n vs → ∃ cs t, w.heap[b]? = some (.cells cs t (0, 0)) := fun {t sz n vs} h => by
    rcases h with ⟨A, rfl, _⟩ | ⟨g, cap, cur, rfl, hc, hh, _⟩
    · cases A <;> simp [blk] at hb
    · simp only [blk] at hb
      split at hb
      · cases hb
      · injection hb with hb; subst hb; exact ⟨_, _, hh⟩
  cases o with
  | row k t xs => simp only [ORel] at h; exact own h.1
  | rowD t sz es => simp only [ORel] at h; obtain ⟨vs, h1, _⟩ := h; exact own h1
  | cell t cs =>
    simp only [ORel] at h
    obtain ⟨g, vs, rfl, hh, _⟩ := h
    simp only [blk] at hb
    injection hb with hb; subst hb
    exact ⟨_, _, hh⟩

theorem SRel.cells {w : World} {β : Nat → Option Value} {S : Nat → Prop} {st : List (Nat × Ob)} (h : SRel w β S st) {b : Nat} (hb : Owned β st b) : ∃ cs t, w.heap[b]? = some (.cells cs t (0, 0)) := by
  obtain ⟨j, o, hj, hb⟩ := hb
  obtain ⟨v, hv, hr⟩ := h.obj j o hj
  rw [hv] at hb
  exact orel_cells hr hb

theorem Marks.keep {a : Act} {w w' : World} {S S' : Nat → Prop} (h : Marks C S a w)
    (hk : ∀ D : Nat, w.heap[D]? = some (Obj.deferred (some [])) → ¬ S D → w'.heap[D]? = some (Obj.deferred (some [])) ∧ ¬ S' D) : Marks C S' a w' :=
  ⟨fun d hd => by
    obtain ⟨D, e, hD, hS, hC⟩ := h.1 d hd
    exact ⟨D, e, (hk D hD hS).1, (hk D hD hS).2, hC⟩, h.2⟩

theorem ARelB.marks (h : ARelB C s β S a w) {row : Option Nat} (hg : w.grownBy w' row) (hr : ∀ g, row = some g → Owned β s.st g) : Marks C S a w' :=
  Marks.keep h.defers fun D hD hS => by
    have hlt : D < w.heap.size := (Array.getElem?_eq_some_iff.1 hD).1
    refine ⟨?_, hS⟩
    rw [hg.block D hlt fun e => ?_]
    · exact hD
    · obtain ⟨cs, t, hc⟩ := h.st.cells (hr D e.symm)
      rw [hD] at hc; cases hc

/-- L1: an owned object is written in place. -/
theorem ARelB.touch (h : ARelB C s β S a w) {j : Nat} {o o' : Ob} {v : Value} (hj : (j, o) ∈ s.st) (hv : β j = some v) (hg : w.grownBy w' (blk v)) (ho : ORel w' β S v o') :
    ARelB C { s with st := setO j o' s.st } β S a w' := by
  have hown : ∀ g, blk v = some g → Owned β s.st g := fun g e => ⟨j, o, hj, by rw [hv]; exact e⟩
  have himm := h.imm hg hown
  have hnd := setO_ids j o' s.st
  have hsame : ∀ b, Owned β (setO j o' s.st) b ↔ Owned β s.st b := fun b => by
    constructor
    · rintro ⟨i, p, hi, hb⟩
      rcases mem_setO hi with ⟨rfl, _⟩ | ⟨_, hi⟩
      · exact ⟨_, o, hj, hb⟩
      · exact ⟨i, p, hi, hb⟩
    · rintro ⟨i, p, hi, hb⟩
      have : i ∈ (setO j o' s.st).map (·.1) := by rw [hnd]; exact mem_id hi
      obtain ⟨⟨i', p'⟩, hm, rfl⟩ := List.mem_map.1 this
      exact ⟨_, p', hm, hb⟩
  refine ⟨fun t => VRel.keep himm (fun _ _ e => e) _ _ (h.fr t), h.size, ⟨fun i p hi => ?_, by rw [hnd]; exact h.st.nodup, fun i p k q hi hk hne b hb => ?_, fun b hb => ?_, fun b hb => ?_, h.st.gl.keep himm⟩, ?_, h.nx, h.marks hg hown, h.pin, h.nxm⟩
  · rcases mem_setO hi with ⟨rfl, rfl⟩ | ⟨hne, hi⟩
    · exact ⟨v, hv, ho⟩
    · obtain ⟨u, hu, hr⟩ := h.st.obj i p hi
      refine ⟨u, hu, hr.keep himm (fun _ _ e => e) fun b hb => hg.block b (h.st.own b ⟨i, p, hi, by rw [hu]; exact hb⟩).2 fun e => ?_⟩
      exact h.st.apart i p j o hi hj hne b (by rw [hu]; exact hb) (by rw [hv]; exact e.symm)
  · have h1 : ∃ p', (i, p') ∈ s.st := by
      rcases mem_setO hi with ⟨rfl, _⟩ | ⟨_, hi⟩
      · exact ⟨o, hj⟩
      · exact ⟨p, hi⟩
    have h2 : ∃ q', (k, q') ∈ s.st := by
      rcases mem_setO hk with ⟨rfl, _⟩ | ⟨_, hk⟩
      · exact ⟨o, hj⟩
      · exact ⟨q, hk⟩
    obtain ⟨p', h1⟩ := h1
    obtain ⟨q', h2⟩ := h2
    exact h.st.apart i p' k q' h1 h2 hne b hb
  · have := h.st.own b ((hsame b).1 hb)
    exact ⟨this.1, Nat.lt_of_lt_of_le this.2 hg.size⟩
  · exact Nat.lt_of_lt_of_le (h.st.inS b hb) hg.size
  · exact fr_grown h hg hown (fun b hb => .inl hb) fun b hb => .inl ((hsame b).1 hb)

def updO (β : Nat → Option Value) (j : Nat) (v : Value) : Nat → Option Value := fun i => if i = j then some v else β i

/-- L2: a new object. -/
theorem ARelB.fresh (h : ARelB C s β S a w) {o' : Ob} {v : Value} (hg : w.grownBy w' none) (hb : ∀ b, blk v = some b → w.heap.size ≤ b ∧ b < w'.heap.size) (ho : ORel w' (updO β s.nx v) S v o') :
    ARelB C { s with st := (s.nx, o') :: s.st, nx := s.nx + 1 } (updO β s.nx v) S a w' := by
  have himm := h.imm hg (by simp)
  have hβ : ∀ i u, β i = some u → updO β s.nx v i = some u := fun i u e => by
    unfold updO
    rw [if_neg]
    · exact e
    · rintro rfl; rw [h.nx _ (Nat.le_refl _)] at e; cases e
  have hnew : updO β s.nx v s.nx = some v := by simp [updO]
  have hold : ∀ {i p}, (i, p) ∈ s.st → updO β s.nx v i = β i := fun {i p} hi => by
    obtain ⟨u, hu, _⟩ := h.st.obj i p hi
    rw [hβ i u hu, hu]
  have hown : ∀ b, Owned (updO β s.nx v) ((s.nx, o') :: s.st) b → Owned β s.st b ∨ (w.heap.size ≤ b ∧ b < w'.heap.size) := fun b => by
    rintro ⟨i, p, hi, hbb⟩
    rcases List.mem_cons.1 hi with hi | hi
    · injection hi with h1 h2
      subst h1
      rw [hnew] at hbb
      exact .inr (hb b hbb)
    · exact .inl ⟨i, p, hi, by rw [hold hi] at hbb; exact hbb⟩
  refine ⟨fun t => VRel.keep himm hβ _ _ (h.fr t), h.size, ⟨fun i p hi => ?_, ?_, fun i p k q hi hk hne b hbb hbk => ?_, fun b hbb => ?_, fun b hbb => ?_, h.st.gl.keep himm⟩, ?_, fun j hj => ?_, h.marks hg (by simp), fun j hj => ?_, Nat.le_succ_of_le h.nxm⟩
  · rcases List.mem_cons.1 hi with hi | hi
    · injection hi with h1 h2
      subst h1; subst h2
      exact ⟨v, hnew, ho⟩
    · obtain ⟨u, hu, hr⟩ := h.st.obj i p hi
      exact ⟨u, hβ i u hu, hr.keep himm hβ fun b hbb => hg.block b (h.st.own b ⟨i, p, hi, by rw [hu]; exact hbb⟩).2 (by simp)⟩
  · simp only [List.map_cons, List.nodup_cons]
    refine ⟨fun hm => ?_, h.st.nodup⟩
    obtain ⟨⟨i, p⟩, hi, e⟩ := List.mem_map.1 hm
    have := h.id_lt hi
    simp at e
    omega
  · rcases List.mem_cons.1 hi with hi | hi <;> rcases List.mem_cons.1 hk with hk | hk
    · injection hi with h1 _; injection hk with h2 _
      exact hne (h1.trans h2.symm)
    · injection hi with h1 _
      subst h1
      rw [hnew] at hbb
      rw [hold hk] at hbk
      have := hb b hbb
      have := (h.st.own b ⟨k, q, hk, hbk⟩).2
      omega
    · injection hk with h1 _
      subst h1
      rw [hnew] at hbk
      rw [hold hi] at hbb
      have := hb b hbk
      have := (h.st.own b ⟨i, p, hi, hbb⟩).2
      omega
    · rw [hold hi] at hbb
      rw [hold hk] at hbk
      exact h.st.apart i p k q hi hk hne b hbb hbk
  · rcases hown b hbb with h' | h'
    · have := h.st.own b h'
      exact ⟨this.1, Nat.lt_of_lt_of_le this.2 hg.size⟩
    · exact ⟨fun hs => by have := h.st.inS b hs; omega, h'.2⟩
  · exact Nat.lt_of_lt_of_le (h.st.inS b hbb) hg.size
  · exact fr_grown h hg (by simp) (fun b hb => .inl hb) fun b hb => (hown b hb).imp id (·.1)
  · simp only at hj
    unfold updO
    rw [if_neg (by omega)]
    exact h.nx j (by omega)
  · have := h.nxm
    unfold updO
    rw [if_neg (by omega)]
    exact h.pin j hj

/-- L3: an owned object may move; what named it is forgotten. -/
theorem ARelB.move (h : ARelB C s β S a w) {j : Nat} (hjm : C.m ≤ j) {o o' : Ob} {v v' : Value} (hj : (j, o) ∈ s.st) (hv : β j = some v) (hg : w.grownBy w' (blk v))
    (hb : ∀ b, blk v' = some b → (blk v = some b ∨ (w.heap.size ≤ b ∧ b < w'.heap.size))) (ho : ORel w' (updO β j v') S v' o') :
    ARelB C { s with st := setOd j o' s.st, fr := fun t => dropV j (s.fr t) } (updO β j v') S a w' := by
  have hown : ∀ g, blk v = some g → Owned β s.st g := fun g e => ⟨j, o, hj, by rw [hv]; exact e⟩
  have himm := h.imm hg hown
  have hnd := setOd_ids j o' s.st
  have hβ : ∀ i, i ≠ j → updO β j v' i = β i := fun i hi => by simp [updO, hi]
  have hnew : updO β j v' j = some v' := by simp [updO]
  have hOwn : ∀ b, Owned (updO β j v') (setOd j o' s.st) b → Owned β s.st b ∨ (w.heap.size ≤ b ∧ b < w'.heap.size) := fun b => by
    rintro ⟨i, p, hi, hbb⟩
    rcases mem_setOd hi with ⟨rfl, _⟩ | ⟨hne, q, hi, _⟩
    · rw [hnew] at hbb
      rcases hb b hbb with h' | h'
      · exact .inl (hown b h')
      · exact .inr h'
    · rw [hβ i hne] at hbb
      exact .inl ⟨i, q, hi, hbb⟩
  refine ⟨fun t => VRel.drop himm hβ (h.fr t), h.size, ⟨fun i p hi => ?_, by rw [hnd]; exact h.st.nodup, fun i p k q hi hk hne b hbb hbk => ?_, fun b hbb => ?_, fun b hbb => ?_, h.st.gl.keep himm⟩, ?_, fun i hi => ?_, h.marks hg hown, fun i hi => ?_, h.nxm⟩
  · rcases mem_setOd hi with ⟨rfl, rfl⟩ | ⟨hne, q, hiq, rfl⟩
    · exact ⟨v', hnew, ho⟩
    · obtain ⟨u, hu, hr⟩ := h.st.obj i q hiq
      refine ⟨u, by rw [hβ i hne]; exact hu, hr.drop himm hβ fun b hbb => hg.block b (h.st.own b ⟨i, q, hiq, by rw [hu]; exact hbb⟩).2 fun e => ?_⟩
      exact h.st.apart i q j o hiq hj hne b (by rw [hu]; exact hbb) (by rw [hv]; exact e.symm)
  · have key : ∀ {i p}, (i, p) ∈ setOd j o' s.st → i ≠ j → ∃ q, (i, q) ∈ s.st := fun hi hne => by
      rcases mem_setOd hi with ⟨e, _⟩ | ⟨_, q, hi, _⟩
      · exact (hne e).elim
      · exact ⟨q, hi⟩
    by_cases e1 : i = j
    · subst e1
      have e2 : k ≠ i := fun e => hne e.symm
      obtain ⟨q', hq'⟩ := key hk e2
      rw [hnew] at hbb
      rw [hβ k e2] at hbk
      rcases hb b hbb with h' | h'
      · exact h.st.apart k q' i o hq' hj e2 b hbk (by rw [hv]; exact h')
      · have := (h.st.own b ⟨k, q', hq', hbk⟩).2
        omega
    · obtain ⟨p', hp'⟩ := key hi e1
      rw [hβ i e1] at hbb
      by_cases e2 : k = j
      · subst e2
        rw [hnew] at hbk
        rcases hb b hbk with h' | h'
        · exact h.st.apart i p' k o hp' hj e1 b hbb (by rw [hv]; exact h')
        · have := (h.st.own b ⟨i, p', hp', hbb⟩).2
          omega
      · obtain ⟨q', hq'⟩ := key hk e2
        rw [hβ k e2] at hbk
        exact h.st.apart i p' k q' hp' hq' hne b hbb hbk
  · rcases hOwn b hbb with h' | h'
    · have := h.st.own b h'
      exact ⟨this.1, Nat.lt_of_lt_of_le this.2 hg.size⟩
    · exact ⟨fun hs => by have := h.st.inS b hs; omega, h'.2⟩
  · exact Nat.lt_of_lt_of_le (h.st.inS b hbb) hg.size
  · exact fr_grown h hg hown (fun b hb => .inl hb) fun b hb => (hOwn b hb).imp id (·.1)
  · have : i ≠ j := by
      have := h.id_lt hj
      simp only at hi
      omega
    simp only [hβ i this]
    exact h.nx i hi
  · rw [hβ i (by omega)]
    exact h.pin i hi

/-- A slot is written. -/
theorem ARelB.put (h : ARelB C s β S a w) {dst : Option Tmp} {x : AVal} {v : Value} (hx : VRel w β S x v) (hd : ∀ t, dst = some t → t < s.n) : ARelB C (s.put dst x) β S (a.put dst v) w := by
  cases dst with
  | none => exact h
  | some t =>
    have ht := hd t rfl
    refine ⟨fun u => ?_, ?_, h.st, h.frame, h.nx, h.defers, h.pin, h.nxm⟩
    · simp only [AState.put, upd, Act.put]
      split
      · rename_i e
        subst e
        simpa [Array.getElem?_setIfInBounds, h.size, ht] using hx
      · rename_i hne
        have := h.fr u
        rw [Array.getD_eq_getD_getElem?] at this ⊢
        rwa [Array.getElem?_setIfInBounds_ne (fun e => hne e.symm)]
    · simp [AState.put, Act.put, h.size]

end
end Go.Proofs.YtniaeiikdgbnfaaGreatDoor.AW
namespace Go.Proofs.YtniaeiikdgbnfaaGreatDoor.AW
open Go Go.RowKit
set_option linter.unusedSectionVars false
variable [Globs]
set_option linter.unusedSimpArgs false

mutual
def flatD : D → List D
  | .agg ds => flatDs ds
  | d => [d]
def flatDs : List D → List D
  | [] => []
  | d :: ds => flatD d ++ flatDs ds
end

/-- Cells put together by a type. -/
def asm (P : Program) : Nat → TypeId → List D → D
  | 0, _, _ => .nilp
  | n + 1, t, ds =>
    match P.underlying t with
    | some (.struct fs) => .agg (fs.toList.map fun f => asm P n f.type ((ds.drop f.offset).take ((szT P f.type).getD 0)))
    | some (.array len e) => .agg ((List.range len).map fun i => asm P n e ((ds.drop (i * (szT P e).getD 0)).take ((szT P e).getD 0)))
    | _ => ds.headD .nilp

/-- The cells of a value. -/
def cellsV : AVal → Option (List AVal)
  | .d x => some ((flatD x).map .d)
  | .ag _ cs => some cs
  | .tup _ => none
  | .un => none
  | .any => none
  | v => some [v]

def AState.newO : AState → Ob → AState
  | ⟨n, fr, st, nx⟩, o => ⟨n, fr, (nx, o) :: st, nx + 1⟩
/-- A new object, and its number. -/
def AState.new : AState → Ob → (AState → Nat → Prop) → Prop
  | ⟨n, fr, st, nx⟩, o, K => K ⟨n, fr, (nx, o) :: st, nx + 1⟩ nx

/-- The fence that keeps nobody out, in a round or not. -/
def fence (rd : Option Nat) : Fence := { Fence.wide with round := rd }

/-- Semantics: one operation, a piece of code, a call. -/
structure AWp (P : Program) (C : Ctx) (c : Code) (s : AState) (Q : Exit → AState → Prop) : Prop where
  run : ∀ a w, ARel C s a w → c.wpIn (fence C.rd) 0 P (fun e a' w' => ∃ s', ARel C s' a' w' ∧ Q e s') a w

def Enters (P : Program) (f : FuncId) : Prop := ∃ fn, P.funcs[f]? = some fn ∧ fn.body.isNone = false ∧ (fn.name == "runtime.NumGoroutine") = false

def eStore (P : Program) (s : AState) (t : TypeId) (x v : AVal) (K : AState → Prop) : Prop :=
  match x with
  | .optr j off =>
    match getO s.st j with
    | some (.row k e xs) =>
      (match v with
      | .d (.int k' n) => k' = k ∧ szT P t = some 1 ∧ off < xs.length ∧ K (s.withSt (setO j (.row k e (xs.set off n)) s.st))
      | .d (.agg ds) => ∃ ns : List Int, ds = ns.map (D.int k) ∧ szT P t = some ns.length ∧ 0 < ns.length ∧ off + ns.length ≤ xs.length ∧ K (s.withSt (setO j (.row k e (xs.take off ++ ns ++ xs.drop (off + ns.length))) s.st))
      | _ => False)
    | some (.rowD e sz es) =>
      (match dv v with
      | some y => sz = 1 ∧ szT P t = some 1 ∧ y.isAgg = false ∧ off < es.length ∧ K (s.withSt (setO j (.rowD e sz (es.set off y)) s.st))
      | none => False)
    | some (.cell e cs) =>
      (match cellsV v with
      | some us => szT P t = some us.length ∧ off + us.length ≤ cs.length ∧ K (s.withSt (setO j (.cell e (cs.take off ++ us ++ cs.drop (off + us.length))) s.st))
      | none => False)
    | none => False
  | _ => False

def intsOf (k : IntKind) : List D → Option (List Int)
  | [] => some []
  | .int k' n :: r => if k' = k then (match intsOf k r with
    | some ns => some (n :: ns)
    | none => none) else none
  | _ => none

def zeroD (P : Program) (e : TypeId) : D := constT P 6 e ((((P.info? e).bind (·.zero)).map (·.cells.toList)).getD [])

def eMake (P : Program) (s : AState) (t : TypeId) (l c : AVal) (K : AState → AVal → Prop) : Prop :=
  match P.underlying t, l, c with
  | some (.slice e), .d (.int _ n), .d (.int _ m) => n = m ∧ 0 ≤ n ∧ n ≤ 1073741824 ∧
    (match P.info? e with
    | some i => i.bytes ≤ 256 ∧
      (match P.underlying e with
      | some (.int k) => i.zero = some (.int k 0) ∧ i.size = 1 ∧ (s.new (.row k e (List.replicate n.toNat 0)) fun s' j => K s' (.own j))
      | _ =>
        match i.zero with
        | some z => 0 < i.size ∧ (zeroD P e).size = i.size ∧ z.cells.size = i.size ∧ repCB (zeroD P e) z.cells.toList = true ∧ (s.new (.rowD e i.size (List.replicate n.toNat (zeroD P e))) fun s' j => K s' (.own j))
        | none => False)
    | none => False)
  | _, _, _ => False

theorem madeCells_one (z : Value) (n : Nat) : (madeCells #[z] n).toList = List.replicate n z := by
  unfold madeCells
  apply List.ext_getElem?
  intro i
  simp only [Array.toList_map, Array.toList_range, List.getElem?_map, List.getElem?_replicate]
  by_cases h : i < n <;> simp [h, Nat.mod_one]

theorem madeCells_many (z : Array Value) : ∀ (n : Nat), 0 < z.size → (madeCells z (n * z.size)).toList = (List.replicate n z.toList).flatten
  | 0, _ => by simp [madeCells]
  | n + 1, hz => by
    have ih := madeCells_many z n hz
    unfold madeCells at ih ⊢
    simp only [Array.toList_map, Array.toList_range] at ih ⊢
    rw [show (n + 1) * z.size = z.size + n * z.size by rw [Nat.add_mul]; omega, List.range_add, List.map_append, List.map_map, List.replicate_succ, List.flatten_cons, ← ih]
    congr 1
    · apply List.ext_getElem?
      intro i
      by_cases h : i < z.size
      · simp [h, Nat.mod_eq_of_lt h]
      · simp [h]
    · apply List.map_congr_left
      intro i _
      simp

theorem RepAll_replicate {w : World} {S : Nat → Prop} {d : D} {cs : List Value} (h : Rep w S d cs) : ∀ n, RepAll w S (List.replicate n d) (List.replicate n cs).flatten
  | 0 => by simp [RepAll]
  | n + 1 => by
    simp only [List.replicate_succ, List.flatten_cons, RepAll]
    exact ⟨_, _, rfl, h, RepAll_replicate h n⟩

section
variable {P : Program} {C : Ctx} {s : AState} {β : Nat → Option Value} {S : Nat → Prop} {a : Act} {w : World}

theorem grown_alloc (w : World) (o : Obj) : w.grownBy (w.alloc o) none :=
  ⟨rfl, rfl, rfl, by simp, fun k hk _ => Below.heap_alloc _ _ _ hk⟩

/-- A new block of cells is a new owned object. -/
theorem ARelB.alloc_row (h : ARelB C s β S a w) {k : IntKind} {e : TypeId} {xs : List Int} {n cap : Nat} {cur : Array Value} (hx : xs.length = n) (hc : n ≤ cap) (hm : cap ≤ maxLen) (hL : n ≤ LIM) (hcur : cur.size = cap)
    (htake : cur.toList.take n = xs.map (Value.int k)) (hwf : ∀ x ∈ xs, k.wrap x = x) :
    ARelB C (s.newO (.row k e xs)) (updO β s.nx (.slice (some ⟨w.heap.size, 0, none⟩) n cap)) S a (w.alloc (.cells cur e)) := by
  refine h.fresh (grown_alloc _ _) (fun b hb => ?_) ?_
  · simp only [blk] at hb
    split at hb
    · cases hb
    · injection hb with hb; subst hb; simp
  · simp only [ORel]
    refine ⟨?_, hwf, by omega⟩
    by_cases h0 : cap = 0
    · refine .inl ⟨some ⟨w.heap.size, 0, none⟩, ?_, by omega, ?_⟩
      · rw [h0]; congr 1; omega
      · have : xs = [] := List.eq_nil_of_length_eq_zero (by omega)
        simp [this]
    · refine .inr ⟨w.heap.size, cap, cur, by rw [hx], by omega, heap_alloc_new w _, by omega, hm, by simpa using hcur, by simp, ?_⟩
      rw [hx]; simpa using htake

/-- What a step that may change the world comes to. -/
def Does (P : Program) (C : Ctx) (a : Act) (w : World) (m : Sem Value) (K : AState → AVal → Prop) : Prop :=
  ∃ v w' s' r β', m.run P w = .ok v w' ∧ ∃ S', ARelB C s' β' S' a w' ∧ VRel w' β' S' r v ∧ K s' r

/-- The same, where nothing that stood there is turned. -/
def DoesX (P : Program) (C : Ctx) (a : Act) (w : World) (m : Sem Value) (K : AState → AVal → Prop) : Prop :=
  ∃ v w' s' r β', m.run P w = .ok v w' ∧ Ext w w' ∧ ∃ S', ARelB C s' β' S' a w' ∧ VRel w' β' S' r v ∧ K s' r
theorem Ext.alloc (w : World) (o : Obj) : Ext w (w.alloc o) := fun _ h => Below.heap_alloc _ _ _ h

theorem eMake_sound (h : ARelB C s β S a w) {t : TypeId} {l c : AVal} {lv cv : Value} {K : AState → AVal → Prop} (hl : VRel w β S l lv) (hc : VRel w β S c cv) (hq : eMake P s t l c K) :
    DoesX P C a w (Instr.makeSlice t lv cv) K := by
  unfold eMake at hq
  split at hq
  · rename_i e k n k' m hu
    obtain ⟨rfl, h0, hn, hq⟩ := hq
    obtain ⟨rfl, _⟩ := d_int hl
    obtain ⟨rfl, _⟩ := d_int hc
    split at hq
    · rename_i i hi
      obtain ⟨hb, hq⟩ := hq
      have hbytes : (i.bytes : Int) * n ≤ 281474976710656 := by
        have h1 : (i.bytes : Int) ≤ 256 := by omega
        have h2 : (i.bytes : Int) * n ≤ 256 * n := Int.mul_le_mul_of_nonneg_right h1 h0
        omega
      have hmax : n.toNat ≤ maxLen := by unfold maxLen; omega
      have hlim : n.toNat ≤ LIM := by unfold LIM; omega
      split at hq
      · rename_i k0 hk
        obtain ⟨hz, hsz, hK⟩ := hq
        have hrun := run_make (P := P) w t e i (.int k0 0) hu hi hz k k' n n h0 (Int.le_refl _) hbytes (by omega)
        rw [hsz, Nat.mul_one] at hrun
        have hmc := madeCells_one (.int k0 0) n.toNat
        refine ⟨_, _, _, .own s.nx, updO β s.nx (.slice (some ⟨w.heap.size, 0, none⟩) n.toNat n.toNat), hrun, Ext.alloc _ _, S, ?_, ?_, hK⟩
        · refine h.alloc_row (k := k0) (e := e) (xs := List.replicate n.toNat 0) (by simp) (Nat.le_refl _) hmax hlim ?_ ?_ ?_
          · exact size_madeCells _ _
          · simp only [Value.cells, hmc]; simp
          · intro x hx; rw [(List.mem_replicate.1 hx).2, wrap_in]; cases k0 <;> simp [loK, hiK]
        · simp only [VRel, updO, if_true]
      · split at hq
        · rename_i z hz
          obtain ⟨hpos, hds, hzs, hrep, hK⟩ := hq
          replace hrep := repCB_ok _ _ hrep
          have hrun := run_make (P := P) w t e i z hu hi hz k k' n n h0 (Int.le_refl _) hbytes (by omega)
          rw [← hzs] at hrun hpos hds
          have hmc := madeCells_many z.cells n.toNat hpos
          have hlen : (madeCells z.cells (n.toNat * z.cells.size)).size = n.toNat * z.cells.size := size_madeCells _ _
          refine ⟨_, _, _, .own s.nx, updO β s.nx (.slice (some ⟨w.heap.size, 0, none⟩) n.toNat n.toNat), hrun, Ext.alloc _ _, S, ?_, ?_, hK⟩
          · refine h.fresh (grown_alloc _ _) (fun b hb => ?_) ?_
            · simp only [blk] at hb
              split at hb
              · cases hb
              · injection hb with hb; subst hb; simp
            · simp only [ORel, ← hzs]
              refine ⟨(madeCells z.cells (n.toNat * z.cells.size)).toList, ?_, ?_, fun e he => ?_, by simpa using hlim, hpos⟩
              · by_cases h00 : n.toNat = 0
                · exact .inl ⟨some ⟨w.heap.size, 0, none⟩, by rw [h00], by simp [h00], by simp [h00, madeCells]⟩
                · refine .inr ⟨w.heap.size, n.toNat, _, by simp, by omega, heap_alloc_new w _, by simp, hmax, hlen, by simp [hlen], ?_⟩
                  rw [List.take_of_length_le (by simp [hlen])]
              · rw [hmc]; exact RepAll_replicate (RepC.rep _ _ hrep) _
              · rw [(List.mem_replicate.1 he).2]; exact hds
          · simp only [VRel, updO, if_true]
        · exact hq.elim
    · exact hq.elim
  · exact hq.elim

/-! ### Stores -/
theorem oneCell_int (k : IntKind) (n : Int) : (Value.int k n).oneCell' = true := rfl

theorem storeAt_run {w : World} {t : TypeId} {b o : Nat} {v u : Value} (h1 : v.oneCell' = true) (hc : v.cells = #[v]) (hsz : szT P t = some 1) (hcell : w.cell? ⟨b, o, none⟩ = some u) (hf : w.frozen? ⟨b, o, none⟩ = false) :
    (Instr.storeAt t (.pointer (some ⟨b, o, none⟩)) v).run P w = .ok () (w.setCell ⟨b, o, none⟩ v) := by
  simp only [Instr.storeAt, Instr.sureAddr, Sem.run_bind, Sem.run_pure, Result.andThen_ok, storeVar, run_sizeT hsz, hc, List.size_toArray, List.length_cons, List.length_nil]
  simp only [Nat.zero_add, ne_eq, not_true_eq_false, if_false, storeCells, Sem.run_bind, addr_add, Nat.add_zero, run_store _ _ _ _ _ h1, stored, hcell, hf]
  simp

theorem grown_set (w : World) (b o : Nat) (v : Value) : w.grownBy (w.setCell ⟨b, o, none⟩ v) (some b) :=
  ⟨rfl, rfl, rfl, by simp [World.setCell], fun k _ hne => Below.heap_setCell _ _ _ _ (fun e => hne (by rw [e]))⟩

theorem heap_set {w : World} {b o : Nat} {v : Value} {cur : Array Value} {t : TypeId} {fz : Nat × Nat} (h : w.heap[b]? = some (.cells cur t fz)) :
    (w.setCell ⟨b, o, none⟩ v).heap[b]? = some (.cells (cur.setIfInBounds o v) t fz) := by
  simp [World.setCell, Array.getElem?_modify, h]

theorem take_set_lt {l : List Value} {i n : Nat} {v : Value} : (l.set i v).take n = (l.take n).set i v := by
  rw [List.take_set]

theorem ownsV_store {w : World} {t : TypeId} {v : Value} {n : Nat} {vs : List Value} (h : OwnsV w t 1 v n vs) {i : Nat} (hi : i < n) (u : Value) :
    ∃ g cap cur, v = .slice (some ⟨g, 0, none⟩) n cap ∧ blk v = some g ∧ w.heap[g]? = some (.cells cur t (0, 0)) ∧ i < cur.size ∧ OwnsV (w.setCell ⟨g, i, none⟩ u) t 1 v n (vs.set i u) := by
  rcases h with ⟨A, _, h0, _⟩ | ⟨g, cap, cur, e, hc, hh, hle, hm, hz, hl, ht⟩
  · omega
  · refine ⟨g, cap, cur, e, by rw [e]; simp [blk]; omega, hh, by omega, .inr ⟨g, cap, cur.setIfInBounds i u, e, hc, heap_set hh, hle, hm, by simpa using hz, by simpa using hl, ?_⟩⟩
    rw [Array.toList_setIfInBounds, take_set_lt, ht]

theorem ownsV_many {w w' : World} {t : TypeId} {v : Value} {n o : Nat} {vs us : List Value} {g : Nat} {cur cur' : Array Value} (h : OwnsV w t 1 v n vs) (hg : blk v = some g) (hn : n = vs.length) (hh : w.heap[g]? = some (.cells cur t (0, 0)))
    (hh' : w'.heap[g]? = some (.cells cur' t (0, 0))) (hs : cur'.size = cur.size) (hl : cur'.toList = cur.toList.take o ++ us ++ cur.toList.drop (o + us.length)) (hle : o + us.length ≤ n) :
    OwnsV w' t 1 v n (vs.take o ++ us ++ vs.drop (o + us.length)) := by
  rcases h with ⟨A, rfl, _⟩ | ⟨g2, cap, cur2, e, hc, hh2, hle2, hm, hz, hl2, ht⟩
  · cases A <;> simp [blk] at hg
  · subst e
    have : g2 = g := by
      simp only [blk] at hg
      rw [if_neg (by omega)] at hg
      injection hg
    subst this
    rw [hh] at hh2
    injection hh2 with hh2
    injection hh2 with hh2
    subst hh2
    refine .inr ⟨g2, cap, cur', rfl, hc, hh', hle2, hm, by rw [hs]; exact hz, ?_, ?_⟩
    · simp; omega
    · rw [Nat.mul_one] at ht ⊢
      rw [hl, ← ht]
      have hcl : cur.toList.length = cap := by simpa using hz
      have a1 : (cur.toList.take o ++ us).length = o + us.length := by simp; omega
      rw [List.take_append, a1, List.take_of_length_le (l := cur.toList.take o ++ us) (by omega), List.take_take, Nat.min_eq_left (by omega), List.drop_take]

theorem cell_of {w : World} {g i : Nat} {cur : Array Value} {t : TypeId} {fz : Nat × Nat} (h : w.heap[g]? = some (.cells cur t fz)) (hi : i < cur.size) : ∃ u, w.cell? ⟨g, i, none⟩ = some u :=
  ⟨cur[i], by simp [World.cell?, h, hi]⟩

theorem unfrozen {w : World} {g i : Nat} {cur : Array Value} {t : TypeId} (h : w.heap[g]? = some (.cells cur t (0, 0))) : w.frozen? ⟨g, i, none⟩ = false := by simp [World.frozen?, h]

theorem rep_oneCell {w : World} {S : Nat → Prop} {y : D} {cs : List Value} (h : Rep w S y cs) (hy : y.isAgg = false) : ∃ u, cs = [u] ∧ u.oneCell' = true ∧ u.cells = #[u] := by
  cases y <;> simp only [Rep, D.isAgg] at h hy
  case int k n => exact ⟨_, h.1, rfl, rfl⟩
  case bool b => exact ⟨_, h, rfl, rfl⟩
  case str xs => obtain ⟨s, h, _⟩ := h; exact ⟨_, h, rfl, rfl⟩
  case raw v =>
    obtain ⟨h1, h2⟩ := h
    refine ⟨_, h1, ?_, ?_⟩ <;> cases v <;> simp_all [plainV, Value.oneCell', Value.cells]
  case ints k xs => obtain ⟨A, c, h, _⟩ := h; exact ⟨_, h, rfl, rfl⟩
  case sl sz es => obtain ⟨A, c, h, _⟩ := h; exact ⟨_, h, rfl, rfl⟩
  case ptr d => obtain ⟨b, o, h, _⟩ := h; exact ⟨_, h, rfl, rfl⟩
  case nilp => exact ⟨_, h, rfl, rfl⟩
  case agg ds => cases hy
  case fn f caps => obtain ⟨vs, h, _⟩ := h; exact ⟨_, h, rfl, rfl⟩

theorem RepAll_set {w : World} {S : Nat → Prop} : ∀ {es : List D} {vs : List Value} {i : Nat} {y : D} {u : Value}, (∀ e ∈ es, e.size = 1) → RepAll w S es vs → Rep w S y [u] → RepAll w S (es.set i y) (vs.set i u)
  | [], vs, i, y, u, _, h, hy => by simp only [RepAll] at h; subst h; simp [RepAll]
  | e :: es, vs, i, y, u, h1, h, hy => by
    simp only [RepAll] at h
    obtain ⟨c1, c2, rfl, h2, h3⟩ := h
    have hs := Rep.size _ _ h2
    rw [h1 e (by simp)] at hs
    match c1, hs with
    | [x], _ =>
      cases i with
      | zero => simp only [List.set_cons_zero, List.cons_append, List.nil_append, RepAll]; exact ⟨[u], c2, rfl, hy, h3⟩
      | succ i =>
        simp only [List.set_cons_succ, List.cons_append, List.nil_append, RepAll]
        exact ⟨[x], _, rfl, h2, RepAll_set (fun a ha => h1 a (List.mem_cons_of_mem _ ha)) h3 hy⟩

/-- What a store comes to. -/
def DoesU (P : Program) (C : Ctx) (a : Act) (w : World) (m : Sem Unit) (K : AState → Prop) : Prop :=
  ∃ w' s', m.run P w = .ok () w' ∧ ARel C s' a w' ∧ K s'

theorem VAll.append {w : World} {β : Nat → Option Value} {S : Nat → Prop} : ∀ {xs ys : List AVal} {as bs : List Value}, VAll w β S xs as → VAll w β S ys bs → VAll w β S (xs ++ ys) (as ++ bs)
  | [], ys, as, bs, h1, h2 => by simp only [VAll] at h1; subst h1; simpa using h2
  | x :: xs, ys, as, bs, h1, h2 => by
    simp only [VAll] at h1
    obtain ⟨v, r, rfl, h3, h4⟩ := h1
    simp only [List.cons_append, VAll]
    exact ⟨v, _, rfl, h3, VAll.append h4 h2⟩

theorem VAll.splice {w : World} {β : Nat → Option Value} {S : Nat → Prop} {cs us : List AVal} {vs ws : List Value} (h : VAll w β S cs vs) (hu : VAll w β S us ws) (off : Nat) :
    VAll w β S (cs.take off ++ us ++ cs.drop (off + us.length)) (vs.take off ++ ws ++ vs.drop (off + us.length)) := by
  have h1 : VAll w β S (cs.take off) (vs.take off) := by simpa using VAll.sub cs vs h 0 off
  have h2 : VAll w β S (cs.drop (off + us.length)) (vs.drop (off + us.length)) := by
    have := VAll.sub cs vs h (off + us.length) cs.length
    rwa [List.take_of_length_le (by simp), List.take_of_length_le (by simp [VAll.length _ _ h])] at this
  exact VAll.append (VAll.append h1 hu) h2

theorem one_rep {w : World} {β : Nat → Option Value} {S : Nat → Prop} {d : D} {cs : List Value} (h : Rep w S d cs) (hd : d.isAgg = false) (hf : flatD d = [d]) : VAll w β S ((flatD d).map .d) cs := by
  obtain ⟨u, rfl, _⟩ := rep_oneCell h hd
  rw [hf]
  simp only [List.map_cons, List.map_nil, VAll, VRel]
  exact ⟨u, [], rfl, ⟨[u], h, by rw [packD_one hd]; rfl⟩, rfl⟩

mutual
theorem flat_rep {w : World} {β : Nat → Option Value} {S : Nat → Prop} : ∀ (d : D) (cs : List Value), Rep w S d cs → VAll w β S ((flatD d).map .d) cs
  | .agg ds, cs, h => by simp only [Rep] at h; simp only [flatD]; exact flats_rep ds cs h
  | .int k n, cs, h => one_rep h rfl rfl
  | .bool b, cs, h => one_rep h rfl rfl
  | .str xs, cs, h => one_rep h rfl rfl
  | .raw v, cs, h => one_rep h rfl rfl
  | .ints k xs, cs, h => one_rep h rfl rfl
  | .sl sz es, cs, h => one_rep h rfl rfl
  | .ptr d, cs, h => one_rep h rfl rfl
  | .nilp, cs, h => one_rep h rfl rfl
  | .fn f caps, cs, h => one_rep h rfl rfl
theorem flats_rep {w : World} {β : Nat → Option Value} {S : Nat → Prop} : ∀ (ds : List D) (cs : List Value), RepAll w S ds cs → VAll w β S ((flatDs ds).map .d) cs
  | [], cs, h => by simp only [RepAll] at h; simp only [flatDs, List.map_nil, VAll]; exact h
  | d :: ds, cs, h => by
    simp only [RepAll] at h
    obtain ⟨c1, c2, rfl, h1, h2⟩ := h
    have e1 := flat_rep (β := β) d c1 h1
    have e2 := flats_rep (β := β) ds c2 h2
    simp only [flatDs, List.map_append]
    exact VAll.append e1 e2
end
end
end Go.Proofs.YtniaeiikdgbnfaaGreatDoor.AW
namespace Go.Proofs.YtniaeiikdgbnfaaGreatDoor.AW
open Go Go.RowKit
set_option linter.unusedSectionVars false
variable [Globs]

def oneV (st : List (Nat × Ob)) : AVal → Bool
  | .d x => !x.isAgg
  | .em _ | .nls _ | .view .. | .optr .. | .ofn .. => true
  | .own j => (getO st j).isSome
  | _ => false

section
variable {P : Program} {C : Ctx} {s : AState} {β : Nat → Option Value} {S : Nat → Prop} {a : Act} {w : World}

theorem ownsV_slice {w : World} {t : TypeId} {sz : Nat} {v : Value} {n : Nat} {vs : List Value} (h : OwnsV w t sz v n vs) : ∃ A c, v = .slice A n c := by
  rcases h with ⟨A, e1, e2, _⟩ | ⟨g, cap, cur, e1, _⟩
  · exact ⟨A, 0, by rw [e1, e2]⟩
  · exact ⟨_, cap, e1⟩

theorem oneV_cell (h : ARelB C s β S a w) {x : AVal} {v : Value} (hx : VRel w β S x v) (h1 : oneV s.st x = true) : v.oneCell' = true ∧ v.cells = #[v] := by
  cases x <;> simp only [oneV] at h1
  case d y =>
    simp only [VRel] at hx
    obtain ⟨cs, hr, rfl⟩ := hx
    have hy : y.isAgg = false := by simpa using h1
    obtain ⟨u, rfl, h2, h3⟩ := rep_oneCell hr hy
    rw [packD_one hy]
    exact ⟨h2, h3⟩
  case em y => simp only [VRel] at hx; obtain ⟨⟨A, rfl⟩, _⟩ := hx; exact ⟨rfl, rfl⟩
  case nls y => simp only [VRel] at hx; obtain ⟨rfl, _⟩ := hx; exact ⟨rfl, rfl⟩
  case own j =>
    obtain ⟨o, ho⟩ := Option.isSome_iff_exists.1 h1
    obtain ⟨bv, hβ0, hob⟩ := h.st.obj j _ (getO_mem ho)
    simp only [VRel] at hx
    rw [hβ0] at hx; injection hx with hx; subst hx
    cases o <;> simp only [ORel] at hob
    · obtain ⟨A, c, rfl⟩ := ownsV_slice hob.1; exact ⟨rfl, rfl⟩
    · obtain ⟨vs, hv, _⟩ := hob; obtain ⟨A, c, rfl⟩ := ownsV_slice hv; exact ⟨rfl, rfl⟩
    · obtain ⟨b, vs, rfl, _⟩ := hob; exact ⟨rfl, rfl⟩
  case view j o l => simp only [VRel] at hx; obtain ⟨A, c, rfl, _⟩ := hx; exact ⟨rfl, rfl⟩
  case optr j o => simp only [VRel] at hx; obtain ⟨b, _, rfl⟩ := hx; exact ⟨rfl, rfl⟩
  case ofn f cs => simp only [VRel] at hx; obtain ⟨vs, rfl, _⟩ := hx; exact ⟨rfl, rfl⟩
  all_goals cases h1

theorem oneV_cells (h : ARelB C s β S a w) : ∀ {xs : List AVal} {vs : List Value}, VAll w β S xs vs → xs.all (oneV s.st) = true → ∀ v ∈ vs, v.oneCell' = true
  | [], vs, hx, _ => by simp only [VAll] at hx; subst hx; simp
  | x :: xs, vs, hx, h1 => by
    simp only [VAll] at hx
    obtain ⟨v, r, rfl, h2, h3⟩ := hx
    simp only [List.all_cons, Bool.and_eq_true] at h1
    intro u hu
    rcases List.mem_cons.1 hu with rfl | hu
    · exact (oneV_cell h h2 h1.1).1
    · exact oneV_cells h h3 h1.2 u hu

/-- A value's cells. -/
theorem cellsV_rel (h : ARelB C s β S a w) {x : AVal} {v : Value} (hx : VRel w β S x v) {us : List AVal} (hc : cellsV x = some us) (h1 : us.all (oneV s.st) = true) : VAll w β S us v.cells.toList := by
  cases x <;> simp only [cellsV] at hc
  case d y =>
    injection hc with hc; subst hc
    simp only [VRel] at hx
    obtain ⟨cs, hr, rfl⟩ := hx
    cases hy : y.isAgg with
    | true =>
      cases y <;> simp [D.isAgg] at hy
      simpa [packD, Value.cells] using flat_rep (β := β) _ _ hr
    | false =>
      obtain ⟨u, rfl, _, h3⟩ := rep_oneCell hr hy
      rw [packD_one hy]
      simp only [List.headD_cons, h3]
      exact flat_rep (β := β) _ _ hr
  case ag _ cs =>
    injection hc with hc; subst hc
    simp only [VRel] at hx
    obtain ⟨vs, rfl, hv⟩ := hx
    exact hv
  all_goals first
    | (injection hc with hc; subst hc
       simp only [List.all_cons, List.all_nil, Bool.and_true] at h1
       rw [(oneV_cell h hx h1).2]
       simp only [VAll]
       exact ⟨_, _, rfl, hx, rfl⟩)
    | (cases hc)

theorem heap_setCells {b : Nat} {t : TypeId} {fz : Nat × Nat} : ∀ (vs : List Value) (o : Nat) (w : World) (cur : Array Value), w.heap[b]? = some (.cells cur t fz) → o + vs.length ≤ cur.size →
    ∃ cur' : Array Value, (w.setCells b o vs).heap[b]? = some (.cells cur' t fz) ∧ cur'.toList = cur.toList.take o ++ vs ++ cur.toList.drop (o + vs.length) ∧ cur'.size = cur.size
  | [], o, w, cur, h, _ => ⟨cur, h, by simp, rfl⟩
  | v :: vs, o, w, cur, h, hl => by
    simp only [List.length_cons] at hl
    obtain ⟨cur', h1, h2, h3⟩ := heap_setCells vs (o + 1) (w.setCell ⟨b, o, none⟩ v) (cur.setIfInBounds o v) (heap_set h) (by simp; omega)
    refine ⟨cur', h1, ?_, by simpa using h3⟩
    rw [h2, Array.toList_setIfInBounds]
    have hlt : o < cur.toList.length := by simp; omega
    rw [List.drop_set_of_lt (by omega)]
    have : (cur.toList.set o v).take (o + 1) = cur.toList.take o ++ [v] := by
      rw [List.take_set, List.take_succ_eq_append_getElem hlt, List.set_append_right _ _ (by simp; omega)]
      have : o - min o cur.size = 0 := by simp at hlt; omega
      simp [this]
    rw [this]
    simp only [List.length_cons, List.append_assoc, List.cons_append, List.nil_append]
    rw [show o + 1 + vs.length = o + (vs.length + 1) by omega]

theorem grown_setCells (b : Nat) : ∀ (vs : List Value) (o : Nat) (w : World), w.grownBy (w.setCells b o vs) (some b)
  | [], o, w => World.grownBy.refl w _
  | v :: vs, o, w => by
    have h1 := grown_set w b o v
    have h2 := grown_setCells b vs (o + 1) (w.setCell ⟨b, o, none⟩ v)
    exact ⟨h2.os.trans h1.os, h2.tape.trans h1.tape, h2.output.trans h1.output, Nat.le_trans h1.size h2.size, fun k hk hne => (h2.block k (Nat.lt_of_lt_of_le hk h1.size) hne).trans (h1.block k hk hne)⟩

theorem storeCells_run {w : World} {b o : Nat} {vs : List Value} {cur : Array Value} {t : TypeId} (h : w.heap[b]? = some (.cells cur t (0, 0))) (hl : o + vs.length ≤ cur.size) (h1 : ∀ v ∈ vs, v.oneCell' = true) :
    (storeCells ⟨b, o, none⟩ vs).run P w = .ok () (w.setCells b o vs) := by
  have := run_storeCells_cells (P := P) b o vs 0 w (fun j hj => ?_) (fun j _ => unfrozen h) h1
  · simpa using this
  · obtain ⟨u, hu⟩ := cell_of h (i := o + 0 + j) (by omega)
    rw [hu]; rfl

theorem repInts_inv {w : World} {S : Nat → Prop} {k : IntKind} : ∀ {xs : List Int} {cs : List Value}, RepAll w S (xs.map (D.int k)) cs → cs = xs.map (Value.int k) ∧ ∀ x ∈ xs, k.wrap x = x
  | [], cs, h => by simp only [List.map_nil, RepAll] at h; exact ⟨by simpa using h, by simp⟩
  | x :: xs, cs, h => by
    simp only [List.map_cons, RepAll, Rep] at h
    obtain ⟨c1, c2, rfl, ⟨rfl, h2⟩, h3⟩ := h
    have ih := repInts_inv h3
    refine ⟨by simp [ih.1], fun y hy => ?_⟩
    rcases List.mem_cons.1 hy with rfl | hy
    · exact h2
    · exact ih.2 y hy

theorem eStore_sound (h : ARelB C s β S a w) {t : TypeId} {x y : AVal} {u v : Value} {K : AState → Prop} (hx : VRel w β S x u) (hy : VRel w β S y v)
    (hone : ∀ us, cellsV y = some us → us.all (oneV s.st) = true) (hq : eStore P s t x y K) : DoesU P C a w (Instr.storeAt t u v) K := by
  unfold eStore at hq
  split at hq
  · rename_i j off
    simp only [VRel] at hx
    obtain ⟨b, hb, rfl⟩ := hx
    split at hq
    · rename_i k e xs ho
      obtain ⟨bv, hβ0, hob⟩ := h.st.obj j _ (getO_mem ho)
      simp only [ORel] at hob
      split at hq
      · rename_i k' n
        obtain ⟨rfl, hsz, hlt, hK⟩ := hq
        obtain ⟨rfl, hwn⟩ := d_int hy
        obtain ⟨g, cap, cur, e1, hbg, hh, hi, hown'⟩ := ownsV_store hob.1 hlt (.int k' n)
        rw [hβ0, Option.bind_some, hbg] at hb; injection hb with hb; subst hb
        obtain ⟨c, hc⟩ := cell_of hh hi
        refine ⟨_, _, storeAt_run rfl rfl hsz hc (unfrozen hh), ⟨β, S, h.touch (o' := .row k' e (xs.set off n)) (getO_mem ho) hβ0 (by rw [hbg]; exact grown_set _ _ _ _) ?_⟩, hK⟩
        simp only [ORel]
        refine ⟨by simpa using hown', fun z hz => ?_, by simpa using hob.2.2⟩
        rcases List.mem_or_eq_of_mem_set hz with hz | rfl
        · exact hob.2.1 z hz
        · exact hwn
      · rename_i ds
        obtain ⟨ns, rfl, hsz, hpos, hle, hK⟩ := hq
        simp only [VRel, Rep] at hy
        obtain ⟨cs, hall, rfl⟩ := hy
        obtain ⟨rfl, hwn⟩ := repInts_inv hall
        obtain ⟨g, cap, cur, e1, hbg, hh, hi, _⟩ := ownsV_store hob.1 (show 0 < xs.length by omega) (.int k 0)
        rw [hβ0, Option.bind_some, hbg] at hb; injection hb with hb; subst hb
        have hcap : xs.length ≤ cur.size := by
          rcases hob.1 with ⟨A, e2, h0, _⟩ | ⟨g2, cap2, cur2, e2, hc, hh2, hle2, hm, hz, hl2, ht⟩
          · omega
          · rw [e1] at e2
            injection e2 with e2 e3 e4
            injection e2 with e2
            injection e2 with e2
            subst e2
            rw [hh] at hh2
            injection hh2 with hh2
            injection hh2 with hh2
            subst hh2
            omega
        have hfit : off + (ns.map (Value.int k)).length ≤ cur.size := by simp; omega
        obtain ⟨v, hv⟩ : ∃ v, v = packD (.agg (ns.map (D.int k))) (ns.map (Value.int k)) := ⟨_, rfl⟩
        have hcs : v.cells.toList = ns.map (Value.int k) := by rw [hv]; simp [packD, Value.cells]
        have hrun : (Instr.storeAt t (.pointer (some ⟨g, off, none⟩)) v).run P w = .ok () (w.setCells g off (ns.map (Value.int k))) := by
          rw [← hcs] at hfit ⊢
          simp only [Instr.storeAt, Instr.sureAddr, Sem.run_bind, Sem.run_pure, Result.andThen_ok, storeVar, run_sizeT hsz]
          rw [if_neg (by have := congrArg List.length hcs; simpa using this)]
          exact storeCells_run hh hfit (fun v hv => by
            rw [hcs] at hv
            obtain ⟨n, _, rfl⟩ := List.mem_map.1 hv
            rfl)
        rw [hv] at hrun
        obtain ⟨cur', hh', hl', hs'⟩ := heap_setCells (ns.map (Value.int k)) off w cur hh hfit
        refine ⟨_, _, hrun, ⟨β, S, h.touch (o' := .row k e (xs.take off ++ ns ++ xs.drop (off + ns.length))) (getO_mem ho) hβ0 (by rw [hbg]; exact grown_setCells _ _ _ _) ?_⟩, hK⟩
        simp only [ORel]
        refine ⟨?_, fun z hz => ?_, by have := hob.2.2; simp; omega⟩
        · have := ownsV_many hob.1 hbg (by simp) hh hh' hs' hl' (by simpa using hle)
          have el : (xs.take off ++ ns ++ xs.drop (off + ns.length)).length = xs.length := by simp; omega
          rw [el]
          simpa [List.map_take, List.map_drop] using this
        · rcases List.mem_append.1 hz with hz | hz
          · rcases List.mem_append.1 hz with hz | hz
            · exact hob.2.1 z (List.mem_of_mem_take hz)
            · exact hwn z hz
          · exact hob.2.1 z (List.mem_of_mem_drop hz)
      · exact hq.elim
    · rename_i e sz es ho
      obtain ⟨bv, hβ0, hob⟩ := h.st.obj j _ (getO_mem ho)
      simp only [ORel] at hob
      obtain ⟨vs, hown, hall, hsizes, hlim, _⟩ := hob
      split at hq
      · rename_i y' hd
        obtain ⟨rfl, hsz, hagg, hlt, hK⟩ := hq
        obtain ⟨cs, hr, rfl⟩ := dv_rel hy hd
        obtain ⟨uu, rfl, ho1, ho2⟩ := rep_oneCell hr hagg
        rw [packD_one hagg]
        obtain ⟨g, cap, cur, e1, hbg, hh, hi, hown'⟩ := ownsV_store hown hlt uu
        rw [hβ0, Option.bind_some, hbg] at hb; injection hb with hb; subst hb
        obtain ⟨c, hc⟩ := cell_of hh hi
        have hg : w.grownBy (w.setCell ⟨g, off, none⟩ uu) (blk bv) := by rw [hbg]; exact grown_set _ _ _ _
        refine ⟨_, _, storeAt_run ho1 ho2 hsz hc (unfrozen hh), ⟨β, S, h.touch (o' := .rowD e 1 (es.set off y')) (getO_mem ho) hβ0 hg ?_⟩, hK⟩
        have himm := h.imm hg (fun g e => ⟨j, _, getO_mem ho, by rw [hβ0]; exact e⟩)
        simp only [ORel]
        refine ⟨vs.set off uu, by simpa using hown', RepAll.keep himm _ _ (RepAll_set hsizes hall hr), fun z hz => ?_, by simpa using hlim, by omega⟩
        rcases List.mem_or_eq_of_mem_set hz with hz | rfl
        · exact hsizes z hz
        · have := Rep.size _ _ hr; simpa using this.symm
      · exact hq.elim
    · rename_i e cs ho
      obtain ⟨bv, hβ0, hob⟩ := h.st.obj j _ (getO_mem ho)
      simp only [ORel] at hob
      obtain ⟨g, vs, hbv, hh, hall⟩ := hob
      split at hq
      · rename_i us hus
        obtain ⟨hsz, hle, hK⟩ := hq
        have hone' := hone us hus
        have hcells := cellsV_rel h hy hus hone'
        have hlen := VAll.length _ _ hcells
        have hlen2 := VAll.length _ _ hall
        have hbg : blk bv = some g := by rw [hbv]; rfl
        rw [hβ0, Option.bind_some, hbg] at hb; injection hb with hb; subst hb
        have hfit : off + v.cells.toList.length ≤ vs.size := by rw [hlen]; simp at hlen2; omega
        have hrun : (Instr.storeAt t (.pointer (some ⟨g, off, none⟩)) v).run P w = .ok () (w.setCells g off v.cells.toList) := by
          simp only [Instr.storeAt, Instr.sureAddr, Sem.run_bind, Sem.run_pure, Result.andThen_ok, storeVar, run_sizeT hsz]
          rw [if_neg (by simpa using hlen)]
          exact storeCells_run hh hfit (oneV_cells h hcells hone')
        obtain ⟨cur', hh', hl', hs'⟩ := heap_setCells v.cells.toList off w vs hh hfit
        have hg : w.grownBy (w.setCells g off v.cells.toList) (blk bv) := by rw [hbg]; exact grown_setCells _ _ _ _
        refine ⟨_, _, hrun, ⟨β, S, h.touch (o' := .cell e (cs.take off ++ us ++ cs.drop (off + us.length))) (getO_mem ho) hβ0 hg ?_⟩, hK⟩
        have himm := h.imm hg (fun g e => ⟨j, _, getO_mem ho, by rw [hβ0]; exact e⟩)
        simp only [ORel]
        refine ⟨g, cur', hbv, hh', ?_⟩
        rw [hl', hlen]
        exact VAll.keep himm (fun _ _ e => e) _ _ (VAll.splice hall hcells off)
      · exact hq.elim
    · exact hq.elim
  · exact hq.elim

end

def allDv : List AVal → Option (List D)
  | [] => some []
  | x :: r => match dv x, allDv r with
    | some y, some ys => some (y :: ys)
    | _, _ => none

/-- A value as a deep one. -/
def qToD (P : Program) (x : AVal) (K : D → Prop) : Prop :=
  match x with
  | .d y => K y
  | .em y => K y
  | .nls y => K y
  | .ag t cs =>
    match allDv cs with
    | some ds => flatD (asm P 6 t ds) = ds ∧ (asm P 6 t ds).isAgg = true ∧ K (asm P 6 t ds)
    | none => False
  | _ => False

def qToDs (P : Program) : List AVal → (List D → Prop) → Prop
  | [], K => K []
  | x :: r, K => qToD P x fun y => qToDs P r fun ys => K (y :: ys)

/-- A constant's cell, as a slot holds it. -/
def zV : D → AVal
  | .ints k [] => .nls (.ints k [])
  | .sl n [] => .nls (.sl n [])
  | x => .d x

/-- A long array of integers: kept as a row. -/
def longArr (P : Program) (e : TypeId) : Option (IntKind × Nat) :=
  match P.underlying e with
  | some (.array n t) => (match P.underlying t with
    | some (.int k) => if 9 ≤ n then some (k, n) else none
    | _ => none)
  | _ => none

def eAlloc (P : Program) (s : AState) (e : TypeId) (K : AState → AVal → Prop) : Prop :=
  match P.info? e with
  | some i =>
    match i.zero with
    | some z =>
      (match longArr P e with
      | some (k, n) => z.cells.toList = List.replicate n (.int k 0) ∧ 0 < n ∧ n ≤ 1000000 ∧ (s.new (.row k e (List.replicate n 0)) fun s' j => K s' (.optr j 0))
      | none => repCB (zeroD P e) z.cells.toList = true ∧ (s.new (.cell e ((flatD (zeroD P e)).map zV)) fun s' j => K s' (.optr j 0)))
    | none => False
  | none => False

def eBox (s : AState) (e : TypeId) (x : AVal) (K : AState → AVal → Prop) : Prop :=
  match cellsV x with
  | some us => us.all (oneV s.st) = true ∧ (s.new (.cell e us) fun s' j => K s' (.optr j 0))
  | none => False

/-- What an append or a copy reads. -/
inductive Src where
  | i (k : IntKind) (xs : List Int)
  | r (sz : Nat) (es : List D)

def srcD : D → Option Src
  | .ints k xs => some (.i k xs)
  | .sl sz es => some (.r sz es)
  | _ => none

def srcOf (s : AState) : AVal → Option Src
  | .d x => srcD x
  | .em x => srcD x
  | .nls x => srcD x
  | .own j =>
    match getO s.st j with
    | some (.row k _ xs) => some (.i k xs)
    | some (.rowD _ sz es) => some (.r sz es)
    | _ => none
  | .view j off len =>
    match getO s.st j with
    | some (.row k _ xs) => if off + len ≤ xs.length then some (.i k ((xs.drop off).take len)) else none
    | _ => none
  | _ => none

/-- What is read, with what that asks. -/
def qSrc (s : AState) (x : AVal) (K : Src → Prop) : Prop :=
  match x with
  | .d (.ints k xs) => K (.i k xs)
  | .d (.sl sz es) => K (.r sz es)
  | .em (.ints k xs) => K (.i k xs)
  | .em (.sl sz es) => K (.r sz es)
  | .nls (.ints k xs) => K (.i k xs)
  | .nls (.sl sz es) => K (.r sz es)
  | .own j =>
    (match getO s.st j with
    | some (.row k _ xs) => K (.i k xs)
    | some (.rowD _ sz es) => K (.r sz es)
    | _ => False)
  | .view j off len =>
    (match getO s.st j with
    | some (.row k _ xs) => off + len ≤ xs.length ∧ K (.i k ((xs.drop off).take len))
    | _ => False)
  | _ => False

theorem qSrc_spec {s : AState} {x : AVal} {K : Src → Prop} (h : qSrc s x K) : ∃ src, srcOf s x = some src ∧ K src := by
  unfold qSrc at h
  split at h
  · exact ⟨_, rfl, h⟩
  · exact ⟨_, rfl, h⟩
  · exact ⟨_, rfl, h⟩
  · exact ⟨_, rfl, h⟩
  · exact ⟨_, rfl, h⟩
  · exact ⟨_, rfl, h⟩
  · split at h
    · rename_i e; exact ⟨_, by simp only [srcOf, e], h⟩
    · rename_i e; exact ⟨_, by simp only [srcOf, e], h⟩
    · exact h.elim
  · split at h
    · rename_i e; exact ⟨_, by simp only [srcOf, e]; rw [if_pos h.1], h.2⟩
    · exact h.elim
  · exact h.elim

def isEmp : AVal → Bool
  | .em _ | .nls _ => true
  | _ => false

def AState.moved : AState → Nat → Ob → AState
  | ⟨n, fr, st, nx⟩, j, o => ⟨n, fun t => dropV j (fr t), setOd j o st, nx⟩

def eAppend (P : Program) (m : Nat) (s : AState) (t t2 : TypeId) (x y : AVal) (K : AState → AVal → Prop) : Prop :=
  match P.underlying t, P.underlying t2 with
  | some (.slice e), some (.slice _) =>
    (match P.info? e with
    | some i =>
      (match i.zero with
      | some z =>
        z.cells.size = i.size ∧ 1 ≤ i.bytes ∧
        (qSrc s y fun src => match src with
        | .i k ys => i.size = 1 ∧
          (match x with
          | .em _ | .nls _ => ys.length * i.bytes ≤ 140737488355328 ∧ (s.new (.row k e ys) fun s' j => K s' (.own j))
          | .own j =>
            (match getO s.st j with
            | some (.row k' e' xs) => m ≤ j ∧ k' = k ∧ e' = e ∧ (xs.length + ys.length) * i.bytes ≤ 140737488355328 ∧
                K (s.moved j (.row k e (xs ++ ys))) (.own j)
            | _ => False)
          | _ => False)
        | .r sz ys => i.size = sz ∧ 0 < sz ∧ (ys.all fun d => d.size == sz) = true ∧
          (match x with
          | .em _ | .nls _ => ys.length * i.bytes ≤ 140737488355328 ∧ (s.new (.rowD e sz ys) fun s' j => K s' (.own j))
          | .own j =>
            (match getO s.st j with
            | some (.rowD e' sz' xs) => m ≤ j ∧ sz' = sz ∧ e' = e ∧ (xs.length + ys.length) * i.bytes ≤ 140737488355328 ∧
                K (s.moved j (.rowD e sz (xs ++ ys))) (.own j)
            | _ => False)
          | _ => False))
      | none => False)
    | none => False)
  | _, _ => False

def eCopy (P : Program) (s : AState) (t : TypeId) (x y : AVal) (K : AState → AVal → Prop) : Prop :=
  match P.underlying t with
  | some (.slice e) => szT P e = some 1 ∧
    (qSrc s y fun src => match src with
    | .i k ys =>
      (match x with
      | .own j =>
        (match getO s.st j with
        | some (.row k' e' xs) => k' = k ∧
            K (s.withSt (setO j (.row k e' (ys.take xs.length ++ xs.drop ys.length)) s.st)) (.d (.int .i64 (min ys.length xs.length : Nat)))
        | _ => False)
      | .view j off len =>
        (match getO s.st j with
        | some (.row k' e' xs) => k' = k ∧ off + len ≤ xs.length ∧
            K (s.withSt (setO j (.row k e' (xs.take off ++ ys.take len ++ xs.drop (off + min ys.length len))) s.st)) (.d (.int .i64 (min ys.length len : Nat)))
        | _ => False)
      | _ => False)
    | _ => False)
  | _ => False

section
variable {P : Program} {C : Ctx} {s : AState} {β : Nat → Option Value} {S : Nat → Prop} {a : Act} {w : World}

theorem VAll.split : ∀ {xs ys : List AVal} {vs : List Value}, VAll w β S (xs ++ ys) vs → ∃ a b, vs = a ++ b ∧ VAll w β S xs a ∧ VAll w β S ys b
  | [], ys, vs, h => ⟨[], vs, rfl, by simp only [VAll], h⟩
  | x :: xs, ys, vs, h => by
    simp only [List.cons_append, VAll] at h
    obtain ⟨v, r, rfl, h1, h2⟩ := h
    obtain ⟨a, b, rfl, h3, h4⟩ := VAll.split h2
    exact ⟨v :: a, b, rfl, by simp only [VAll]; exact ⟨v, a, rfl, h1, h3⟩, h4⟩

theorem rep_leaf {d : D} {cs : List Value} (h : VAll w β S ((flatD d).map .d) cs) (hd : d.isAgg = false) (hf : flatD d = [d]) : Rep w S d cs := by
  rw [hf] at h
  simp only [List.map_cons, List.map_nil, VAll, VRel] at h
  obtain ⟨v, r, rfl, ⟨cs', hr, rfl⟩, rfl⟩ := h
  obtain ⟨u, rfl, _⟩ := rep_oneCell hr hd
  rw [packD_one hd]
  exact hr

inductive All2 {α β : Type} (R : α → β → Prop) : List α → List β → Prop
  | nil : All2 R [] []
  | cons {x y xs ys} : R x y → All2 R xs ys → All2 R (x :: xs) (y :: ys)

mutual
theorem rep_of_flat : ∀ (d : D) (cs : List Value), VAll w β S ((flatD d).map .d) cs → Rep w S d cs
  | .agg ds, cs, h => by simp only [flatD] at h; simp only [Rep]; exact reps_of_flat ds cs h
  | .int k n, cs, h => rep_leaf h rfl rfl
  | .bool b, cs, h => rep_leaf h rfl rfl
  | .str xs, cs, h => rep_leaf h rfl rfl
  | .raw v, cs, h => rep_leaf h rfl rfl
  | .ints k xs, cs, h => rep_leaf h rfl rfl
  | .sl sz es, cs, h => rep_leaf h rfl rfl
  | .ptr d, cs, h => rep_leaf h rfl rfl
  | .nilp, cs, h => rep_leaf h rfl rfl
  | .fn f caps, cs, h => rep_leaf h rfl rfl
theorem reps_of_flat : ∀ (ds : List D) (cs : List Value), VAll w β S ((flatDs ds).map .d) cs → RepAll w S ds cs
  | [], cs, h => by simp only [flatDs, List.map_nil, VAll] at h; simp only [RepAll]; exact h
  | d :: ds, cs, h => by
    simp only [flatDs, List.map_append] at h
    obtain ⟨c1, c2, rfl, h1, h2⟩ := VAll.split h
    simp only [RepAll]
    exact ⟨c1, c2, rfl, rep_of_flat d c1 h1, reps_of_flat ds c2 h2⟩
end

theorem allDv_rel : ∀ {xs : List AVal} {ds : List D} {vs : List Value}, allDv xs = some ds → VAll w β S xs vs → VAll w β S (ds.map .d) vs
  | [], ds, vs, h, hv => by simp [allDv] at h; subst h; simpa using hv
  | x :: r, ds, vs, h, hv => by
    simp only [VAll] at hv
    obtain ⟨v, q, rfl, h1, h2⟩ := hv
    simp only [allDv] at h
    split at h
    · rename_i y ys e1 e2
      injection h with h; subst h
      simp only [List.map_cons, VAll]
      exact ⟨v, q, rfl, by simp only [VRel]; exact dv_rel h1 e1, allDv_rel e2 h2⟩
    · cases h

theorem qToD_sound {x : AVal} {v : Value} {K : D → Prop} (hx : VRel w β S x v) (hq : qToD P x K) : ∃ y cs, Rep w S y cs ∧ v = packD y cs ∧ K y := by
  unfold qToD at hq
  split at hq
  · obtain ⟨cs, h1, h2⟩ := dv_rel hx rfl; exact ⟨_, cs, h1, h2, hq⟩
  · obtain ⟨cs, h1, h2⟩ := dv_rel hx rfl; exact ⟨_, cs, h1, h2, hq⟩
  · obtain ⟨cs, h1, h2⟩ := dv_rel hx rfl; exact ⟨_, cs, h1, h2, hq⟩
  · rename_i t cs
    split at hq
    · rename_i ds hd
      obtain ⟨h1, h2, hK⟩ := hq
      simp only [VRel] at hx
      obtain ⟨vs, rfl, hv⟩ := hx
      have hall := allDv_rel hd hv
      rw [← h1] at hall
      refine ⟨asm P 6 t ds, vs.toList, rep_of_flat _ _ hall, ?_, hK⟩
      have agg : ∀ (y : D), y.isAgg = true → Value.agg vs = packD y vs.toList := fun y hy => by cases y <;> simp_all [D.isAgg, packD]
      exact agg _ h2
    · exact hq.elim
  · exact hq.elim

theorem qToDs_sound : ∀ {xs : List AVal} {vs : List Value} {K : List D → Prop}, VAll w β S xs vs → qToDs P xs K → ∃ ys css, All2 (fun y cs => Rep w S y cs) ys css ∧ vs = List.zipWith packD ys css ∧ K ys
  | [], vs, K, h, hq => by simp only [VAll] at h; subst h; exact ⟨[], [], .nil, rfl, hq⟩
  | x :: r, vs, K, h, hq => by
    simp only [VAll] at h
    obtain ⟨v, q, rfl, h1, h2⟩ := h
    simp only [qToDs] at hq
    obtain ⟨y, cs, e1, rfl, hq⟩ := qToD_sound h1 hq
    obtain ⟨ys, css, e3, rfl, hK⟩ := qToDs_sound h2 hq
    exact ⟨y :: ys, cs :: css, .cons e1 e3, rfl, hK⟩

end
end Go.Proofs.YtniaeiikdgbnfaaGreatDoor.AW
