/- Rules: cuts, made slices, conversions, strings, division. -/
import Derived.Test.YtjlikmhhaecgnaaGreatDoorSxF
namespace Go.Sx
set_option linter.unusedVariables false
section
variable {P : Program} {fn : FuncId} {n : Nat} {post : Value → List HP → Prop} {s : St} {X : List HP}

/-! Cuts. -/
def slq (n : Nat) (s : St) : Option (TypeId × Value × Option Value × Option Value × Option Value) :=
  match headOp n s with
  | some o => match o.op with
    | .slice t x lo hi mx => some (t, ev s.f x, lo.map (ev s.f), hi.map (ev s.f), mx.map (ev s.f))
    | _ => none
  | none => none

/-- A bound that is written, or is not. -/
def bnd (d : Int) : Option Value → Option Int
  | none => some d
  | some (.int _ i) => some i
  | _ => none

theorem run_sliceBound {k : IntKind} {i : Int} {y : Nat} {code : BoundsCode} {w : World} (h0 : 0 ≤ i) (h1 : i ≤ y) : (Instr.sliceBound (.int k i) y code).run P w = .ok i.toNat w := by
  simp [Instr.sliceBound, asIntOf, h0, h1]

theorem bnd_cases {d i : Int} {v : Option Value} (h : bnd d v = some i) : v = none ∧ i = d ∨ ∃ k, v = some (.int k i) := by
  cases v with
  | none => simp [bnd] at h; exact .inl ⟨rfl, h.symm⟩
  | some v => cases v <;> simp [bnd] at h; exact .inr ⟨_, by rw [h]⟩
theorem run_bounds {b : Bool} {len cap : Nat} {lo hi : Option Value} {l h : Int} {w : World} (hl : bnd 0 lo = some l) (hh : bnd len hi = some h) (h0 : 0 ≤ l) (h1 : l ≤ h) (h2 : h ≤ cap) :
    (Instr.sliceBounds b len cap lo hi none).run P w = .ok (l.toNat, h.toNat, cap) w := by
  rcases bnd_cases hl with ⟨rfl, rfl⟩ | ⟨k, rfl⟩ <;> rcases bnd_cases hh with ⟨rfl, rfl⟩ | ⟨k2, rfl⟩
  · simp [Instr.sliceBounds]
  · simp [Instr.sliceBounds, run_sliceBound h1 h2]
  · simp [Instr.sliceBounds, run_sliceBound (y := len) h0 h1]
  · simp [Instr.sliceBounds, run_sliceBound (y := cap) (show 0 ≤ h by omega) h2, run_sliceBound (y := h.toNat) h0 (show l ≤ (h.toNat : Int) by omega)]

/-- s[lo:hi] of a slice. -/
theorem Ex.sl (m : Nat) {t e sz bytes : Nat} {zs : List Value} {a : Option Addr} {n' cap : Nat} {lo hi : Option Value} {l h' : Int}
    (ht : elemT P t = some (e, sz, bytes, zs)) (hl : bnd 0 lo = some l) (hh : bnd n' hi = some h') (h0 : 0 ≤ l) (h1 : l ≤ h') (h2 : h' ≤ cap)
    (h : slq n (xq P n m s) = some (t, .slice a n' cap, lo, hi, none))
    (next : Ex P fn n post (adv n (xq P n m s) (.slice (cutA a cap l.toNat sz) (h'.toNat - l.toNat) (cap - l.toNat))) X) : Ex P fn n post s X := by
  refine Ex.exec m ?_
  generalize xq P n m s = s' at *
  obtain ⟨o, ho, h⟩ := headOp_of (n := n) h
  split at h
  · rename_i t' x lo' hi' mx hop
    simp only [Option.some.injEq, Prod.mk.injEq] at h
    obtain ⟨rfl, hx, rfl, rfl, hm⟩ := h
    obtain ⟨i, z, hu, hi, _, rfl, _, _⟩ := elemT_spec ht
    refine Ex.oper ho fun E w hx' => ⟨_, w, X, .inl ?_, hx', next⟩
    unfold execOp
    simp [hop, hx, hm, Instr.sliceAt, Instr.slice, run_underlying hu, run_bounds hl hh h0 h1 h2, sizeOf, typeInfo, hi, cutA]
  · cases h

/-- s[lo:hi:hi] of a slice. -/
theorem Ex.sl3 (m : Nat) {t e sz bytes : Nat} {zs : List Value} {a : Option Addr} {n' cap : Nat} {lo : Option Value} {k k2 : IntKind} {l h' m' : Int}
    (ht : elemT P t = some (e, sz, bytes, zs)) (hl : bnd 0 lo = some l) (h0 : 0 ≤ l) (h1 : l ≤ h') (h2 : h' ≤ m') (h3 : m' ≤ cap)
    (h : slq n (xq P n m s) = some (t, .slice a n' cap, lo, some (.int k h'), some (.int k2 m')))
    (next : Ex P fn n post (adv n (xq P n m s) (.slice (cutA a m'.toNat l.toNat sz) (h'.toNat - l.toNat) (m'.toNat - l.toNat))) X) : Ex P fn n post s X := by
  refine Ex.exec m ?_
  generalize xq P n m s = s' at *
  obtain ⟨o, ho, h⟩ := headOp_of (n := n) h
  split at h
  · rename_i t' x lo' hi' mx hop
    simp only [Option.some.injEq, Prod.mk.injEq] at h
    obtain ⟨rfl, hx, rfl, hh, hm⟩ := h
    obtain ⟨i, z, hu, hi, _, rfl, _, _⟩ := elemT_spec ht
    refine Ex.oper ho fun E w hx' => ⟨_, w, X, .inl ?_, hx', next⟩
    have hb : ∀ w, (Instr.sliceBounds true n' cap (Option.map (ev s'.f) lo') (Option.map (ev s'.f) hi') (Option.map (ev s'.f) mx)).run P w = .ok (l.toNat, h'.toNat, m'.toNat) w := by
      intro w
      rw [hh, hm]
      rcases bnd_cases hl with ⟨hlo, rfl⟩ | ⟨k3, hlo⟩ <;> rw [hlo]
      · simp [Instr.sliceBounds, run_sliceBound (y := cap) (show 0 ≤ m' by omega) h3, run_sliceBound (y := m'.toNat) (show 0 ≤ h' by omega) (show h' ≤ (m'.toNat : Int) by omega)]
      · simp [Instr.sliceBounds, run_sliceBound (y := cap) (show 0 ≤ m' by omega) h3, run_sliceBound (y := m'.toNat) (show 0 ≤ h' by omega) (show h' ≤ (m'.toNat : Int) by omega), run_sliceBound (y := h'.toNat) h0 (show l ≤ (h'.toNat : Int) by omega)]
    unfold execOp
    simp only [hop, hx, Instr.sliceAt, Instr.slice]
    simp [run_underlying hu, hb, sizeOf, typeInfo, hi, cutA]
  · cases h

/-- s[lo:hi] of a text. -/
theorem Ex.slS (m : Nat) {t : Nat} {xs : List UInt8} {lo hi : Option Value} {l h' : Int}
    (ht : P.underlying t = some .string) (hl : bnd 0 lo = some l) (hh : bnd xs.length hi = some h') (h0 : 0 ≤ l) (h1 : l ≤ h') (h2 : h' ≤ xs.length)
    (h : slq n (xq P n m s) = some (t, str xs, lo, hi, none))
    (next : Ex P fn n post (adv n (xq P n m s) (str ((xs.drop l.toNat).take (h'.toNat - l.toNat)))) X) : Ex P fn n post s X := by
  refine Ex.exec m ?_
  generalize xq P n m s = s' at *
  obtain ⟨o, ho, h⟩ := headOp_of (n := n) h
  split at h
  · rename_i t' x lo' hi' mx hop
    simp only [Option.some.injEq, Prod.mk.injEq] at h
    obtain ⟨rfl, hx, rfl, rfl, hm⟩ := h
    refine Ex.oper ho fun E w hx' => ⟨_, w, X, .inl ?_, hx', next⟩
    have hsz : (ByteArray.mk xs.toArray).size = xs.length := rfl
    have he : (ByteArray.mk xs.toArray).extract l.toNat h'.toNat = ⟨((xs.drop l.toNat).take (h'.toNat - l.toNat)).toArray⟩ := by
      apply ByteArray.ext
      rw [ByteArray.data_extract]
      simp
    unfold execOp
    simp [hop, hx, hm, Instr.sliceAt, Instr.slice, run_underlying ht, hsz, run_bounds hl hh h0 h1 h2, he]
  · cases h

/-- A byte of a text. -/
def ixq (n : Nat) (s : St) : Option (TypeId × Value × Value) :=
  match headOp n s with
  | some o => match o.op with
    | .index t x ix => some (t, ev s.f x, ev s.f ix)
    | _ => none
  | none => none
theorem Ex.ixS (m : Nat) {t : Nat} {xs : List UInt8} {k : IntKind} {j : Int} {b : UInt8} (ht : P.underlying t = some .string) (h0 : 0 ≤ j) (hb : xs[j.toNat]? = some b)
    (h : ixq n (xq P n m s) = some (t, str xs, .int k j)) (next : Ex P fn n post (adv n (xq P n m s) (bv b)) X) : Ex P fn n post s X := by
  refine Ex.exec m ?_
  generalize xq P n m s = s' at *
  obtain ⟨o, ho, h⟩ := headOp_of (n := n) h
  split at h
  · rename_i t' x ix hop
    simp only [Option.some.injEq, Prod.mk.injEq] at h
    obtain ⟨rfl, hx, hix⟩ := h
    refine Ex.oper ho fun E w hx' => ⟨_, w, X, .inl ?_, hx', next⟩
    have hj : (ByteArray.mk xs.toArray)[j.toNat]? = some b := by
      rw [List.getElem?_eq_some_iff] at hb
      obtain ⟨hlt, rfl⟩ := hb
      have : j.toNat < (ByteArray.mk xs.toArray).size := hlt
      rw [getElem?_pos (ByteArray.mk xs.toArray) j.toNat this]
      rfl
    unfold execOp
    simp [hop, hx, hix, Instr.index, asIntOf, run_underlying ht, h0, hj]
  · cases h

/-! Made slices. -/
theorem rep_get {α : Type} (zs : List α) (hz : 0 < zs.length) : ∀ (l k : Nat), k < l * zs.length → (List.replicate l zs).flatten[k]? = zs[k % zs.length]? := by
  intro l
  induction l with
  | zero => intro k h; simp at h
  | succ l ih =>
    intro k h
    rw [List.replicate_succ, List.flatten_cons, List.getElem?_append]
    by_cases hk : k < zs.length
    · rw [if_pos hk, Nat.mod_eq_of_lt hk]
    · rw [if_neg hk, ih _ (by rw [Nat.add_mul, Nat.one_mul] at h; omega), Nat.mod_eq_sub_mod (a := k) (by omega)]
theorem made_take (z : Array Value) (sz l c : Nat) (hs : z.size = sz) (hl : l ≤ c) : (madeCells z (c * sz)).toList.take (l * sz) = (List.replicate l z.toList).flatten := by
  subst hs
  have hm : l * z.size ≤ c * z.size := Nat.mul_le_mul_right _ hl
  apply List.ext_getElem?
  intro k
  rw [List.getElem?_take]
  by_cases hk : k < l * z.size
  · have hz : 0 < z.size := by
      rcases Nat.eq_zero_or_pos z.size with h | h
      · rw [h] at hk; simp at hk
      · exact h
    rw [if_pos hk, rep_get z.toList (by simpa using hz) l k (by simpa using hk)]
    have hmod : k % z.size < z.size := Nat.mod_lt _ hz
    simp [madeCells, show k < c * z.size by omega, hmod]
  · rw [if_neg hk, List.getElem?_eq_none (by simp; omega)]
def mkq (n : Nat) (s : St) : Option (TypeId × Value × Value) :=
  match headOp n s with
  | some o => match o.op with
    | .makeSlice t l c => some (t, ev s.f l, ev s.f c)
    | _ => none
  | none => none
theorem Ex.mk (m : Nat) {t e sz bytes : Nat} {zs : List Value} {k k2 : IntKind} {l c : Int} (ht : elemT P t = some (e, sz, bytes, zs)) (hok : (Nat.beq zs.length sz) = true) (h0 : 0 ≤ l) (h1 : l ≤ c) (h63 : c ≤ 9223372036854775807) (hsz : (bytes : Int) * c ≤ 140737488355328)
    (h : mkq n (xq P n m s) = some (t, .int k l, .int k2 c))
    (next : ∀ b, Ex P fn n post (adv n (xq P n m s) (.slice (some ⟨b, 0, none⟩) l.toNat c.toNat)) (HP.own sz (some ⟨b, 0, none⟩) l.toNat c.toNat (List.replicate l.toNat zs).flatten :: X)) : Ex P fn n post s X := by
  refine Ex.exec m ?_
  generalize xq P n m s = s' at *
  obtain ⟨o, ho, h⟩ := headOp_of (n := n) h
  split at h
  · rename_i t' x ix hop
    simp only [Option.some.injEq, Prod.mk.injEq] at h
    obtain ⟨rfl, hx, hix⟩ := h
    obtain ⟨i, z, hu, hi, hz, rfl, rfl, rfl⟩ := elemT_spec ht
    have hzs : z.cells.toList.length = i.size := Nat.eq_of_beq_eq_true hok
    refine Ex.oper ho fun E w hx' => ?_
    have hr := run_make (P := P) w _ e i z hu hi hz k k2 l c h0 h1 (by omega) h63
    refine ⟨_, w.alloc (.cells (madeCells z.cells (c.toNat * i.size)) e), _, .inl ?_, (hx'.alloc _).ent (Ent.map fun M e' hb => ?_), next w.heap.size⟩
    · unfold execOp
      simp only [hop, hx, hix]
      show (do pure (Next.value (← Instr.makeSlice _ (.int k l) (.int k2 c))) : Sem Next).run P w = _
      rw [Sem.run_bind, hr]
      rfl
    · have hlc : l.toNat ≤ c.toNat := by omega
      have hmul : l.toNat * i.size ≤ c.toNat * i.size := Nat.mul_le_mul_right _ hlc
      have hlen : (List.replicate l.toNat z.cells.toList).flatten.length = l.toNat * i.size := by simp [hzs]
      refine (⟨hlen, hlc, .inr ⟨w.heap.size, 0, _, e, (0, 0), rfl, hb, by simp [size_madeCells], okFr_none _, ?_⟩⟩ : OwnsAt e' i.size _ l.toNat c.toNat _)
      simpa using made_take z.cells i.size l.toNat c.toNat hzs hlc
  · cases h
end
end Go.Sx
