/- Rules for slices and strings. -/
import Derived.Test.YtjlikmhhaecgnaaGreatDoorSxD
namespace Go.Sx
set_option linter.unusedVariables false

abbrev bv (x : UInt8) : Value := .int .u8 x.toNat
abbrev bvs (xs : List UInt8) : List Value := xs.map bv
abbrev str (xs : List UInt8) : Value := .string ⟨xs.toArray⟩
theorem ones_bvs : ∀ xs : List UInt8, ones (bvs xs) = true
  | [] => rfl
  | _ :: xs => by simpa [ones] using ones_bvs xs
theorem ones_append : ∀ (xs ys : List Value), ones xs = true → ones ys = true → ones (xs ++ ys) = true
  | [], _, _, h => h
  | v :: vs, ys, h, h' => by
    cases v <;> simp only [ones, List.cons_append] at h ⊢ <;> first | cases h | exact ones_append vs ys h h'

section
variable {P : Program} {fn : FuncId} {n : Nat} {post : Value → List HP → Prop} {s : St} {X : List HP}

/-- A call of a builtin, its arguments worked out. -/
def biq (n : Nat) (s : St) : Option (Builtin × List TypeId × List Value) :=
  match headOp n s with
  | some o => match o.op with
    | .call c => match c.callee with
      | .builtin b => some (b, c.argTypes.toList, (c.args.map (ev s.f)).toList)
      | _ => none
    | _ => none
  | none => none

theorem biq_op {s : St} {b : Builtin} {tys : List TypeId} {vs : List Value} (h : biq n s = some (b, tys, vs)) :
    ∃ o ty cs, headOp n s = some o ∧ execOp (ev s.f) o = builtin b tys.toArray ty cs vs.toArray := by
  obtain ⟨o, ho, h⟩ := headOp_of (n := n) h
  split at h
  · rename_i c hop
    split at h
    · rename_i b' hc
      simp only [Option.some.injEq, Prod.mk.injEq] at h
      obtain ⟨rfl, rfl, rfl⟩ := h
      refine ⟨o, o.type, c.args.map (fun | .const _ => true | _ => false), ho, ?_⟩
      unfold execOp
      simp only [hop, resolve, hc]
      rfl
    · cases h
  · cases h

/-- What is known of a slice's element. -/
def elemT (P : Program) (t : TypeId) : Option (TypeId × Nat × Nat × List Value) :=
  match P.underlying t with
  | some (.slice e) => match P.info? e with
    | some i => match i.zero with
      | some z => some (e, i.size, i.bytes, z.cells.toList)
      | none => none
    | none => none
  | _ => none
theorem elemT_spec {P : Program} {t e sz bytes : Nat} {zs : List Value} (h : elemT P t = some (e, sz, bytes, zs)) :
    ∃ i z, P.underlying t = some (.slice e) ∧ P.info? e = some i ∧ i.zero = some z ∧ i.size = sz ∧ i.bytes = bytes ∧ z.cells.toList = zs := by
  unfold elemT at h
  split at h
  · rename_i e' hu
    split at h
    · rename_i i hi
      split at h
      · rename_i z hz
        simp only [Option.some.injEq, Prod.mk.injEq] at h
        obtain ⟨rfl, h1, h2, h3⟩ := h
        exact ⟨i, z, hu, hi, hz, h1, h2, h3⟩
      · cases h
    · cases h
  · cases h

theorem lies_cells {w : World} {sz n cap : Nat} {b off : Nat} {cs : List Value} (h : LiesAt (fun b o => w.heap[b]? = some o) sz (some ⟨b, off, none⟩) n cap cs) :
    ∀ j v, cs[j]? = some v → w.cell? ⟨b, off + j, none⟩ = some v := by
  obtain ⟨hl, _, h⟩ := h
  rcases h with ⟨h, _⟩ | ⟨b', off', cur, ty, fr, he, hk, ho, ht⟩
  · cases h
  · cases he
    intro j v hv
    rw [cell_of hk]
    have hj : j < n * sz := by
      rcases Nat.lt_or_ge j cs.length with h | h
      · omega
      · rw [List.getElem?_eq_none h] at hv; cases hv
    rw [← ht, List.getElem?_take, if_pos hj, List.getElem?_drop] at hv
    simpa using hv

theorem put_cur {cur : Array Value} {off n sz cap : Nat} {cs news : List Value} {m : Nat} (hl : cs.length = n * sz) (hn : news.length = m * sz) (ho : off + cap * sz ≤ cur.size) (hc : n + m ≤ cap) (ht : (cur.toList.drop off).take (n * sz) = cs) :
    ((put cur.toList (off + n * sz) news).drop off).take ((n + m) * sz) = cs ++ news := by
  have e1 : (n + m) * sz ≤ cap * sz := Nat.mul_le_mul_right _ hc
  have e2 : (n + m) * sz = n * sz + m * sz := Nat.add_mul _ _ _
  have hlen : cur.toList.length = cur.size := rfl
  apply List.ext_getElem?
  intro k
  rw [List.getElem?_take, List.getElem?_drop, List.getElem?_append]
  by_cases hk : k < (n + m) * sz
  · rw [if_pos hk, put_get _ _ _ _ (by omega)]
    by_cases h1 : k < cs.length
    · rw [if_pos h1, if_neg (by omega), ← ht, List.getElem?_take, if_pos (by omega), List.getElem?_drop]
    · rw [if_neg h1, if_pos (by omega)]
      congr 1
      omega
  · rw [if_neg hk, if_neg (by omega), List.getElem?_eq_none (by omega)]

theorem append_plain {t t2 e : Nat} {d2 : TypeDesc} {i : TypeInfo} {z : Value} (hu : P.underlying t = some (.slice e)) (hi : P.info? e = some i) (hzz : i.zero = some z) (ht2 : P.underlying t2 = some d2) (hd2 : d2 = .string ∨ ∃ e2, d2 = .slice e2)
    (a : Option Addr) (n' cap m' : Nat) (x : Value) (hlen : ∀ w, (Builtin.lenOf x).run P w = .ok m' w) (h63 : (n' : Int) + m' ≤ 9223372036854775807) (hb : 0 < i.bytes) (ty : TypeId) (w : World)
    (hfit : n' + m' ≤ cap ∨ Builtin.nextslicecap (n' + m') cap * i.bytes ≤ 281474976710656) :
    (Builtin.append_ #[t, t2] ty #[.slice a n' cap, x]).run P w =
      if n' + m' ≤ cap then (do
        let new ← Builtin.firstCells i.size m' x
        if let some b := a then storeCells (b.add (n' * i.size)) new.toList
        pure (.slice a (n' + m') cap) : Sem Value).run P w
      else (do
        let c ← choose (.appendCap (n' + m') cap e)
        let old ← Builtin.firstCells i.size n' (.slice a n' cap)
        let new ← Builtin.firstCells i.size m' x
        pure (.slice (some (← newRow e (old ++ new ++ Builtin.zeroCells z.cells (c - (n' + m'))))) (n' + m') c) : Sem Value).run P w := by
  have h63' : ¬ (9223372036854775807 < (n' : Int) + m') := by omega
  have hb' : i.bytes ≠ 0 := by omega
  by_cases hr : n' + m' ≤ cap
  · rw [if_pos hr]
    rcases hd2 with rfl | ⟨e2, rfl⟩ <;> (simp [Builtin.append_, run_underlying hu, run_underlying ht2, sizeOf, typeInfo, hi, hlen, hr] <;> cases a <;> rfl)
  · rw [if_neg hr]
    have hfit' : ¬ (281474976710656 < Builtin.nextslicecap (n' + m') cap * i.bytes) := by
      rcases hfit with h | h
      · exact absurd h hr
      · omega
    rcases hd2 with rfl | ⟨e2, rfl⟩ <;> (simp [Builtin.append_, run_underlying hu, run_underlying ht2, sizeOf, typeInfo, zeroValue, hi, hzz, hlen, hr, h63', hb', hfit'])
theorem append_run {t t2 e sz bytes : Nat} {zs : List Value} {d2 : TypeDesc} {a : Option Addr} {n' cap : Nat} {cs : List Value} {E : Env} {w : World} (hx : Heap E (HP.own sz a n' cap cs :: X) w)
    (ht : elemT P t = some (e, sz, bytes, zs)) (hz : zs.length = sz) (hs : 0 < sz) (hb : 0 < bytes) (ht2 : P.underlying t2 = some d2) (hd2 : d2 = .string ∨ ∃ e2, d2 = .slice e2)
    {x : Value} {m' : Nat} {news : List Value} (hn : news.length = m' * sz) (hlen : ∀ w, (Builtin.lenOf x).run P w = .ok m' w) (hfc : ∀ w' : World, w'.heap = w.heap → (Builtin.firstCells sz m' x).run P w' = .ok news.toArray w')
    (h1 : ones news = true) (hsz : (n' + m') * bytes ≤ 140737488355328) (ty : TypeId) :
    ∃ a' cap' w', (Builtin.append_ #[t, t2] ty #[.slice a n' cap, x]).run P w = .ok (.slice a' (n' + m') cap') w' ∧ Heap E (HP.own sz a' (n' + m') cap' (cs ++ news) :: X) w' ∧ (a' = none ↔ a = none ∧ m' = 0) := by
  obtain ⟨i, z, hu, hi, hzz, rfl, rfl, rfl⟩ := elemT_spec ht
  have hzs : z.cells.size = i.size := by simpa using hz
  have hle : n' + m' ≤ 140737488355328 := Nat.le_trans (Nat.le_mul_of_pos_right _ hb) hsz
  have hown : OwnsAt (frag w) i.size a n' cap cs := by
    obtain ⟨_, M, e', ⟨e1, e2, h1, _, _, hc, _⟩, _, _, he⟩ := hx
    exact (HP.own i.size a n' cap cs).mono (M := M) (Sub.refl _) (h1.trans he) hc
  obtain ⟨hl, hc, hown⟩ := hown
  by_cases hroom : n' + m' ≤ cap
  · -- there is room
    rcases hown with ⟨rfl, rfl⟩ | ⟨b, off, cur, ty', fr, rfl, hk, ho, hf, htk⟩
    · have hm : m' = 0 := by omega
      have hn0 : n' = 0 := by omega
      subst hm hn0
      have hnn : news = [] := List.eq_nil_of_length_eq_zero (by simpa using hn)
      subst hnn
      refine ⟨none, 0, w, ?_, by simpa using hx, by simp⟩
      rw [append_plain hu hi hzz ht2 hd2 _ _ _ 0 x hlen (by omega) hb ty w (.inl hroom), if_pos hroom]
      simp [hfc w rfl]
    · have e1 : (n' + m') * i.size ≤ cap * i.size := Nat.mul_le_mul_right _ hroom
      rw [Nat.add_mul] at e1
      have hx' : Heap E (HP.blk b (.cells (List.toArray cur.toList) ty' fr) :: X) w := by
        obtain ⟨q, M, e', ⟨e1, e2, h1, h2, hd, hc', hxx⟩, hdd, hM, he⟩ := hx
        obtain ⟨_, _, h | ⟨b', off', cur', ty'', fr', hbb, hkk, _⟩⟩ := hc'
        · exact absurd h.1 (by simp)
        · cases hbb
          have := he _ _ (h1 _ _ hkk)
          rw [hk] at this
          cases this
          exact ⟨q, M, e', ⟨e1, e2, h1, h2, hd, by simpa [HP.blk] using hkk, hxx⟩, hdd, hM, he⟩
      obtain ⟨w', hr, hh⟩ := storeCells_run (P := P) (off := off + n' * i.size) news 0 cur.toList w (ones_mem h1) (by simp; omega) (by simpa using hf) hx'
      refine ⟨some ⟨b, off, none⟩, cap, w', ?_, ?_, by simp⟩
      · rw [append_plain hu hi hzz ht2 hd2 _ _ _ m' x hlen (by omega) hb ty w (.inl hroom), if_pos hroom]
        simp [hfc w rfl, Addr.add_lit, hr]
      · refine hh.ent (Ent.map fun M e' hb' => ?_)
        refine (⟨by rw [List.length_append, hl, hn, Nat.add_mul], hroom, .inr ⟨b, off, _, ty', fr, rfl, hb', ?_, ?_, ?_⟩⟩ : OwnsAt e' i.size _ (n' + m') cap (cs ++ news))
        · simpa [put_length] using ho
        · simpa [put_length] using hf
        · simpa using put_cur hl hn ho hroom htk
  · -- it grows
    have hfit : ¬ (281474976710656 < Builtin.nextslicecap (n' + m') cap * i.bytes) := by
      have := growslice_fits (old := cap) (show cap < n' + m' by omega) hsz
      omega
    have h63 : ¬ (9223372036854775807 < ((n' : Int) + (m' : Int))) := by omega
    have hold : (Builtin.firstCells i.size n' (.slice a n' cap)).run P w.drew = .ok cs.toArray w.drew := by
      rcases hown with ⟨rfl, rfl⟩ | ⟨b, off, cur, ty', fr, rfl, hk, ho, hf, htk⟩
      · have : n' = 0 := by omega
        subst this
        have : cs = [] := List.eq_nil_of_length_eq_zero (by simpa using hl)
        subst this
        exact run_firstCells_none _ _ _ _ _
      · refine run_firstCells_some (P := P) w.drew i.size n' ⟨b, off, none⟩ n' cap cs hl fun j v hj => ?_
        rw [Addr.add_lit]
        have hlies : LiesAt (fun b o => w.heap[b]? = some o) i.size (some ⟨b, off, none⟩) n' cap cs :=
          ⟨hl, hc, .inr ⟨b, off, cur, ty', fr, rfl, hk, by have := Nat.mul_le_mul_right i.size hc; omega, htk⟩⟩
        exact lies_cells hlies j v hj
    have hge := grownCap_ge w (n' + m') cap e
    refine ⟨some ⟨w.heap.size, 0, none⟩, grownCap w (n' + m') cap e, w.drew.alloc (.cells (cs.toArray ++ news.toArray ++ Builtin.zeroCells z.cells (grownCap w (n' + m') cap e - (n' + m'))) e), ?_, ?_, by simp; omega⟩
    · rw [append_plain hu hi hzz ht2 hd2 _ _ _ m' x hlen (by omega) hb ty w (.inr (by omega)), if_neg hroom]
      simp [Question.forced, hold, hfc w.drew rfl, newRow, grownCap]
      congr 2
      apply Array.ext'
      simp [List.append_assoc]
    · have hX : Heap E X w.drew := (hx.ent (Ent.drop _ _)).same rfl rfl
      have hn' := hX.alloc (.cells (cs.toArray ++ news.toArray ++ Builtin.zeroCells z.cells (grownCap w (n' + m') cap e - (n' + m'))) e)
      refine hn'.ent (Ent.map fun M e' hb' => ?_)
      have hsz' : (n' + m') * i.size + (grownCap w (n' + m') cap e - (n' + m')) * i.size = grownCap w (n' + m') cap e * i.size := by
        rw [← Nat.add_mul]; congr 1; omega
      refine (⟨by rw [List.length_append, hl, hn, Nat.add_mul], hge, .inr ⟨w.drew.heap.size, 0, _, e, (0, 0), rfl, hb', ?_, okFr_none _, ?_⟩⟩ : OwnsAt e' i.size _ (n' + m') (grownCap w (n' + m') cap e) (cs ++ news))
      · simp only [Array.size_append, List.size_toArray, size_zeroCells, hzs, hl, hn]
        rw [Nat.add_mul] at hsz'
        omega
      · simp only [Array.toList_append, List.drop_zero]
        rw [List.take_append_of_le_length (by simp [hl, hn, Nat.add_mul])]
        rw [List.take_of_length_le (by simp [hl, hn, Nat.add_mul])]
end
end Go.Sx
