/- Rules for slices and strings, as the scripts use them. -/
import Derived.Test.YtjlikmhhaecgnaaGreatDoorSxE
namespace Go.Sx
set_option linter.unusedVariables false
section
variable {P : Program} {fn : FuncId} {n : Nat} {post : Value → List HP → Prop} {s : St} {X : List HP}

theorem firstCells_lies {w : World} {sz m' c2 : Nat} {a2 : Option Addr} {news : List Value} (h : LiesAt (fun b o => w.heap[b]? = some o) sz a2 m' c2 news) :
    (Builtin.firstCells sz m' (.slice a2 m' c2)).run P w = .ok news.toArray w := by
  have h' := h
  obtain ⟨hl, hc, ⟨rfl, rfl⟩ | ⟨b, off, cur, ty, fr, rfl, hk, ho, ht⟩⟩ := h
  · have : m' = 0 := by omega
    subst this
    have : news = [] := List.eq_nil_of_length_eq_zero (by simpa using hl)
    subst this
    exact run_firstCells_none _ _ _ _ _
  · refine run_firstCells_some (P := P) w sz m' ⟨b, off, none⟩ m' c2 news hl fun j v hj => ?_
    rw [Addr.add_lit]
    exact lies_cells h' j v hj

theorem lies_heap {w w' : World} (hw : w'.heap = w.heap) {sz m' c2 : Nat} {a2 : Option Addr} {news : List Value} (h : LiesAt (fun b o => w.heap[b]? = some o) sz a2 m' c2 news) : LiesAt (fun b o => w'.heap[b]? = some o) sz a2 m' c2 news :=
  h.mono fun b o hb => by rw [hw]; exact hb

/-- append(s, x...): a slice is appended to an owned one. -/
theorem Ex.app (m i : Nat) {t e sz bytes : Nat} {zs : List Value} {a : Option Addr} {n' cap : Nat} {cs : List Value} {a2 : Option Addr} {m' c2 : Nat} {news : List Value}
    (hX : X[i]? = some (HP.own sz a n' cap cs)) (hr : Rd X sz a2 m' c2 news) (ht : elemT P t = some (e, sz, bytes, zs)) (hok : (Nat.beq zs.length sz && Nat.blt 0 sz && Nat.blt 0 bytes) = true)
    (h1 : ones news = true) (hsz : (n' + m') * bytes ≤ 140737488355328)
    (h : biq n (xq P n m s) = some (.append, [t, t], [.slice a n' cap, .slice a2 m' c2]))
    (next : ∀ a' cap', (a' = none ↔ a = none ∧ m' = 0) → Ex P fn n post (adv n (xq P n m s) (.slice a' (n' + m') cap')) (X.set i (HP.own sz a' (n' + m') cap' (cs ++ news)))) : Ex P fn n post s X := by
  refine Ex.exec m ?_
  generalize xq P n m s = s' at *
  obtain ⟨o, ty, c, ho, hop⟩ := biq_op h
  simp only [Bool.and_eq_true, Nat.blt_eq] at hok
  refine Ex.oper ho fun E w hx => ?_
  have hl := hr.at hx
  obtain ⟨i', z, hu, _⟩ := elemT_spec ht
  obtain ⟨a', cap', w', hrun, hx', hn⟩ := append_run (P := P) (hx.ent (Ent.front i hX)) ht (Nat.eq_of_beq_eq_true hok.1.1) hok.1.2 hok.2 hu (.inr ⟨_, rfl⟩) (x := .slice a2 m' c2) (m' := m') hl.1 (fun w => rfl)
    (fun w' hw => firstCells_lies (lies_heap hw hl)) h1 hsz ty
  refine ⟨_, w', _, .inl ?_, hx'.ent (Ent.back i hX), next a' cap' hn⟩
  rw [hop]
  simp only [builtin]
  show (do pure (Next.value (← Builtin.append_ #[t, t] ty #[.slice a n' cap, .slice a2 m' c2])) : Sem Next).run P w = _
  rw [Sem.run_bind, hrun]
  rfl

/-- append(s, text...) -/
theorem Ex.appS (m i : Nat) {t t2 e bytes : Nat} {zs : List Value} {a : Option Addr} {n' cap : Nat} {cs : List Value} {ys : List UInt8}
    (hX : X[i]? = some (HP.own 1 a n' cap cs)) (ht : elemT P t = some (e, 1, bytes, zs)) (ht2 : P.underlying t2 = some .string) (hok : (Nat.beq zs.length 1 && Nat.blt 0 bytes) = true)
    (hsz : (n' + ys.length) * bytes ≤ 140737488355328)
    (h : biq n (xq P n m s) = some (.append, [t, t2], [.slice a n' cap, str ys]))
    (next : ∀ a' cap', (a' = none ↔ a = none ∧ ys.length = 0) → Ex P fn n post (adv n (xq P n m s) (.slice a' (n' + ys.length) cap')) (X.set i (HP.own 1 a' (n' + ys.length) cap' (cs ++ bvs ys)))) : Ex P fn n post s X := by
  refine Ex.exec m ?_
  generalize xq P n m s = s' at *
  obtain ⟨o, ty, c, ho, hop⟩ := biq_op h
  simp only [Bool.and_eq_true, Nat.blt_eq] at hok
  refine Ex.oper ho fun E w hx => ?_
  obtain ⟨a', cap', w', hrun, hx', hn⟩ := append_run (P := P) (hx.ent (Ent.front i hX)) ht (Nat.eq_of_beq_eq_true hok.1) (by omega) hok.2 ht2 (.inl rfl) (x := str ys) (m' := ys.length) (news := bvs ys) (by simp) (fun w => by simp [Builtin.lenOf, ByteArray.size])
    (fun w' hw => by
      simp only [Builtin.firstCells, Sem.run_pure]
      congr 1
      apply Array.ext'
      simp [ByteArray.data_extract]) (ones_bvs ys) hsz ty
  refine ⟨_, w', _, .inl ?_, hx'.ent (Ent.back i hX), next a' cap' hn⟩
  rw [hop]
  simp only [builtin]
  show (do pure (Next.value (← Builtin.append_ #[t, t2] ty #[.slice a n' cap, str ys])) : Sem Next).run P w = _
  rw [Sem.run_bind, hrun]
  rfl

/-! Where an element lies. -/
def iaq (n : Nat) (s : St) : Option (TypeId × Value × Value) :=
  match headOp n s with
  | some o => match o.op with
    | .indexAddr t x ix => some (t, ev s.f x, ev s.f ix)
    | _ => none
  | none => none
theorem Ex.ia (m : Nat) {t e sz bytes : Nat} {zs : List Value} {a : Option Addr} {n' cap : Nat} {cs : List Value} {k : IntKind} {j : Int} (hr : Rd X sz a n' cap cs) (h0 : 0 ≤ j) (h1 : j < n') (ht : elemT P t = some (e, sz, bytes, zs))
    (h : iaq n (xq P n m s) = some (t, .slice a n' cap, .int k j))
    (next : ∀ b off, a = some ⟨b, off, none⟩ → Ex P fn n post (adv n (xq P n m s) (.pointer (some ⟨b, off + j.toNat * sz, none⟩))) X) : Ex P fn n post s X := by
  refine Ex.exec m ?_
  generalize xq P n m s = s' at *
  obtain ⟨o, ho, h⟩ := headOp_of (n := n) h
  split at h
  · rename_i t' x ix hop
    simp only [Option.some.injEq, Prod.mk.injEq] at h
    obtain ⟨rfl, hx, hix⟩ := h
    obtain ⟨i, z, hu, hi, _, rfl, _, _⟩ := elemT_spec ht
    refine Ex.oper ho fun E w hx' => ?_
    obtain ⟨hl, hc, ⟨rfl, rfl⟩ | ⟨b, off, cur, ty, fr, rfl, hk, _⟩⟩ := hr.at hx'
    · omega
    · refine ⟨_, w, X, .inl ?_, hx', next b off rfl⟩
      unfold execOp
      simp [hop, hx, hix, Instr.indexAt, asIntOf, run_underlying hu, h0, h1, sizeOf, typeInfo, hi, Addr.add_lit]
  · cases h

/-- Cells of a slice's array are read. -/
theorem Ex.ldR (m q : Nat) {sz n' cap b off : Nat} {cs : List Value} {v : Value} (hr : Rd X sz (some ⟨b, off, none⟩) n' cap cs) (hv : cs[q]? = some v)
    (h : ldq P n (xq P n m s) [v] = some ([⟨b, off + q, none⟩], .value v)) (next : Ex P fn n post (adv n (xq P n m s) v) X) : Ex P fn n post s X := by
  refine Ex.exec m ?_
  generalize xq P n m s = s' at *
  unfold ldq at h
  obtain ⟨o, ho, h⟩ := headOp_of (n := n) h
  refine Ex.oper ho fun E w hx => ⟨v, w, X, .inl (reqs_run h fun i a ha => ?_), hx, next⟩
  cases i with
  | zero =>
    simp at ha
    subst ha
    exact ⟨v, rfl, lies_cells (hr.at hx) q v hv⟩
  | succ i => simp at ha
theorem Ex.ldsR (m q cnt : Nat) {sz n' cap b off : Nat} {cs vs : List Value} {v : Value} (hr : Rd X sz (some ⟨b, off, none⟩) n' cap cs) (hv : (cs.drop q).take cnt = vs)
    (h : ldq P n (xq P n m s) vs = some ((List.range vs.length).map fun j => ⟨b, off + q + j, none⟩, .value v)) (next : Ex P fn n post (adv n (xq P n m s) v) X) : Ex P fn n post s X := by
  refine Ex.exec m ?_
  generalize xq P n m s = s' at *
  unfold ldq at h
  obtain ⟨o, ho, h⟩ := headOp_of (n := n) h
  refine Ex.oper ho fun E w hx => ⟨v, w, X, .inl (reqs_run h fun i a ha => ?_), hx, next⟩
  simp only [List.getElem?_map, Option.map_eq_some_iff] at ha
  obtain ⟨j, hj, rfl⟩ := ha
  rw [List.getElem?_eq_some_iff] at hj
  obtain ⟨hj, e⟩ := hj
  simp at hj e
  subst e
  subst hv
  have hlt : i < ((cs.drop q).take cnt).length := hj
  refine ⟨((cs.drop q).take cnt)[i], by simp [List.getElem?_eq_getElem hlt], ?_⟩
  rw [Nat.add_assoc]
  refine lies_cells (hr.at hx) (q + i) _ ?_
  simp only [List.getElem_take, List.getElem_drop]
  exact List.getElem?_eq_getElem _

theorem own_block {E : Env} {w : World} {sz n' cap b off : Nat} {cs : List Value} (hx : Heap E (HP.own sz (some ⟨b, off, none⟩) n' cap cs :: X) w) :
    ∃ cur ty fr, Heap E (HP.blk b (.cells (List.toArray cur) ty fr) :: X) w ∧ off + cap * sz ≤ cur.length ∧ okFr fr cur.length ∧ (cur.drop off).take (n' * sz) = cs ∧ cs.length = n' * sz ∧ n' ≤ cap := by
  obtain ⟨q, M, e', ⟨e1, e2, h1, h2, hd, ⟨hl, hc, h⟩, hxx⟩, hdd, hM, he⟩ := hx
  rcases h with ⟨h, _⟩ | ⟨b', off', cur, ty, fr, hbb, hk, ho, hf, ht⟩
  · cases h
  · cases hbb
    exact ⟨cur.toList, ty, fr, ⟨q, M, e', ⟨e1, e2, h1, h2, hd, by simpa [HP.blk] using hk, hxx⟩, hdd, hM, he⟩, by simpa using ho, by simpa using hf, ht, hl, hc⟩

theorem put_own {cur cs vs : List Value} {off q len : Nat} (hl : cs.length = len) (hf : off + len ≤ cur.length) (hq : q + vs.length ≤ len) (ht : (cur.drop off).take len = cs) : ((put cur (off + q) vs).drop off).take len = put cs q vs := by
  apply List.ext_getElem?
  intro k
  rw [List.getElem?_take, List.getElem?_drop, put_get _ _ _ _ (by omega), put_get _ _ _ _ (by omega)]
  by_cases hk : k < len
  · rw [if_pos hk]
    by_cases h1 : q ≤ k ∧ k < q + vs.length
    · rw [if_pos (by omega), if_pos h1]
      congr 1
      omega
    · rw [if_neg (by omega), if_neg h1, ← ht, List.getElem?_take, if_pos hk, List.getElem?_drop]
  · rw [if_neg hk, if_neg (by omega), List.getElem?_eq_none (by omega)]

/-- Cells of an owned slice's array are written. -/
theorem Ex.stR (m i q : Nat) {sz n' cap b off : Nat} {cs : List Value} (vs : List Value) (hX : X[i]? = some (HP.own sz (some ⟨b, off, none⟩) n' cap cs)) (hq : q + vs.length ≤ n' * sz) (h1 : ones vs = true)
    (h : stq P n (xq P n m s) = some (vs.mapIdx (fun j v => (⟨b, off + q + j, none⟩, v)), .skip))
    (next : Ex P fn n post (adv n (xq P n m s) undef) (X.set i (HP.own sz (some ⟨b, off, none⟩) n' cap (put cs q vs)))) : Ex P fn n post s X := by
  refine Ex.exec m ?_
  generalize xq P n m s = s' at *
  unfold stq at h
  obtain ⟨o, ho, h⟩ := headOp_of (n := n) h
  refine Ex.oper ho fun E w hx => ?_
  obtain ⟨cur, ty, fr, hx', hcap, hf, ht, hl, hc⟩ := own_block (hx.ent (Ent.front i hX))
  have e1 : n' * sz ≤ cap * sz := Nat.mul_le_mul_right _ hc
  obtain ⟨w', hr, hx''⟩ := wrts_run (off := off + q) h h1 (by omega) hf hx'
  refine ⟨undef, w', _, .inr ⟨hr, rfl⟩, (hx''.ent (Ent.map fun M e' hb => ?_)).ent (Ent.back i hX), next⟩
  refine (⟨by rw [put_length]; exact hl, hc, .inr ⟨b, off, _, ty, fr, rfl, hb, ?_, ?_, ?_⟩⟩ : OwnsAt e' sz _ n' cap (put cs q vs))
  · simpa [put_length] using hcap
  · simpa [put_length] using hf
  · simpa using put_own hl (by omega) hq ht
end
end Go.Sx
