/- Rules: loads, stores, new blocks, slices. -/
import Derived.Test.YtjlikmhhaecgnaaGreatDoorSxB
namespace Go.Sx
set_option linter.unusedVariables false
section
variable {P : Program} {fn : FuncId} {n : Nat} {post : Value → List HP → Prop} {s : St} {X : List HP}

theorem headOp_of {α : Type} {s : St} {g : Oper → Option α} {r : α} (h : (match headOp n s with | some o => g o | none => none) = some r) : ∃ o, headOp n s = some o ∧ g o = some r := by
  cases ho : headOp n s with
  | none => simp [ho] at h
  | some o => exact ⟨o, rfl, by simpa [ho] using h⟩

/-! Loads. -/
def reqs {α : Type} (P : Program) (vs : List Value) : Sem α → Option (List Addr × α)
  | .pure a => match vs with | [] => some ([], a) | _ => none
  | .program k => reqs P vs (k P)
  | .mark _ k => reqs P vs k
  | .load _ a k => match vs with
    | v :: vs => match reqs P vs (k v) with
      | some (l, r) => some (a :: l, r)
      | none => none
    | [] => none
  | _ => none

theorem reqs_run {α : Type} {P : Program} {w : World} {sem : Sem α} : ∀ {vs : List Value} {as : List Addr} {r : α}, reqs P vs sem = some (as, r) → (∀ (i : Nat) (a : Addr), as[i]? = some a → ∃ v, vs[i]? = some v ∧ w.cell? a = some v) → sem.run P w = .ok r w := by
  induction sem with
  | pure a =>
    intro vs as r h _
    cases vs with
    | nil => simp [reqs] at h; rw [← h.2]; rfl
    | cons => simp [reqs] at h
  | program k ih => intro vs as r h hc; exact ih P h hc
  | mark m k ih => intro vs as r h hc; exact ih h hc
  | load m a k ih =>
    intro vs as r h hc
    cases vs with
    | nil => simp [reqs] at h
    | cons v vs =>
      simp only [reqs] at h
      split at h
      · rename_i l r' hk
        simp at h
        obtain ⟨rfl, rfl⟩ := h
        obtain ⟨v', hv', hcell⟩ := hc 0 a rfl
        simp at hv'
        subst hv'
        simp only [Sem.run, hcell]
        exact ih _ hk fun i a' ha => hc (i + 1) a' ha
      · cases h
  | _ => intro vs as r h _; simp [reqs] at h

def ldq (P : Program) (n : Nat) (s : St) (vs : List Value) : Option (List Addr × Next) :=
  match headOp n s with
  | some o => reqs P vs (execOp (ev s.f) o)
  | none => none

theorem cell_of {w : World} {b off : Nat} {cur : Array Value} {ty : TypeId} {fr : Nat × Nat} (h : w.heap[b]? = some (.cells cur ty fr)) : w.cell? ⟨b, off, none⟩ = cur[off]? := by
  simp [World.cell?, h]

/-- One cell is read. -/
theorem Ex.ld (m off : Nat) {b : Nat} {cs : List Value} {ty : TypeId} {fr : Nat × Nat} {v : Value} (hk : Kn X b (.cells (List.toArray cs) ty fr)) (hv : cs[off]? = some v)
    (h : ldq P n (xq P n m s) [v] = some ([⟨b, off, none⟩], .value v)) (next : Ex P fn n post (adv n (xq P n m s) v) X) : Ex P fn n post s X := by
  refine Ex.exec m ?_
  generalize xq P n m s = s' at *
  obtain ⟨o, ho, h⟩ := headOp_of (n := n) h
  refine Ex.oper ho fun E w hx => ⟨v, w, X, .inl (reqs_run h fun i a ha => ?_), hx, next⟩
  cases i with
  | zero =>
    simp at ha
    subst ha
    exact ⟨v, rfl, by rw [cell_of (hk.at hx)]; simpa using hv⟩
  | succ i => simp at ha

/-- Cells in a row are read, as one value. -/
theorem Ex.lds (m off cnt : Nat) {b : Nat} {cs vs : List Value} {ty : TypeId} {fr : Nat × Nat} {v : Value} (hk : Kn X b (.cells (List.toArray cs) ty fr)) (hv : (cs.drop off).take cnt = vs)
    (h : ldq P n (xq P n m s) vs = some ((List.range vs.length).map fun j => ⟨b, off + j, none⟩, .value v)) (next : Ex P fn n post (adv n (xq P n m s) v) X) : Ex P fn n post s X := by
  refine Ex.exec m ?_
  generalize xq P n m s = s' at *
  obtain ⟨o, ho, h⟩ := headOp_of (n := n) h
  refine Ex.oper ho fun E w hx => ⟨v, w, X, .inl (reqs_run h fun i a ha => ?_), hx, next⟩
  simp only [List.getElem?_map, Option.map_eq_some_iff] at ha
  obtain ⟨j, hj, rfl⟩ := ha
  rw [List.getElem?_eq_some_iff] at hj
  obtain ⟨hj, e⟩ := hj
  simp at hj e
  subst e
  subst hv
  have hlt : i < ((cs.drop off).take cnt).length := hj
  refine ⟨((cs.drop off).take cnt)[i], by simp [List.getElem?_eq_getElem hlt], ?_⟩
  rw [cell_of (hk.at hx)]
  simp only [List.getElem?_toArray, List.getElem_take, List.getElem_drop]
  exact List.getElem?_eq_getElem _

/-! Stores. -/
def wrts {α : Type} (P : Program) : Sem α → Option (List (Addr × Value) × α)
  | .pure a => some ([], a)
  | .program k => wrts P (k P)
  | .mark _ k => wrts P k
  | .store _ a v k => match wrts P k with
    | some (l, r) => some ((a, v) :: l, r)
    | none => none
  | _ => none

def stq (P : Program) (n : Nat) (s : St) : Option (List (Addr × Value) × Next) :=
  match headOp n s with
  | some o => wrts P (execOp (ev s.f) o)
  | none => none

def ones : List Value → Bool
  | [] => true
  | v :: vs => match v with
    | .agg _ => false
    | .tuple _ => false
    | _ => ones vs
theorem ones_mem : ∀ {vs : List Value}, ones vs = true → ∀ v ∈ vs, v.oneCell' = true
  | [], _, _, h => nomatch h
  | v :: vs, h, u, hu => by
    cases v <;> simp only [ones] at h <;> first
      | cases h
      | (rcases List.mem_cons.1 hu with rfl | hu
         · rfl
         · exact ones_mem h u hu)

/-- Cells in a row written, in a block. -/
def put (cs : List Value) (off : Nat) : List Value → List Value
  | [] => cs
  | v :: vs => put (cs.set off v) (off + 1) vs

theorem put_length (vs : List Value) : ∀ (cs : List Value) (off : Nat), (put cs off vs).length = cs.length := by
  induction vs with
  | nil => intro cs off; rfl
  | cons v vs ih => intro cs off; simp [put, ih]

theorem run_store_one {α : Type} {P : Program} {m : Mode} {a : Addr} {v u : Value} {k : Sem α} {w : World} (h1 : v.oneCell' = true) (hc : w.cell? a = some u) (hf : w.frozen? a = false) :
    (Sem.store m a v k).run P w = k.run P (w.setCell a v) := by
  cases v <;> first | (simp [Sem.run, hc, hf]; done) | (simp [Value.oneCell'] at h1)

theorem setCell_at {w : World} {b off : Nat} {cs : List Value} {ty : TypeId} {fr : Nat × Nat} (h : w.heap[b]? = some (.cells (List.toArray cs) ty fr)) (v : Value) :
    (w.setCell ⟨b, off, none⟩ v).heap[b]? = some (.cells (List.toArray (cs.set off v)) ty fr) := by
  simp [World.setCell, Array.getElem?_modify, h]
theorem setCell_else {w : World} {b off k : Nat} (hk : k ≠ b) (v : Value) : (w.setCell ⟨b, off, none⟩ v).heap[k]? = w.heap[k]? := by
  simp [World.setCell, Array.getElem?_modify, Ne.symm hk]

def okFr (fr : Nat × Nat) (size : Nat) : Prop := fr.2 ≤ fr.1 ∨ size ≤ fr.1
theorem okFr_none (size : Nat) : okFr (0, 0) size := .inl (Nat.le_refl 0)
theorem frozen_of {w : World} {b off : Nat} {cur : Array Value} {ty : TypeId} {fr : Nat × Nat} (h : w.heap[b]? = some (.cells cur ty fr)) (ho : off < cur.size) (hf : okFr fr cur.size) : w.frozen? ⟨b, off, none⟩ = false := by
  obtain ⟨lo, hi⟩ := fr
  simp only [World.frozen?, h]
  unfold okFr at hf
  simp only at hf
  rcases hf with hf | hf
  · have : ¬ (lo ≤ off ∧ off < hi) := by omega
    simpa using this
  · have : ¬ (lo ≤ off) := by omega
    simp [this]

theorem wrts_run {α : Type} {P : Program} {E : Env} {b : Nat} {ty : TypeId} {fr : Nat × Nat} {X : List HP} {sem : Sem α} : ∀ {vs : List Value} {off : Nat} {cs : List Value} {r : α} {w : World},
    wrts P sem = some (vs.mapIdx (fun j v => (⟨b, off + j, none⟩, v)), r) → ones vs = true → off + vs.length ≤ cs.length → okFr fr cs.length → Heap E (HP.blk b (.cells (List.toArray cs) ty fr) :: X) w →
    ∃ w', sem.run P w = .ok r w' ∧ Heap E (HP.blk b (.cells (List.toArray (put cs off vs)) ty fr) :: X) w' := by
  induction sem with
  | pure a =>
    intro vs off cs r w h h1 hl hf hx
    simp only [wrts, Option.some.injEq, Prod.mk.injEq] at h
    cases vs with
    | nil => exact ⟨w, by rw [h.2]; rfl, hx⟩
    | cons v vs => simp at h
  | program k ih => intro vs off cs r w h h1 hl hf hx; exact ih P h h1 hl hf hx
  | mark m k ih => intro vs off cs r w h h1 hl hf hx; exact ih h h1 hl hf hx
  | store m a v k ih =>
    intro vs off cs r w h h1 hl hf hx
    simp only [wrts] at h
    split at h
    · rename_i l r' hk
      simp at h
      obtain ⟨h, rfl⟩ := h
      cases vs with
      | nil => simp at h
      | cons u vs =>
        rw [List.mapIdx_cons] at h
        simp at h
        obtain ⟨⟨rfl, rfl⟩, rfl⟩ := h
        have hb := (Kn.blk 0 (X := HP.blk b (.cells (List.toArray cs) ty fr) :: X) rfl).at hx
        simp only [List.length_cons] at hl
        have ho : off < cs.length := by omega
        have hv1 : v.oneCell' = true := ones_mem h1 v (List.mem_cons_self ..)
        have h1' : ones vs = true := by cases v <;> first | exact h1 | cases h1
        have hx' : Heap E (HP.blk b (.cells (List.toArray (cs.set off v)) ty fr) :: X) (w.setCell ⟨b, off, none⟩ v) :=
          hx.upd rfl (setCell_at hb v) (fun k hk => setCell_else hk v)
        obtain ⟨w', hr, hh⟩ := ih (vs := vs) (off := off + 1) (cs := cs.set off v) (w := w.setCell ⟨b, off, none⟩ v) (r := r')
          (by rw [hk]; congr 3; funext j v; congr 2; omega) h1' (by simp; omega) (by simpa using hf) hx'
        refine ⟨w', ?_, hh⟩
        rw [run_store_one hv1 (u := cs[off]) (by rw [cell_of hb]; simp [ho]) (frozen_of hb (by simpa using ho) (by simpa using hf))]
        exact hr
    · cases h
  | _ => intro vs off cs r w h; simp [wrts] at h

/-- Cells in a row are written, in an owned block. -/
theorem Ex.st (m i off : Nat) {b : Nat} {cs : List Value} {ty : TypeId} {fr : Nat × Nat} (vs : List Value) (hX : X[i]? = some (HP.blk b (.cells (List.toArray cs) ty fr)))
    (hl : Nat.ble (off + vs.length) cs.length = true) (h1 : ones vs = true) (hf : okFr fr cs.length)
    (h : stq P n (xq P n m s) = some (vs.mapIdx (fun j v => (⟨b, off + j, none⟩, v)), .skip))
    (next : Ex P fn n post (adv n (xq P n m s) undef) (X.set i (HP.blk b (.cells (List.toArray (put cs off vs)) ty fr)))) : Ex P fn n post s X := by
  refine Ex.exec m ?_
  generalize xq P n m s = s' at *
  obtain ⟨o, ho, h⟩ := headOp_of (n := n) h
  refine Ex.oper ho fun E w hx => ?_
  obtain ⟨w', hr, hx'⟩ := wrts_run h h1 (Nat.le_of_ble_eq_true hl) hf (hx.ent (Ent.front i hX))
  exact ⟨undef, w', _, .inr ⟨hr, rfl⟩, hx'.ent (Ent.back i hX), next⟩

/-! New blocks. -/
def newOf {α : Type} (P : Program) : Sem α → Option Obj
  | .program k => newOf P (k P)
  | .mark _ k => newOf P k
  | .new o _ => some o
  | _ => none
def newThen {α : Type} (P : Program) (b : Nat) : Sem α → Option α
  | .program k => newThen P b (k P)
  | .mark _ k => newThen P b k
  | .new _ k => peel P (k b)
  | _ => none
def nwq (P : Program) (n : Nat) (s : St) : Option Obj :=
  match headOp n s with
  | some o => newOf P (execOp (ev s.f) o)
  | none => none
def nwt (P : Program) (n : Nat) (s : St) (b : Nat) : Option Next :=
  match headOp n s with
  | some o => newThen P b (execOp (ev s.f) o)
  | none => none
theorem newOf_run {α : Type} {P : Program} {o : Obj} {r : α} {w : World} {sem : Sem α} (h : newOf P sem = some o) (h' : newThen P w.heap.size sem = some r) : sem.run P w = .ok r (w.alloc o) := by
  induction sem with
  | program k ih => exact ih P h h'
  | mark m k ih => exact ih h h'
  | new o' k ih =>
    simp [newOf] at h
    subst h
    exact peel_run h' _
  | _ => simp [newOf] at h

/-- A new block. -/
theorem Ex.nw (m : Nat) {o : Obj} {v : Nat → Value} (h : nwq P n (xq P n m s) = some o) (hv : ∀ b, nwt P n (xq P n m s) b = some (.value (v b)))
    (next : ∀ b, Ex P fn n post (adv n (xq P n m s) (v b)) (HP.blk b o :: X)) : Ex P fn n post s X := by
  refine Ex.exec m ?_
  generalize xq P n m s = s' at *
  obtain ⟨o', ho, h⟩ := headOp_of (n := n) h
  refine Ex.oper ho fun E w hx => ?_
  have h' := hv w.heap.size
  unfold nwt at h'
  rw [ho] at h'
  exact ⟨_, _, _, .inl (newOf_run h h'), hx.alloc o, next _⟩

/-! Calls. -/
def clq (P : Program) (n : Nat) (s : St) : Option Next :=
  match headOp n s with
  | some o => peel P (execOp (ev s.f) o)
  | none => none
theorem Ex.call (m : Nat) {f : FuncId} {args : List Value} {X' : List HP} {post' : Value → List HP → Prop} (tc : TC P f args X' post') (hX : Ent X X')
    (h : clq P n (xq P n m s) = some (.enter f args.toArray)) (next : ∀ v X'', post' v X'' → Ex P fn n post (adv n (xq P n m s) v) X'') : Ex P fn n post s X := by
  refine Ex.exec m (Ex.ent hX ?_)
  generalize xq P n m s = s' at *
  obtain ⟨o, ho, h⟩ := headOp_of (n := n) h
  exact Ex.callAt ho h tc next

/-! What a slot holds is said. -/
theorem upd_self (f : Fm) (t : Nat) : upd f t (f t) = f := by
  funext j
  unfold upd
  cases h : Nat.beq j t with
  | true => rw [Nat.eq_of_beq_eq_true h]; rfl
  | false => rfl
def fixSt (s : St) (t : Nat) (v : Value) : St := ⟨s.k, upd s.f t v, s.d⟩
theorem Ex.fix (m t : Nat) {u v : Value} (h : (xq P n m s).f t = u) (hu : u = v) (next : Ex P fn n post (fixSt (xq P n m s) t v) X) : Ex P fn n post s X := by
  refine Ex.exec m ?_
  unfold fixSt at next
  rw [← hu, ← h, upd_self] at next
  exact next
/-- Some slots are known, of the others nothing is. -/
def over (l : List (Nat × Value)) (f : Fm) : Fm := l.foldr (fun p g => upd g p.1 p.2) f
theorem over_self (ts : List Nat) (f : Fm) : over (ts.map fun t => (t, f t)) f = f := by
  induction ts with
  | nil => rfl
  | cons t ts ih =>
    simp only [over, List.map_cons, List.foldr_cons] at ih ⊢
    rw [ih, upd_self]
theorem zip_map_self {α β : Type} (f : α → β) (l : List α) : l.zip (l.map f) = l.map fun t => (t, f t) := by
  induction l with
  | nil => rfl
  | cons t ts ih => simp [ih]
theorem Ex.over (m : Nat) {k : List Item} (ts : List Nat) (vs : List Value) (hk : (xq P n m s).k = k) (hd : (xq P n m s).d = none) (h : ts.map (xq P n m s).f = vs)
    (next : ∀ j, Ex P fn n post ⟨k, Sx.over (ts.zip vs) j, none⟩ X) : Ex P fn n post s X := by
  refine Ex.exec m ?_
  have e := over_self ts (xq P n m s).f
  have hz : ts.zip vs = ts.map fun t => (t, (xq P n m s).f t) := by
    rw [← h]
    exact zip_map_self _ ts
  have := next (xq P n m s).f
  rw [hz, e, ← hk, ← hd] at this
  exact this

/-- The end. -/
theorem Ex.fin (m : Nat) {func : Func} {v : Value} (hfn : P.funcs[fn]? = some func) (hd : (xq P n m s).d = none) (he : atEnd (xq P n m s).k = true) (hv : resV func (xq P n m s).f = some v) {X' : List HP} (hX : Ent X X') (hp : post v X') : Ex P fn n post s X :=
  Ex.exec m (Ex.ret hfn hd he hv ⟨X', hX, hp⟩)
end
attribute [irreducible] ldq stq nwq nwt clq over fixSt
end Go.Sx
