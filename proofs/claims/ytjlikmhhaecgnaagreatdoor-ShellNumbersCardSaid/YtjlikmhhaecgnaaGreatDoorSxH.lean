/- Rules: conversions between texts and bytes, operators on texts, division, copy. -/
import Derived.Test.YtjlikmhhaecgnaaGreatDoorSxG
namespace Go.Sx
set_option linter.unusedVariables false
section
variable {P : Program} {fn : FuncId} {n : Nat} {post : Value → List HP → Prop} {s : St} {X : List HP}

def cvq (n : Nat) (s : St) : Option (TypeId × TypeId × Value) :=
  match headOp n s with
  | some o => match o.op with
    | .convert t u x => some (t, u, ev s.f x)
    | _ => none
  | none => none

theorem cvq_run {s : St} {t u : TypeId} {x : Value} (h : cvq n s = some (t, u, x)) : ∃ o, headOp n s = some o ∧ ∀ w v w', (convert t u x).run P w = .ok v w' → (execOp (ev s.f) o).run P w = .ok (.value v) w' := by
  obtain ⟨o, ho, h⟩ := headOp_of (n := n) h
  split at h
  · rename_i t' u' x' hop
    simp only [Option.some.injEq, Prod.mk.injEq] at h
    obtain ⟨rfl, rfl, rfl⟩ := h
    refine ⟨o, ho, fun w v w' hr => ?_⟩
    unfold execOp
    simp only [hop]
    show (do pure (Next.value (← convert _ _ _)) : Sem Next).run P w = _
    rw [Sem.run_bind, hr]
    rfl
  · cases h

/-- string(b) -/
theorem Ex.b2s (m : Nat) {t u e : Nat} {a : Option Addr} {n' cap : Nat} {xs : List UInt8} (hr : Rd X 1 a n' cap (bvs xs)) (ht : P.underlying t = some (.slice e)) (he : P.underlying e = some (.int .u8)) (hu : P.underlying u = some .string)
    (h : cvq n (xq P n m s) = some (t, u, .slice a n' cap)) (next : Ex P fn n post (adv n (xq P n m s) (str xs)) X) : Ex P fn n post s X := by
  refine Ex.exec m ?_
  generalize xq P n m s = s' at *
  obtain ⟨o, ho, hrun⟩ := cvq_run (P := P) h
  refine Ex.oper ho fun E w hx => ⟨_, w, X, .inl (hrun _ _ _ ?_), hx, next⟩
  have hl := hr.at hx
  have hl' := hl
  obtain ⟨hlen, _, ⟨rfl, rfl⟩ | ⟨b, off, cur, ty, fr, rfl, _⟩⟩ := hl
  · have hn : n' = 0 := by omega
    subst hn
    have : xs = [] := List.eq_nil_of_length_eq_zero (by simpa using hlen)
    subst this
    rw [run_convert_bytes_nil w t e ht he 0 0 u hu]
    rfl
  · have hn : n' = xs.length := by simpa using hlen.symm
    subst hn
    refine run_convert_bytes_back w t u e ⟨b, off, none⟩ cap xs ht he hu fun j hj => ?_
    rw [Addr.add_lit]
    exact lies_cells hl' j _ (by simp [List.getElem?_eq_getElem hj])

/-- []byte(s) -/
theorem Ex.s2b (m : Nat) {t u e : Nat} {xs : List UInt8} (ht : P.underlying t = some .string) (hu : P.underlying u = some (.slice e)) (he : P.underlying e = some (.int .u8))
    (h : cvq n (xq P n m s) = some (t, u, str xs)) (next : ∀ b cap, Ex P fn n post (adv n (xq P n m s) (.slice (some ⟨b, 0, none⟩) xs.length cap)) (HP.own 1 (some ⟨b, 0, none⟩) xs.length cap (bvs xs) :: X)) : Ex P fn n post s X := by
  refine Ex.exec m ?_
  generalize xq P n m s = s' at *
  obtain ⟨o, ho, hrun⟩ := cvq_run (P := P) h
  refine Ex.oper ho fun E w hx => ?_
  have hb : (ByteArray.mk xs.toArray).size = xs.length := rfl
  have hm : Array.map (fun b : UInt8 => Value.int .u8 b.toNat) (ByteArray.mk xs.toArray).data = (bvs xs).toArray := by simp
  have hcle : xs.length ≤ (Question.appendCap xs.length 0 e).cut (w.tape w.drawn (.appendCap xs.length 0 e)) := Nat.le_add_right _ _
  have hcd : ∀ v w2, (do let a ← newRow e ((bvs xs).toArray ++ Array.replicate ((Question.appendCap xs.length 0 e).cut (w.tape w.drawn (.appendCap xs.length 0 e)) - xs.length) (.int .u8 0)); markStringish a; pure (.slice (some a) xs.length ((Question.appendCap xs.length 0 e).cut (w.tape w.drawn (.appendCap xs.length 0 e)))) : Sem Value).run P w.drew = .ok v w2 →
      (convert t u (str xs)).run P w = .ok v w2 := by
    intro v w2 h
    unfold convert
    simp only [run_underlying ht, run_underlying hu, run_underlying he, Sem.run_bind, Result.andThen, Conv.stringToBytes, hb, hm, run_choose_drew, Question.forced, Bool.false_eq_true, if_false]
    simpa only [Sem.run_bind, Result.andThen] using h
  generalize (Question.appendCap xs.length 0 e).cut (w.tape w.drawn (.appendCap xs.length 0 e)) = c at hcd hcle
  have hsz : ((bvs xs).toArray ++ Array.replicate (c - xs.length) (Value.int .u8 0)).size = c := by simp; omega
  have htk : ((bvs xs).toArray ++ Array.replicate (c - xs.length) (Value.int .u8 0)).toList.take xs.length = bvs xs := by simp
  generalize (bvs xs).toArray ++ Array.replicate (c - xs.length) (Value.int .u8 0) = cur at hcd hsz htk
  have h1 : (w.drew.alloc (.cells cur e)).heap[w.heap.size]? = some (.cells cur e (0, 0)) := heap_alloc_new w.drew _
  have hx1 : Heap E (HP.blk w.heap.size (.cells cur e (0, 0)) :: X) (w.drew.alloc (.cells cur e)) := Heap.alloc (w := w.drew) (hx.same rfl rfl) _
  generalize hw1 : w.drew.alloc (.cells cur e) = w1 at *
  have h2 : (w1.freeze { block := w.heap.size, off := c } 1).heap[w.heap.size]? = some (.cells cur e (c, c + 1)) := by
    simp [World.freeze, Array.getElem?_modify, h1]
  have hx2 : Heap E (HP.blk w.heap.size (.cells cur e (c, c + 1)) :: X) (w1.freeze { block := w.heap.size, off := c } 1) := hx1.upd rfl h2 fun k hk => by
    simp [World.freeze, Array.getElem?_modify, Ne.symm hk]
  have hmark : (markStringish ⟨w.heap.size, 0, none⟩).run P w1 = .ok () (w1.freeze { block := w.heap.size, off := c } 1) := by
    have hsh : w1.shape? w.heap.size = some (e, c) := by simp [World.shape?, h1, hsz]
    simp [markStringish, shape, Sem.run, hsh, freeze]
  have hnew : (newRow e cur).run P w.drew = .ok ⟨w.heap.size, 0, none⟩ w1 := by
    rw [← hw1]; rfl
  refine ⟨_, _, _, .inl (hrun w (.slice (some ⟨w.heap.size, 0, none⟩) xs.length c) _ (hcd _ (w1.freeze { block := w.heap.size, off := c } 1) ?_)), hx2.ent (Ent.map fun M e' hb => ?_), next w.heap.size c⟩
  · simp only [Sem.run_bind, hnew, Result.andThen, hmark, Sem.run_pure]
  · refine (⟨by simp, hcle, .inr ⟨w.heap.size, 0, cur, e, (c, c + 1), rfl, hb, by omega, .inr (by simp [hsz]), ?_⟩⟩ : OwnsAt e' 1 _ xs.length c (bvs xs))
    simpa using htk

/-! Operators on texts; division. -/
def binq (n : Nat) (s : St) : Option (BinOp × Value × Value) :=
  match headOp n s with
  | some o => match o.op with
    | .binOp op _ x y _ => some (op, ev s.f x, ev s.f y)
    | _ => none
  | none => none
theorem binq_run {s : St} {op : BinOp} {x y : Value} (h : binq n s = some (op, x, y)) : ∃ o t x' y', headOp n s = some o ∧ ∀ w v w', (do eqGuard op t x' y' x y; binOp op t x y : Sem Value).run P w = .ok v w' → (execOp (ev s.f) o).run P w = .ok (.value v) w' := by
  obtain ⟨o, ho, h⟩ := headOp_of (n := n) h
  split at h
  · rename_i op' t x' y' u hop
    simp only [Option.some.injEq, Prod.mk.injEq] at h
    obtain ⟨rfl, rfl, rfl⟩ := h
    refine ⟨o, t, x', y', ho, fun w v w' hr => ?_⟩
    unfold execOp
    simp only [hop]
    show (do pure (Next.value (← (do eqGuard op' t x' y' _ _; binOp op' t _ _))) : Sem Next).run P w = _
    rw [Sem.run_bind, hr]
    rfl
  · cases h

theorem run_eqGuard_str (op : BinOp) (t : TypeId) (x y : Operand) (a b : ByteArray) (w : World) : (eqGuard op t x y (.string a) (.string b)).run P w = .ok () w := by
  unfold eqGuard
  cases op <;> simp
theorem run_eqGuard_int (op : BinOp) (t : TypeId) (x y : Operand) (k k' : IntKind) (a b : Int) (w : World) : (eqGuard op t x y (.int k a) (.int k' b)).run P w = .ok () w := by
  unfold eqGuard
  cases op <;> simp

/-- x + y of texts. -/
theorem Ex.addS (m : Nat) {xs ys : List UInt8} (hl : xs.length + ys.length ≤ 9223372036854775807) (h : binq n (xq P n m s) = some (.add, str xs, str ys)) (next : Ex P fn n post (adv n (xq P n m s) (str (xs ++ ys))) X) : Ex P fn n post s X := by
  refine Ex.exec m ?_
  generalize xq P n m s = s' at *
  obtain ⟨o, t, x', y', ho, hrun⟩ := binq_run (P := P) h
  refine Ex.oper ho fun E w hx => ⟨_, w, X, .inl (hrun _ _ _ ?_), hx, next⟩
  have h1 : (ByteArray.mk xs.toArray).size = xs.length := rfl
  have h2 : (ByteArray.mk ys.toArray).size = ys.length := rfl
  have h3 : ByteArray.mk xs.toArray ++ ByteArray.mk ys.toArray = ⟨(xs ++ ys).toArray⟩ := by
    apply ByteArray.ext
    simp
  have h4 : ¬ (9223372036854775807 < (xs.length : Int) + ys.length) := by omega
  simp [run_eqGuard_str, binOp, Op.stringOp, h1, h2, h3, h4]
/-- x == y of texts. -/
theorem Ex.eqS (m : Nat) {xs ys : List UInt8} (h : binq n (xq P n m s) = some (.eql, str xs, str ys)) (next : Ex P fn n post (adv n (xq P n m s) (.bool (xs == ys))) X) : Ex P fn n post s X := by
  refine Ex.exec m ?_
  generalize xq P n m s = s' at *
  obtain ⟨o, t, x', y', ho, hrun⟩ := binq_run (P := P) h
  refine Ex.oper ho fun E w hx => ⟨_, w, X, .inl (hrun _ _ _ ?_), hx, next⟩
  simp [run_eqGuard_str, binOp, Op.stringOp]
theorem Ex.neS (m : Nat) {xs ys : List UInt8} (h : binq n (xq P n m s) = some (.neq, str xs, str ys)) (next : Ex P fn n post (adv n (xq P n m s) (.bool (!(xs == ys)))) X) : Ex P fn n post s X := by
  refine Ex.exec m ?_
  generalize xq P n m s = s' at *
  obtain ⟨o, t, x', y', ho, hrun⟩ := binq_run (P := P) h
  refine Ex.oper ho fun E w hx => ⟨_, w, X, .inl (hrun _ _ _ ?_), hx, next⟩
  simp [run_eqGuard_str, binOp, Op.stringOp]
/-- x % y, x / y: the divisor is not 0. -/
theorem Ex.rem (m : Nat) {k : IntKind} {x y : Int} (hy : y ≠ 0) (h : binq n (xq P n m s) = some (.rem, .int k x, .int k y)) (next : Ex P fn n post (adv n (xq P n m s) (.int k (x.tmod y))) X) : Ex P fn n post s X := by
  refine Ex.exec m ?_
  generalize xq P n m s = s' at *
  obtain ⟨o, t, x', y', ho, hrun⟩ := binq_run (P := P) h
  refine Ex.oper ho fun E w hx => ⟨_, w, X, .inl (hrun _ _ _ ?_), hx, next⟩
  simp [run_eqGuard_int, binOp, Op.intDiv, hy]
theorem Ex.quo (m : Nat) {k : IntKind} {x y : Int} (hy : y ≠ 0) (h : binq n (xq P n m s) = some (.quo, .int k x, .int k y)) (next : Ex P fn n post (adv n (xq P n m s) (.int k (k.wrap (x.tdiv y)))) X) : Ex P fn n post s X := by
  refine Ex.exec m ?_
  generalize xq P n m s = s' at *
  obtain ⟨o, t, x', y', ho, hrun⟩ := binq_run (P := P) h
  refine Ex.oper ho fun E w hx => ⟨_, w, X, .inl (hrun _ _ _ ?_), hx, next⟩
  simp [run_eqGuard_int, binOp, Op.intDiv, hy]
/-- x >> y, x << y: the count is not below 0. -/
theorem Ex.shr (m : Nat) {k k' : IntKind} {x y : Int} (hy : 0 ≤ y) (h : binq n (xq P n m s) = some (.shr, .int k x, .int k' y)) (next : Ex P fn n post (adv n (xq P n m s) (.int k (x.fdiv (2 ^ min y.toNat k.bits)))) X) : Ex P fn n post s X := by
  refine Ex.exec m ?_
  generalize xq P n m s = s' at *
  obtain ⟨o, t, x', y', ho, hrun⟩ := binq_run (P := P) h
  have hy' : ¬ y < 0 := by omega
  refine Ex.oper ho fun E w hx => ⟨_, w, X, .inl (hrun _ _ _ ?_), hx, next⟩
  simp [run_eqGuard_int, binOp, Op.shift, hy']
theorem Ex.shl (m : Nat) {k k' : IntKind} {x y : Int} (hy : 0 ≤ y) (h : binq n (xq P n m s) = some (.shl, .int k x, .int k' y)) (next : Ex P fn n post (adv n (xq P n m s) (.int k (k.wrap (x * 2 ^ min y.toNat k.bits)))) X) : Ex P fn n post s X := by
  refine Ex.exec m ?_
  generalize xq P n m s = s' at *
  obtain ⟨o, t, x', y', ho, hrun⟩ := binq_run (P := P) h
  have hy' : ¬ y < 0 := by omega
  refine Ex.oper ho fun E w hx => ⟨_, w, X, .inl (hrun _ _ _ ?_), hx, next⟩
  simp [run_eqGuard_int, binOp, Op.shift, hy']
end
end Go.Sx
