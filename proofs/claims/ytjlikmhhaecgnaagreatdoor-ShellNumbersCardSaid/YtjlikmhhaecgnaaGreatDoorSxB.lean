/- A function's body is run: control and operations that touch no memory are worked out by the kernel; all else by one rule each. -/
import Derived.Test.YtjlikmhhaecgnaaGreatDoorSxA
import Derived.Test.YtjlikmhhaecgnaaGreatDoorSxO
namespace Go.Sx
set_option linter.unusedVariables false

abbrev Fm := Nat → Value
def upd (f : Fm) (d : Nat) (v : Value) : Fm := fun t => bif Nat.beq t d then v else f t
def putO (n : Nat) (f : Fm) : Option Nat → Value → Fm
  | none, _ => f
  | some d, v => bif Nat.blt d n then upd f d v else f
def ev (f : Fm) : Operand → Value
  | .tmp t => f t
  | .const v => v
  | .global g => .pointer (some ⟨g, 0, none⟩)
  | .func f => .func (.func f) #[] #[]

structure Fr (n : Nat) (f : Fm) (a : Act) : Prop where
  d : a.defers = []
  s : a.tmps.size = n
  t : ∀ t, a.tmps.getD t undef = f t

theorem Fr.ev {n : Nat} {f : Fm} {a : Act} (h : Fr n f a) : a.eval = Sx.ev f := by
  funext x
  cases x with
  | tmp t => exact h.t t
  | _ => rfl

theorem Fr.put {n : Nat} {f : Fm} {a : Act} (h : Fr n f a) (dst : Option Nat) (v : Value) : Fr n (putO n f dst v) (a.put dst v) := by
  cases dst with
  | none => exact h
  | some d =>
    refine ⟨h.d, by simp [Act.put, h.s], fun t => ?_⟩
    have ht := h.t t
    simp only [Act.put, putO]
    by_cases hd : d < n
    · have hb : Nat.blt d n = true := by simpa [Nat.blt_eq] using hd
      rw [hb]
      simp only [cond_true, upd]
      by_cases htd : t = d
      · subst htd
        simp [h.s, hd]
      · have : Nat.beq t d = false := by
          cases hb : Nat.beq t d with
          | false => rfl
          | true => exact absurd (Nat.eq_of_beq_eq_true hb) htd
        rw [this]
        simp only [cond_false]
        rw [← ht]
        simp [Array.getElem?_setIfInBounds_ne (Ne.symm htd)]
    · have hb : Nat.blt d n = false := by
        cases hb : Nat.blt d n with
        | false => rfl
        | true => exact absurd (by simpa [Nat.blt_eq] using hb) hd
      rw [hb]
      simp only [cond_false]
      rw [← ht]
      simp [Array.setIfInBounds, h.s, hd]

/-! Runs. -/
section
variable (P : Program) (fn : FuncId)

def RunA (R : Value → World → Prop) (k : List Item) (a : Act) (w : World) : Prop :=
  ∀ (b : Frame) (cs : List Frame), b.fn = fn → b.kind = .normal →
    ∃ v w' fr, R v w' ∧ Steps P (lone (b.at a k) cs w) (lone fr cs w') ∧ fr.fn = fn ∧ fr.leaving P w' (.returned v)

variable {P fn} {R : Value → World → Prop}

theorem RunA.step {k k' : List Item} {a : Act} {w : World} (hs : ∀ (b : Frame) (cs : List Frame), step P (lone (b.at a k) cs w) = .next (lone (b.at a k') cs w)) (h : RunA P fn R k' a w) : RunA P fn R k a w := by
  intro b cs hb hk
  obtain ⟨v, w', fr, hR, hst, r⟩ := h b cs hb hk
  exact ⟨v, w', fr, hR, .head (hs b cs) hst, r⟩

theorem RunA.ops {ops : Array Oper} {l : List Nat} {k : List Item} {a : Act} {w : World} (h : wpOps P ops (fun e a w => e = .normal ∧ RunA P fn R k a w) l a w) : RunA P fn R (.inRegion ops l :: k) a w := by
  intro b cs hb hk
  obtain ⟨e, a', w', ⟨he, hr⟩, harr⟩ := wp_ops l a w h b k cs
  subst he
  obtain ⟨v, w'', fr, hR, hst, r⟩ := hr b cs hb hk
  exact ⟨v, w'', fr, hR, Steps.trans harr hst, r⟩

theorem RunA.region {id : Nat} {ops : Array Oper} {k : List Item} {a : Act} {w : World} (h : wpOps P ops (fun e a w => e = .normal ∧ RunA P fn R k a w) (List.range ops.size) a w) : RunA P fn R (.code (.region id ops false) :: k) a w :=
  RunA.step (fun _ _ => step_region) (RunA.ops h)

theorem RunA.draws {id : Nat} {ops : Array Oper} {k : List Item} {a : Act} {w : World} (hm : P.follows .mixedOrders = true)
    (h : ∀ t, wpOps P ops (fun e a w => e = .normal ∧ RunA P fn R k a w) (Region.linearise .any ops t) a { w with drawn := w.drawn + 1 }) : RunA P fn R (.code (.region id ops true) :: k) a w := by
  intro b cs hb hk
  have h' := h (w.tape w.drawn (.order b.fn id))
  obtain ⟨e, a', w', ⟨he, hr⟩, harr⟩ := wp_ops _ a _ h' b k cs
  subst he
  obtain ⟨v, w'', fr, hR, hst, r⟩ := hr b cs hb hk
  refine ⟨v, w'', fr, hR, .head (m₁ := lone (b.at a (.inRegion ops (Region.linearise .any ops (w.tape w.drawn (.order b.fn id))) :: k)) cs { w with drawn := w.drawn + 1 }) ?_ (Steps.trans harr hst), r⟩
  have := step_region_draw (P := P) (b := b) (a := a) (k := k) (cs := cs) (w := w) (ops := ops) (id := id)
  simpa [Region.schedule, hm] using this

end

/-! What needs no memory. -/
def peel {α : Type} (P : Program) : Sem α → Option α
  | .pure a => some a
  | .program k => peel P (k P)
  | .mark _ k => peel P k
  | _ => none
theorem peel_run {α : Type} {P : Program} {s : Sem α} {a : α} (h : peel P s = some a) (w : World) : s.run P w = .ok a w := by
  induction s with
  | pure b => simp [peel] at h; subst h; rfl
  | program k ih => exact ih P h
  | mark m k ih => exact ih h
  | _ => simp [peel] at h

/-- Within a region that draws its order: what has come up, how many may yet, and the cells that are held meanwhile. -/
structure DR where
  fuel : Nat
  listed : Array Bool
  held : List (Addr × Value × Nat)
def DR.put (d : DR) (i : Nat) : DR := ⟨d.fuel, d.listed.setIfInBounds i true, d.held⟩
structure St where
  k : List Item
  f : Fm
  d : Option DR := none

section
variable (P : Program) (fn : FuncId) (R : Value → World → Prop)
def Qn (k : List Item) : Exit → Act → World → Prop := fun e a w => e = .normal ∧ RunA P fn R k a w
def Mean (k : List Item) (d : Option DR) (a : Act) (w : World) : Prop :=
  match d with
  | none => match k with
    | .inRegion ops l :: k' => wpOps P ops (Qn P fn R k') l a w
    | k => RunA P fn R k a w
  | some D => match k with
    | .inRegion ops [] :: k' => HS D.held D.listed w ∧ wpAnyU P .any ops (Qn P fn R k') D.held D.fuel D.listed a w
    | .inRegion ops [i] :: k' => wpOp P ops (Qn P fn R k') i (fun a' w' => HS D.held (D.listed.setIfInBounds i true) w' ∧ wpAnyU P .any ops (Qn P fn R k') D.held D.fuel (D.listed.setIfInBounds i true) a' w') a w
    | _ => False
end
theorem Mean.run {P : Program} {fn : FuncId} {R : Value → World → Prop} {k : List Item} {a : Act} {w : World} (h : Mean P fn R k none a w) : RunA P fn R k a w := by
  unfold Mean at h
  simp only at h
  split at h
  · exact RunA.ops h
  · exact h

def yieldF (n : Nat) (ops : Array Oper) (f : Fm) (j : Nat) : Option Bool :=
  match (ops[j]?).bind (·.dst) with
  | some d => bif Nat.blt d n then (match f d with | .bool b => some b | _ => none) else none
  | none => none

theorem Fr.yield {n : Nat} {f : Fm} {a : Act} (h : Fr n f a) (ops : Array Oper) : yielded ops a.tmps = yieldF n ops f := by
  funext j
  unfold yielded yieldF
  cases hd : (ops[j]?).bind (·.dst) with
  | none => rfl
  | some d =>
    simp only [Option.bind_some]
    have ht := h.t d
    by_cases hlt : d < n
    · have hb : Nat.blt d n = true := by simpa [Nat.blt_eq] using hlt
      have hs : d < a.tmps.size := by rw [h.s]; exact hlt
      rw [hb]
      simp only [cond_true]
      rw [Array.getElem?_eq_getElem hs]
      have : a.tmps[d] = f d := by rw [← ht]; simp [Array.getD, hs]
      rw [this]
      cases f d <;> rfl
    · have hb : Nat.blt d n = false := by
        cases hb : Nat.blt d n with
        | false => rfl
        | true => exact absurd (by simpa [Nat.blt_eq] using hb) hlt
      rw [hb]
      have hge : a.tmps.size ≤ d := by rw [h.s]; exact Nat.le_of_not_lt hlt
      simp [Array.getElem?_eq_none hge]

/-- The operation that comes next, if it is wanted. -/
def headOp (n : Nat) (s : St) : Option Oper :=
  match s.k with
  | .inRegion ops (i :: rest) :: _ =>
    bif s.d.isNone || rest.isEmpty then
      match ops[i]? with
      | some o => bif Region.wanted o (yieldF n ops s.f) then some o else none
      | none => none
    else none
  | _ => none
/-- Behind it, with its value. -/
def adv (n : Nat) (s : St) (v : Value) : St :=
  match s.k with
  | .inRegion ops (i :: rest) :: k => ⟨.inRegion ops rest :: k, putO n s.f ((ops[i]?).bind (·.dst)) v, s.d.map (·.put i)⟩
  | _ => s

def isCst : Operand → Bool
  | .const _ => true
  | _ => false
/-- What the kernel works out by itself, whatever the numbers are. -/
def easy (P : Program) (o : Oper) : Bool :=
  match o.op with
  | .move _ | .assign _ | .pick .. | .build .. | .nilCheck _ | .unOp .. | .field .. | .fieldAddr .. | .extract .. | .makeInterface .. | .makeFunc .. => true
  | .binOp op t _ y _ =>
    match op with
    | .quo | .rem | .shl | .shr => isCst y
    | _ => match P.underlying t with
      | some (.int _) | some .bool | some (.pointer _) | some (.slice _) => true
      | _ => false
  | .convert t u _ => match P.underlying t, P.underlying u with
    | some (.int _), some (.int _) => true
    | _, _ => false
  | .call c => match c.callee with
    | .builtin b => match b with
      | .len | .cap | .min | .max => match (c.argTypes[0]?).bind P.underlying with
        | some (.int _) | some .string | some (.slice _) | some (.array ..) => true
        | _ => false
      | _ => false
    | _ => false
  | .index t _ i | .indexAddr t _ i => match P.underlying t with
    | some (.array ..) => isCst i
    | _ => false
  | _ => false

/-- One step of control, or of an operation that needs no memory. -/
def xq1 (P : Program) (n : Nat) (s : St) : Option St :=
  match s.d with
  | some _ => none
  | none =>
  match s.k with
  | .code .skip :: k | .code (.label _) :: k | .inBlock _ :: k | .inScope _ :: k => some ⟨k, s.f, none⟩
  | .code (.seq a b) :: k => some ⟨.code a :: .code b :: k, s.f, none⟩
  | .code (.block id c) :: k => some ⟨.code c :: .inBlock id :: k, s.f, none⟩
  | .code (.loop c) :: k | .inLoop c :: k => some ⟨.code c :: .inLoop c :: k, s.f, none⟩
  | .code (.scope c) :: k => some ⟨.code c :: .inScope c :: k, s.f, none⟩
  | .code (.exit id) :: k => match exitTo id k with | some k' => some ⟨k', s.f, none⟩ | none => none
  | .code (.goto l) :: k => match gotoIn l k with | some k' => some ⟨k', s.f, none⟩ | none => none
  | .code (.cond c a b) :: k =>
    match ev s.f c with
    | .bool t => some ⟨.code (bif t then a else b) :: k, s.f, none⟩
    | _ => none
  | .code (.region _ ops false) :: k => some ⟨.inRegion ops (List.range ops.size) :: k, s.f, none⟩
  | .inRegion _ [] :: k => some ⟨k, s.f, none⟩
  | .inRegion ops (i :: rest) :: k =>
    match ops[i]? with
    | none => some ⟨.inRegion ops rest :: k, s.f, none⟩
    | some o =>
      bif Region.wanted o (yieldF n ops s.f) then
        bif easy P o then
          match peel P (execOp (ev s.f) o) with
          | some (.value v) => some ⟨.inRegion ops rest :: k, putO n s.f o.dst v, none⟩
          | _ => none
        else none
      else some ⟨.inRegion ops rest :: k, putO n s.f o.dst undef, none⟩
  | _ => none

def xq (P : Program) (n : Nat) : Nat → St → St
  | 0, s => s
  | m + 1, s => match xq1 P n s with
    | some s' => xq P n m s'
    | none => s

/-- From here on the function returns, and what is said of it holds then. -/
def Ex (P : Program) (fn : FuncId) (n : Nat) (post : Value → List HP → Prop) (s : St) (X : List HP) : Prop :=
  ∀ (E : Env) (a : Act) (w : World), Fr n s.f a → Heap E X w → Mean P fn (fun v w' => ∃ X', post v X' ∧ Heap E X' w') s.k s.d a w

section
variable {P : Program} {fn : FuncId} {n : Nat} {post : Value → List HP → Prop} {s : St} {X : List HP}

theorem Ex.ent {Y : List HP} (h : Ent X Y) (he : Ex P fn n post s Y) : Ex P fn n post s X := fun E a w hf hx => he E a w hf (hx.ent h)

theorem Mean.op {R : Value → World → Prop} {ops : Array Oper} {i : Nat} {rest : List Nat} {k : List Item} {d : Option DR} {o : Oper} {f : Fm} {a : Act} {w : World} (hf : Fr n f a) (hd : (d.isNone || rest.isEmpty) = true) (ho : ops[i]? = some o)
    (hw : Region.wanted o (yieldF n ops f) = true) (h : o.wp P a w (fun a' w' => Mean P fn R (.inRegion ops rest :: k) (d.map (·.put i)) a' w') (Qn P fn R k)) : Mean P fn R (.inRegion ops (i :: rest) :: k) d a w := by
  cases d with
  | none =>
    simp only [Mean, wpOps, ho]
    rw [hf.yield, hw]
    simp only [if_true]
    exact .inl h
  | some D =>
    simp at hd
    subst hd
    simp only [Mean, wpOp, ho]
    rw [hf.yield, hw]
    simp only [if_true]
    exact .inl h

theorem headOp_spec {s : St} {o : Oper} (h : headOp n s = some o) : ∃ ops i rest k, s.k = .inRegion ops (i :: rest) :: k ∧ (s.d.isNone || rest.isEmpty) = true ∧ ops[i]? = some o ∧ Region.wanted o (yieldF n ops s.f) = true := by
  unfold headOp at h
  split at h
  · rename_i ops i rest k hk
    cases hd : (s.d.isNone || rest.isEmpty) with
    | false => simp [hd] at h
    | true =>
      simp only [hd, cond_true] at h
      split at h
      · rename_i o' ho
        cases hw : Region.wanted o' (yieldF n ops s.f) with
        | false => simp [hw] at h
        | true => simp only [hw, cond_true] at h; cases h; exact ⟨ops, i, rest, k, hk, hd, ho, hw⟩
      · cases h
  · cases h

theorem Ex.exec1 {s' : St} (h : xq1 P n s = some s') (he : Ex P fn n post s' X) : Ex P fn n post s X := by
  intro E a w hf hx
  obtain ⟨k, f, d⟩ := s
  cases d with
  | some D => simp [xq1] at h
  | none =>
  simp only at hf
  have hrun : ∀ k', s' = ⟨k', f, none⟩ → RunA P fn (fun v w' => ∃ X', post v X' ∧ Heap E X' w') k' a w := fun k' e => by
    subst e; exact (he E a w hf hx).run
  unfold xq1 at h
  simp only at h ⊢
  split at h
  · cases h; exact RunA.step (fun _ _ => step_skip) (hrun _ rfl)
  · cases h; exact RunA.step (fun _ _ => step_label) (hrun _ rfl)
  · cases h; exact RunA.step (fun _ _ => step_inBlock) (hrun _ rfl)
  · cases h; exact RunA.step (fun _ _ => step_inScope) (hrun _ rfl)
  · cases h; exact RunA.step (fun _ _ => step_seq) (hrun _ rfl)
  · cases h; exact RunA.step (fun _ _ => step_block) (hrun _ rfl)
  · cases h; exact RunA.step (fun _ _ => step_loop) (hrun _ rfl)
  · cases h; exact RunA.step (fun _ _ => step_inLoop) (hrun _ rfl)
  · cases h; exact RunA.step (fun _ _ => step_scope) (hrun _ rfl)
  · split at h
    · rename_i hk; cases h; exact RunA.step (fun _ _ => step_exit hk) (hrun _ rfl)
    · cases h
  · split at h
    · rename_i hk; cases h; exact RunA.step (fun _ _ => step_goto hk) (hrun _ rfl)
    · cases h
  · split at h
    · rename_i t hc
      cases h
      refine RunA.step (fun b cs => ?_) (hrun _ rfl)
      rw [step_cond (t := t) (by rw [hf.ev]; exact hc)]
      cases t <;> rfl
    · cases h
  · cases h
    have := he E a w hf hx
    exact RunA.region this
  · cases h
    exact ⟨rfl, hrun _ rfl⟩
  · split at h
    · rename_i ho
      cases h
      have := he E a w hf hx
      simp only [Mean, wpOps, ho] at this ⊢
      exact this
    · rename_i o ho
      simp only [Mean, wpOps, ho]
      rw [hf.yield]
      cases hw : Region.wanted o (yieldF n _ f) with
      | false =>
        simp only [hw, cond_false] at h
        cases h
        have := he E _ w (hf.put o.dst undef) hx
        simpa [Mean] using this
      | true =>
        simp only [hw, cond_true] at h
        cases hez : easy P o with
        | false => simp [hez] at h
        | true =>
        simp only [hez, cond_true] at h
        split at h
        · rename_i v hp
          cases h
          have := he E _ w (hf.put o.dst v) hx
          simp only [if_true]
          refine .inl ?_
          unfold Oper.wp
          rw [hf.ev, peel_run hp]
          exact this
        · cases h
  · cases h

theorem Ex.exec (m : Nat) (he : Ex P fn n post (xq P n m s) X) : Ex P fn n post s X := by
  induction m generalizing s with
  | zero => exact he
  | succ m ih =>
    unfold xq at he
    split at he
    · rename_i s' h; exact Ex.exec1 h (ih he)
    · exact he

/-- An operation that is run: what comes of it. -/
theorem Ex.oper {o : Oper} (h : headOp n s = some o)
    (hr : ∀ E w, Heap E X w → ∃ v w' X', ((execOp (ev s.f) o).run P w = .ok (.value v) w' ∨ (execOp (ev s.f) o).run P w = .ok .skip w' ∧ v = undef) ∧ Heap E X' w' ∧ Ex P fn n post (adv n s v) X') : Ex P fn n post s X := by
  intro E a w hf hx
  obtain ⟨ops, i, rest, k, hk, hd, ho, hw⟩ := headOp_spec h
  rw [hk]
  refine Mean.op hf hd ho hw ?_
  obtain ⟨v, w', X', hrun, hx', he⟩ := hr E w hx
  have := he E (a.put o.dst v) w' (by simpa [adv, hk, ho] using hf.put o.dst v) hx'
  simp only [adv, hk] at this
  unfold Oper.wp
  rw [hf.ev]
  rcases hrun with hrun | ⟨hrun, rfl⟩
  · rw [hrun]; exact this
  · rw [hrun]; exact this

/-- What a call of a function comes to. -/
def TC (P : Program) (f : FuncId) (args : List Value) (X : List HP) (post : Value → List HP → Prop) : Prop :=
  ∀ E w, Heap E X w → Calls P f args.toArray w (fun e w' => ∃ v X', e = .returned v ∧ post v X' ∧ Heap E X' w')

theorem TC.mono {P : Program} {f : FuncId} {args : List Value} {X : List HP} {post post' : Value → List HP → Prop} (h : TC P f args X post) (hp : ∀ v X, post v X → post' v X) : TC P f args X post' :=
  fun E w hx => (h E w hx).mono fun _ _ ⟨v, X', he, hv, hx'⟩ => ⟨v, X', he, hp _ _ hv, hx'⟩
theorem TC.ent {P : Program} {f : FuncId} {args : List Value} {X Y : List HP} {post : Value → List HP → Prop} (h : TC P f args Y post) (he : Ent X Y) : TC P f args X post :=
  fun E w hx => h E w (hx.ent he)

/-- A call. -/
theorem Ex.callAt {o : Oper} {f : FuncId} {args : List Value} {post' : Value → List HP → Prop} (h : headOp n s = some o)
    (hc : peel P (execOp (ev s.f) o) = some (.enter f args.toArray)) (tc : TC P f args X post')
    (next : ∀ v X', post' v X' → Ex P fn n post (adv n s v) X') : Ex P fn n post s X := by
  intro E a w hf hx
  obtain ⟨ops, i, rest, k, hk, hd, ho, hw⟩ := headOp_spec h
  rw [hk]
  refine Mean.op hf hd ho hw ?_
  unfold Oper.wp
  rw [hf.ev, peel_run hc]
  refine (tc E w hx).mono ?_
  rintro e w' ⟨v, X', rfl, hp, hx'⟩
  have := next v X' hp E (a.put o.dst v) w' (by simpa [adv, hk, ho] using hf.put o.dst v) hx'
  simpa only [adv, hk] using this

def resV (fn : Func) (f : Fm) : Option Value :=
  match fn.results.toList with
  | [] => some (.tuple #[])
  | [.tmp t] => some (f t)
  | [.tmp t, .tmp u] => some (.tuple #[f t, f u])
  | [.tmp t, .tmp u, .tmp x] => some (.tuple #[f t, f u, f x])
  | [.tmp t, .tmp u, .tmp x, .tmp y] => some (.tuple #[f t, f u, f x, f y])
  | _ => none

theorem results_run {P : Program} {n : Nat} {f : Fm} {a : Act} {fn : Func} {v : Value} (hf : Fr n f a) (h : resV fn f = some v) (w : World) : (results fn a.tmps).run P w = .ok v w := by
  have ha : ∀ l, fn.results.toList = l → fn.results = l.toArray := fun l h => by rw [← h]
  unfold resV at h
  split at h <;> first | (cases h; rename_i hl; simp [results, ha _ hl, ← hf.t]) | cases h

/-- Where the body is at its end. -/
def atEnd (k : List Item) : Bool :=
  match k with
  | [] => true
  | .code .ret :: _ => true
  | _ => false

/-- The function returns. -/
theorem Ex.ret {func : Func} {v : Value} (hfn : P.funcs[fn]? = some func) (hd : s.d = none) (he : atEnd s.k = true) (hv : resV func s.f = some v) (hp : ∃ X', Ent X X' ∧ post v X') : Ex P fn n post s X := by
  intro E a w hf hx
  obtain ⟨k, f, d⟩ := s
  obtain ⟨X', hX, hp⟩ := hp
  simp only at hf he hv hd
  subst hd
  have hrun : RunA P fn (fun v w' => ∃ X', post v X' ∧ Heap E X' w') k a w := by
    intro b cs hb hk
    unfold atEnd at he
    split at he
    · refine ⟨v, w, _, ⟨X', hp, hx.ent hX⟩, .one step_end, hb, rfl, hf.d, hk, func, ?_, results_run hf hv w⟩
      simpa [Frame.at, hb] using hfn
    · refine ⟨v, w, _, ⟨X', hp, hx.ent hX⟩, .one step_ret, hb, rfl, hf.d, hk, func, ?_, results_run hf hv w⟩
      simpa [Frame.at, hb] using hfn
    · cases he
  unfold Mean
  simp only
  split
  · simp [atEnd] at he
  · exact hrun

end

/-- The frame at a function's beginning. -/
def args0 (args : List Value) : Fm := fun t => args.getD t undef

theorem Fr.begin (args : List Value) (n : Nat) (h : args.length ≤ n) : Fr n (args0 args) { tmps := args.toArray ++ Array.replicate (n - args.toArray.size) undef, defers := [] } := by
  refine ⟨rfl, by simp; omega, fun t => ?_⟩
  simp only [args0, Array.getD_eq_getD_getElem?, Array.getElem?_append, List.getD_eq_getElem?_getD]
  by_cases ht : t < args.length
  · simp [ht]
  · simp only [List.size_toArray, ht, if_false]
    rw [List.getElem?_eq_none (by omega), Array.getElem?_replicate]
    split <;> rfl

def bodyOf (fn : Func) : Code := fn.body.getD .skip
/-- A call is a run of the body. -/
theorem TC.body {P : Program} {f : FuncId} {func : Func} (n : Nat) {args : List Value} {X : List HP} {post : Value → List HP → Prop}
    (hf : P.funcs[f]? = some func) (hb : func.body.isSome = true) (hn : func.ntmps = n) (hl : Nat.ble args.length n = true)
    (h : Ex P f n post ⟨[.code (bodyOf func)], args0 args, none⟩ X) : TC P f args X post := by
  intro E w hx cs
  subst hn
  have hl' : args.length ≤ func.ntmps := Nat.le_of_ble_eq_true hl
  obtain ⟨c, hb⟩ := Option.isSome_iff_exists.1 hb
  let b : Frame := { (default : Frame) with fn := f, kind := .normal }
  have henter : Frame.enter P f args.toArray .normal = b.at { tmps := args.toArray ++ Array.replicate (func.ntmps - args.toArray.size) undef, defers := [] } [.code (bodyOf func)] := by
    simp [Frame.enter, Frame.at, hf, hb, b, bodyOf]
  have hr := (h E _ w (Fr.begin args _ hl') hx).run
  obtain ⟨v, w', fr, ⟨X', hp, hx'⟩, hst, hfr, hle⟩ := hr b cs rfl rfl
  exact ⟨.returned v, w', fr, ⟨v, X', rfl, hp, hx'⟩, by rw [henter]; exact hst, hfr, hle⟩
attribute [irreducible] xq xq1 adv headOp bodyOf resV atEnd args0 upd putO
end Go.Sx
