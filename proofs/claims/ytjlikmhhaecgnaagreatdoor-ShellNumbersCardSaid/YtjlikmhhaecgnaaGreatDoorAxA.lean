/- Runs that hang on no input, on abstract worlds: values with names for places; memory under names. -/
import Derived.Test.YtjlikmhhaecgnaaGreatDoorSxE
namespace Go.Ax
set_option linter.unusedVariables false
open Go.Sx

/-! A store under numbers. -/
inductive T (α : Type) where
  | e
  | n (l : T α) (v : Option α) (r : T α)
noncomputable def T.get {α : Type} (t : T α) : Nat → Option α :=
  T.rec (fun _ => none) (fun _ v _ gl gr k => Bool.rec (Bool.rec (gr (Nat.sub (Nat.div k 2) 1)) (gl (Nat.div k 2)) (Nat.beq (Nat.mod k 2) 1)) v (Nat.beq k 0)) t
noncomputable def T.l {α : Type} (t : T α) : T α := T.rec T.e (fun l _ _ _ _ => l) t
noncomputable def T.r {α : Type} (t : T α) : T α := T.rec T.e (fun _ _ r _ _ => r) t
noncomputable def T.v {α : Type} (t : T α) : Option α := T.rec none (fun _ v _ _ _ => v) t
noncomputable def T.setF {α : Type} (x : α) (fuel : Nat) : T α → Nat → T α :=
  Nat.rec (fun t _ => t) (fun _ ih t k => Bool.rec (Bool.rec (.n t.l t.v (ih t.r (Nat.sub (Nat.div k 2) 1))) (.n (ih t.l (Nat.div k 2)) t.v t.r) (Nat.beq (Nat.mod k 2) 1)) (.n t.l (some x) t.r) (Nat.beq k 0)) fuel
theorem T.get_n {α : Type} (l : T α) (v : Option α) (r : T α) (k : Nat) : (T.n l v r).get k = if k = 0 then v else if k % 2 = 1 then l.get (k / 2) else r.get (k / 2 - 1) := by
  show (Bool.rec (Bool.rec (r.get (k / 2 - 1)) (l.get (k / 2)) (Nat.beq (k % 2) 1)) v (Nat.beq k 0) : Option α) = _
  by_cases h : k = 0
  · subst h; rfl
  · have h1 : Nat.beq k 0 = false := by cases k with | zero => exact absurd rfl h | succ => rfl
    rw [h1, if_neg h]
    show (Bool.rec (r.get (k / 2 - 1)) (l.get (k / 2)) (Nat.beq (k % 2) 1) : Option α) = _
    by_cases h2 : k % 2 = 1
    · rw [h2]; rfl
    · have h3 : Nat.beq (k % 2) 1 = false := by
        cases hb : Nat.beq (k % 2) 1 with
        | false => rfl
        | true => exact absurd (Nat.eq_of_beq_eq_true hb) h2
      rw [h3, if_neg h2]
theorem T.get_e {α : Type} (k : Nat) : (T.e : T α).get k = none := rfl
theorem T.get_parts {α : Type} (t : T α) (k : Nat) : t.get k = if k = 0 then t.v else if k % 2 = 1 then t.l.get (k / 2) else t.r.get (k / 2 - 1) := by
  cases t with
  | e => simp [T.get_e, T.v, T.l, T.r]
  | n l v r => rw [T.get_n]; rfl
theorem T.get_setF {α : Type} (x : α) : ∀ (fuel : Nat) (t : T α) (k j : Nat), k + 1 < 2 ^ fuel → (T.setF x fuel t k).get j = if j = k then some x else t.get j := by
  intro fuel
  induction fuel with
  | zero => intro t k j h; simp at h
  | succ fuel ih =>
    intro t k j h
    show (Bool.rec (Bool.rec (T.n t.l t.v (T.setF x fuel t.r (k / 2 - 1))) (T.n (T.setF x fuel t.l (k / 2)) t.v t.r) (Nat.beq (k % 2) 1)) (T.n t.l (some x) t.r) (Nat.beq k 0) : T α).get j = _
    rw [T.get_parts t j]
    by_cases h0 : k = 0
    · subst h0
      have : Nat.beq 0 0 = true := rfl
      rw [this]
      show (T.n t.l (some x) t.r).get j = _
      rw [T.get_n]
      by_cases hj : j = 0 <;> simp [hj]
    · have h1 : Nat.beq k 0 = false := by cases k with | zero => exact absurd rfl h0 | succ => rfl
      rw [h1]
      by_cases h2 : k % 2 = 1
      · rw [h2]
        show (T.n (T.setF x fuel t.l (k / 2)) t.v t.r).get j = _
        rw [T.get_n, ih _ _ _ (by omega)]
        by_cases hj : j = 0
        · subst hj; simp; omega
        · rw [if_neg hj, if_neg hj]
          by_cases hj2 : j % 2 = 1
          · rw [if_pos hj2, if_pos hj2]
            by_cases hjk : j = k
            · subst hjk; simp
            · rw [if_neg (by omega), if_neg hjk]
          · rw [if_neg hj2, if_neg hj2, if_neg (by omega)]
      · have h3 : Nat.beq (k % 2) 1 = false := by
          cases hb : Nat.beq (k % 2) 1 with
          | false => rfl
          | true => exact absurd (Nat.eq_of_beq_eq_true hb) h2
        rw [h3]
        show (T.n t.l t.v (T.setF x fuel t.r (k / 2 - 1))).get j = _
        rw [T.get_n, ih _ _ _ (by omega)]
        by_cases hj : j = 0
        · subst hj; simp; omega
        · rw [if_neg hj, if_neg hj]
          by_cases hj2 : j % 2 = 1
          · rw [if_pos hj2, if_pos hj2, if_neg (by omega)]
          · rw [if_neg hj2, if_neg hj2]
            by_cases hjk : j = k
            · subst hjk; simp
            · rw [if_neg (by omega), if_neg hjk]
def few (k : Nat) : Bool := Nat.blt k 1000000
noncomputable def T.set {α : Type} (t : T α) (k : Nat) (x : α) : T α := T.setF x 20 t k
theorem T.get_set {α : Type} {t : T α} {k : Nat} {x : α} (h : few k = true) (j : Nat) : (t.set k x).get j = if j = k then some x else t.get j := by
  refine T.get_setF x 20 t k j ?_
  have : k < 1000000 := by simpa [few, Nat.blt_eq] using h
  have : (2 : Nat) ^ 20 = 1048576 := by decide
  omega

/-! Rows. -/
noncomputable def lget {α : Type} (l : List α) : Nat → Option α := List.rec (fun _ => none) (fun x _ ih j => Bool.rec (ih (Nat.sub j 1)) (some x) (Nat.beq j 0)) l
theorem lget_eq {α : Type} (l : List α) : ∀ j, lget l j = l[j]? := by
  induction l with
  | nil => intro j; simp [lget]
  | cons x l ih =>
    intro j
    cases j with
    | zero => rfl
    | succ j => show lget l j = _; rw [ih]; simp
noncomputable def ldrop {α : Type} (l : List α) : Nat → List α := List.rec (fun _ => []) (fun x xs ih j => Bool.rec (ih (Nat.sub j 1)) (x :: xs) (Nat.beq j 0)) l
theorem ldrop_eq {α : Type} (l : List α) : ∀ j, ldrop l j = l.drop j := by
  induction l with
  | nil => intro j; simp [ldrop]
  | cons x l ih =>
    intro j
    cases j with
    | zero => rfl
    | succ j => show ldrop l j = _; rw [ih]; simp
noncomputable def ltake {α : Type} (l : List α) : Nat → List α := List.rec (fun _ => []) (fun x _ ih j => Bool.rec (x :: ih (Nat.sub j 1)) [] (Nat.beq j 0)) l
theorem ltake_eq {α : Type} (l : List α) : ∀ j, ltake l j = l.take j := by
  induction l with
  | nil => intro j; simp [ltake]
  | cons x l ih =>
    intro j
    cases j with
    | zero => rfl
    | succ j => show x :: ltake l j = _; rw [ih]; simp
noncomputable def lapp {α : Type} (l m : List α) : List α := List.rec m (fun x _ ih => x :: ih) l
theorem lapp_eq {α : Type} (l m : List α) : lapp l m = l ++ m := by
  induction l with
  | nil => rfl
  | cons x l ih => show x :: lapp l m = _; rw [ih]; rfl
noncomputable def llen {α : Type} (l : List α) : Nat := List.rec 0 (fun _ _ ih => Nat.add ih 1) l
theorem llen_eq {α : Type} (l : List α) : llen l = l.length := by
  induction l with
  | nil => rfl
  | cons x l ih => show llen l + 1 = _; rw [ih]; rfl

/-! Values. -/
inductive V where
  | f (v : Value)
  | p (i k off : Nat)
  | s (i k off n b : Nat) (c : Option Nat) (sz : Nat)
  | m (i : Nat)
  | a (xs : List V)
  | t (xs : List V)
  | fn (g : Fn) (fs cs : List V)
  | i (t : TypeId) (v : V)

/-- A version of what has a name: where place j lies (from lo on), how far there is room, and how far its cells are known. -/
structure Rec where
  b : Nat
  base : Nat
  lo : Nat
  hi : Nat
  L : Nat
abbrev Rho := Nat → Nat → Option Rec
def Rec.at (r : Rec) (j : Nat) : Addr := ⟨r.b, r.base + (j - r.lo), none⟩

mutual
def VR (ρ : Rho) : V → Value → Prop
  | .f v, u => u = v
  | .p i k off, u => ∃ r, ρ i k = some r ∧ r.lo ≤ off ∧ u = .pointer (some (r.at off))
  | .s i k off n b c sz, u => ∃ r ad cap, ρ i k = some r ∧ u = .slice (some ad) n cap ∧ n ≤ cap ∧ (c = none ∨ c = some cap) ∧
      (cap = 0 ∨ (r.lo ≤ off ∧ ad = r.at off ∧ off + n * sz ≤ r.L ∧ off + cap * sz ≤ r.hi ∧ (c = none → off + cap * sz = r.hi) ∧ off + b * sz ≤ r.L)) ∧ n ≤ b ∧ b ≤ cap
  | .m i, u => ∃ r, ρ i 0 = some r ∧ u = .map (some r.b)
  | .a xs, u => ∃ ys, u = .agg (List.toArray ys) ∧ VRs ρ xs ys
  | .t xs, u => ∃ ys, u = .tuple (List.toArray ys) ∧ VRs ρ xs ys
  | .fn g fs cs, u => ∃ ys zs, u = .func g (List.toArray ys) (List.toArray zs) ∧ VRs ρ fs ys ∧ VRs ρ cs zs
  | .i t x, u => ∃ y, u = .iface t y ∧ VR ρ x y
def VRs (ρ : Rho) : List V → List Value → Prop
  | [], ys => ys = []
  | x :: xs, ys => ∃ y ys', ys = y :: ys' ∧ VR ρ x y ∧ VRs ρ xs ys'
end

def Rho.le (ρ ρ' : Rho) : Prop := ∀ i k r, ρ i k = some r → ρ' i k = some r
theorem Rho.le.refl (ρ : Rho) : ρ.le ρ := fun _ _ _ h => h
theorem Rho.le.trans {ρ ρ' ρ'' : Rho} (h : ρ.le ρ') (h' : ρ'.le ρ'') : ρ.le ρ'' := fun i k r e => h' i k r (h i k r e)

mutual
theorem VR.mono {ρ ρ' : Rho} (h : ρ.le ρ') : ∀ {x : V} {u : Value}, VR ρ x u → VR ρ' x u
  | .f _, _, e => e
  | .p _ _ _, _, ⟨r, h1, h2⟩ => ⟨r, h _ _ _ h1, h2⟩
  | .s _ _ _ _ _ _ _, _, ⟨r, ad, cap, h1, h2⟩ => ⟨r, ad, cap, h _ _ _ h1, h2⟩
  | .m _, _, ⟨r, h1, h2⟩ => ⟨r, h _ _ _ h1, h2⟩
  | .a _, _, ⟨ys, h1, h2⟩ => ⟨ys, h1, VRs.mono h h2⟩
  | .t _, _, ⟨ys, h1, h2⟩ => ⟨ys, h1, VRs.mono h h2⟩
  | .fn _ _ _, _, ⟨ys, zs, h1, h2, h3⟩ => ⟨ys, zs, h1, VRs.mono h h2, VRs.mono h h3⟩
  | .i _ _, _, ⟨y, h1, h2⟩ => ⟨y, h1, VR.mono h h2⟩
theorem VRs.mono {ρ ρ' : Rho} (h : ρ.le ρ') : ∀ {xs : List V} {us : List Value}, VRs ρ xs us → VRs ρ' xs us
  | [], _, e => e
  | _ :: _, _, ⟨y, ys, h1, h2, h3⟩ => ⟨y, ys, h1, VR.mono h h2, VRs.mono h h3⟩
end

theorem VRs.len {ρ : Rho} : ∀ {xs : List V} {us : List Value}, VRs ρ xs us → us.length = xs.length
  | [], _, e => by rw [e]; rfl
  | _ :: _, _, ⟨y, ys, h1, _, h3⟩ => by rw [h1]; simp [VRs.len h3]
theorem VRs.get {ρ : Rho} : ∀ {xs : List V} {us : List Value}, VRs ρ xs us → ∀ (j : Nat) (x : V), xs[j]? = some x → ∃ u, us[j]? = some u ∧ VR ρ x u
  | [], _, _, j, x, h => by simp at h
  | y :: xs, _, ⟨u, us, h1, h2, h3⟩, j, x, h => by
    subst h1
    cases j with
    | zero => simp at h; subst h; exact ⟨u, rfl, h2⟩
    | succ j => simp at h; simpa using VRs.get h3 j x h
theorem VRs.of {ρ : Rho} : ∀ {xs : List V} {us : List Value}, us.length = xs.length → (∀ (j : Nat) (x : V), xs[j]? = some x → ∃ u, us[j]? = some u ∧ VR ρ x u) → VRs ρ xs us
  | [], us, hl, _ => List.eq_nil_of_length_eq_zero hl
  | x :: xs, [], hl, _ => by simp at hl
  | x :: xs, u :: us, hl, h => by
    obtain ⟨u', h1, h2⟩ := h 0 x rfl
    simp at h1
    subst h1
    exact ⟨u, us, rfl, h2, VRs.of (by simpa using hl) fun j x hx => by simpa using h (j + 1) x hx⟩
theorem VRs.append {ρ : Rho} {xs ys : List V} {us vs : List Value} (h : VRs ρ xs us) (h' : VRs ρ ys vs) : VRs ρ (xs ++ ys) (us ++ vs) := by
  induction xs generalizing us with
  | nil => rw [show us = [] from h]; exact h'
  | cons x xs ih =>
    obtain ⟨u, us', rfl, h1, h2⟩ := h
    exact ⟨u, us' ++ vs, rfl, h1, ih h2⟩
theorem VRs.flat {ρ : Rho} (us : List Value) : VRs ρ (us.map V.f) us := by
  induction us with
  | nil => rfl
  | cons u us ih => exact ⟨u, us, rfl, rfl, ih⟩
theorem VRs.drop {ρ : Rho} {xs : List V} {us : List Value} (h : VRs ρ xs us) (j : Nat) : VRs ρ (xs.drop j) (us.drop j) := by
  refine VRs.of (by simp [h.len]) fun k x hx => ?_
  simp only [List.getElem?_drop] at hx ⊢
  exact h.get _ _ hx
theorem VRs.take {ρ : Rho} {xs : List V} {us : List Value} (h : VRs ρ xs us) (j : Nat) : VRs ρ (xs.take j) (us.take j) := by
  refine VRs.of (by simp [h.len]) fun k x hx => ?_
  simp only [List.getElem?_take] at hx ⊢
  split at hx
  · rename_i hk; rw [if_pos hk]; exact h.get _ _ hx
  · cases hx

/-- Values that say all by themselves. -/
noncomputable def flats (xs : List V) : Option (List Value) :=
  List.rec (some []) (fun x _ ih => match x with | .f v => (match ih with | some vs => some (v :: vs) | none => none) | _ => none) xs
theorem flats_cons (x : V) (xs : List V) : flats (x :: xs) = match x with | .f v => (match flats xs with | some vs => some (v :: vs) | none => none) | _ => none := by cases x <;> rfl
theorem flats_spec {xs : List V} : ∀ {vs : List Value}, flats xs = some vs → xs = vs.map V.f := by
  induction xs with
  | nil => intro vs h; have h' : some [] = some vs := h; cases h'; rfl
  | cons x xs ih =>
    intro vs h
    rw [flats_cons] at h
    split at h
    · split at h
      · rename_i vs' h'
        simp at h
        subst h
        rw [ih h']
        rfl
      · cases h
    · cases h
theorem VRs.flats {ρ : Rho} {xs : List V} {vs us : List Value} (h : Ax.flats xs = some vs) (hr : VRs ρ xs us) : us = vs := by
  rw [flats_spec h] at hr
  clear h
  induction vs generalizing us with
  | nil => exact hr
  | cons v vs ih =>
    obtain ⟨u, us', rfl, h1, h2⟩ := hr
    rw [show u = v from h1, ih h2]
noncomputable def mkA (xs : List V) : V := match flats xs with | some vs => .f (.agg (List.toArray vs)) | none => .a xs
theorem mkA_rel {ρ : Rho} {xs : List V} {us : List Value} (h : VRs ρ xs us) : VR ρ (mkA xs) (.agg (List.toArray us)) := by
  unfold mkA
  split
  · rename_i vs hv; rw [VRs.flats hv h]; rfl
  · exact ⟨us, rfl, h⟩
noncomputable def mkT (xs : List V) : V := match flats xs with | some vs => .f (.tuple (List.toArray vs)) | none => .t xs
theorem mkT_rel {ρ : Rho} {xs : List V} {us : List Value} (h : VRs ρ xs us) : VR ρ (mkT xs) (.tuple (List.toArray us)) := by
  unfold mkT
  split
  · rename_i vs hv; rw [VRs.flats hv h]; rfl
  · exact ⟨us, rfl, h⟩
def V.cells : V → List V
  | .a xs => xs
  | .f v => v.cells.toList.map V.f
  | v => [v]
theorem VR.cells {ρ : Rho} {x : V} {u : Value} (h : VR ρ x u) : VRs ρ x.cells u.cells.toList := by
  cases x with
  | f v => rw [show u = v from h]; exact VRs.flat _
  | a xs => obtain ⟨ys, rfl, h⟩ := h; exact h
  | p => obtain ⟨r, h1, h2, rfl⟩ := h; exact ⟨_, [], rfl, ⟨r, h1, h2, rfl⟩, rfl⟩
  | s => obtain ⟨r, ad, cap, h1, rfl, h2⟩ := h; exact ⟨_, [], rfl, ⟨r, ad, cap, h1, rfl, h2⟩, rfl⟩
  | m => obtain ⟨r, h1, rfl⟩ := h; exact ⟨_, [], rfl, ⟨r, h1, rfl⟩, rfl⟩
  | t => obtain ⟨ys, rfl, h⟩ := h; exact ⟨_, [], rfl, ⟨ys, rfl, h⟩, rfl⟩
  | fn => obtain ⟨ys, zs, rfl, h⟩ := h; exact ⟨_, [], rfl, ⟨ys, zs, rfl, h⟩, rfl⟩
  | i => obtain ⟨y, rfl, h⟩ := h; exact ⟨_, [], rfl, ⟨y, rfl, h⟩, rfl⟩
def V.one : V → Bool
  | .a _ | .t _ => false
  | .f v => v.oneCell'
  | _ => true
theorem VR.one {ρ : Rho} {x : V} {u : Value} (h : VR ρ x u) (h1 : x.one = true) : u.oneCell' = true := by
  cases x with
  | f v => rw [show u = v from h]; exact h1
  | a => cases h1
  | t => cases h1
  | p => obtain ⟨r, _, _, rfl⟩ := h; rfl
  | s => obtain ⟨r, ad, cap, _, rfl, _⟩ := h; rfl
  | m => obtain ⟨r, _, rfl⟩ := h; rfl
  | fn => obtain ⟨ys, zs, rfl, _⟩ := h; rfl
  | i => obtain ⟨y, rfl, _⟩ := h; rfl
noncomputable def vones (xs : List V) : Bool := List.rec true (fun x _ ih => bif x.one then ih else false) xs
theorem VRs.ones {ρ : Rho} : ∀ {xs : List V} {us : List Value}, VRs ρ xs us → vones xs = true → Sx.ones us = true
  | [], _, e, _ => by rw [e]; rfl
  | x :: xs, _, ⟨u, us, h1, h2, h3⟩, h => by
    subst h1
    have h' : (bif x.one then vones xs else false) = true := h
    cases hx : x.one with
    | false => rw [hx] at h'; cases h'
    | true =>
      rw [hx, cond_true] at h'
      have hu := h2.one hx
      have := VRs.ones h3 h'
      cases u <;> first | exact this | cases hu

/-! Memory. -/
inductive O where
  | c (cells : List V) (ver min : Nat)
  | m (es : List (Value × V × Nat)) (clock : Nat)
  | it (m : Option Nat) (since : Nat) (seen : List Nat) (last : Nat)
def O.ver : O → Nat | .c _ k _ => k | _ => 0
def O.min : O → Nat | .c _ _ k => k | _ => 0
abbrev H := T O
structure Base where
  E : Env
  m : Frag

def ER (ρ : Rho) : List (Value × V × Nat) → List MapEntry → Prop
  | [], es => es = []
  | (k, x, b) :: xs, es => ∃ e es', es = e :: es' ∧ e.key = k ∧ VR ρ x e.val ∧ e.born = b ∧ ER ρ xs es'
theorem ER.mono {ρ ρ' : Rho} (h : ρ.le ρ') : ∀ {xs : List (Value × V × Nat)} {es : List MapEntry}, ER ρ xs es → ER ρ' xs es
  | [], _, e => e
  | (_, _, _) :: _, _, ⟨e, es, h1, h2, h3, h4, h5⟩ => ⟨e, es, h1, h2, h3.mono h, h4, ER.mono h h5⟩

def ItR (ρ : Rho) (m m' : Option Nat) : Prop := match m, m' with | none, none => True | some j, some b => ∃ r, ρ j 0 = some r ∧ b = r.b | _, _ => False
theorem ItR.mono {ρ ρ' : Rho} (h : ρ.le ρ') {m m' : Option Nat} (hi : ItR ρ m m') : ItR ρ' m m' := by
  cases m <;> cases m' <;> first | trivial | exact hi.elim | skip
  obtain ⟨r, h1, h2⟩ := hi
  exact ⟨r, h _ _ _ h1, h2⟩
/-- One version of a row of cells. -/
structure VerR (ρ : Rho) (cells : List V) (last : Bool) (r : Rec) (w : World) : Prop where
  ex : ∃ cur ty fr, w.heap[r.b]? = some (.cells cur ty fr) ∧ okFr fr cur.size ∧ r.base + (r.hi - r.lo) ≤ cur.size ∧
    ∀ (j : Nat) (x : V), r.lo ≤ j → j < r.L → cells[j]? = some x → ∃ u, cur[r.base + (j - r.lo)]? = some u ∧ VR ρ x u
  lo : r.lo ≤ r.L
  hi : r.L ≤ r.hi
  len : r.L ≤ cells.length
  last : last = true → r.L = cells.length
def OR (ρ : Rho) (i : Nat) (o : O) (w : World) : Prop :=
  match o with
  | .c cells ver min => min ≤ ver ∧ ∀ k, min ≤ k → k ≤ ver → ∃ r, ρ i k = some r ∧ VerR ρ cells (Nat.beq k ver) r w
  | .m es clock => ∃ r es', ρ i 0 = some r ∧ w.heap[r.b]? = some (.map es' clock) ∧ ER ρ es es'.toList
  | .it m since seen last => ∃ r m', ρ i 0 = some r ∧ r.base = 0 ∧ w.heap[r.b]? = some (.mapIter m' since (List.toArray seen) last) ∧ ItR ρ m m'

def Live (h : H) (i k : Nat) : Prop := ∃ o, h.get i = some o ∧ o.min ≤ k ∧ k ≤ o.ver
structure HR (Z : Base) (ρ : Rho) (h : H) (w : World) : Prop where
  env : w.env = Z.E
  old : Sub Z.m (frag w)
  obj : ∀ i o, h.get i = some o → OR ρ i o w
  sep : ∀ i k i' k' r r', Live h i k → Live h i' k' → ρ i k = some r → ρ i' k' = some r' → i ≠ i' → r.b ≠ r'.b
  al : ∀ i k k' r r', Live h i k → Live h i k' → ρ i k = some r → ρ i k' = some r' → r.b = r'.b → r.base + r'.lo = r'.base + r.lo
  new : ∀ i k r, Live h i k → ρ i k = some r → Z.m r.b = none
  dom : ∀ i k r, ρ i k = some r → ∃ o, h.get i = some o ∧ k ≤ o.ver

theorem VerR.heap {ρ : Rho} {cells : List V} {last : Bool} {r : Rec} {w w' : World} (h : VerR ρ cells last r w) (hw : w'.heap[r.b]? = w.heap[r.b]?) : VerR ρ cells last r w' := by
  obtain ⟨⟨cur, ty, fr, h1, h2⟩, h3, h4, h5, h6⟩ := h
  exact ⟨⟨cur, ty, fr, hw.trans h1, h2⟩, h3, h4, h5, h6⟩
theorem VerR.mono {ρ ρ' : Rho} {cells : List V} {last : Bool} {r : Rec} {w : World} (h : VerR ρ cells last r w) (hr : ρ.le ρ') : VerR ρ' cells last r w := by
  obtain ⟨⟨cur, ty, fr, h1, h2, h7, h8⟩, h3, h4, h5, h6⟩ := h
  exact ⟨⟨cur, ty, fr, h1, h2, h7, fun j x hl hj hx => by obtain ⟨u, hu, hv⟩ := h8 j x hl hj hx; exact ⟨u, hu, hv.mono hr⟩⟩, h3, h4, h5, h6⟩
theorem OR.mono {ρ ρ' : Rho} {i : Nat} {o : O} {w w' : World} (h : OR ρ i o w) (hr : ρ.le ρ') (hw : ∀ k r, o.min ≤ k → k ≤ o.ver → ρ i k = some r → w'.heap[r.b]? = w.heap[r.b]?) : OR ρ' i o w' := by
  cases o with
  | c cells ver min =>
    refine ⟨h.1, fun k h1 h2 => ?_⟩
    obtain ⟨r, hr', hv⟩ := h.2 k h1 h2
    exact ⟨r, hr _ _ _ hr', (hv.heap (hw k r h1 h2 hr')).mono hr⟩
  | m es clock =>
    obtain ⟨r, es', h1, h2, h3⟩ := h
    exact ⟨r, es', hr _ _ _ h1, by rw [hw 0 r (Nat.le_refl 0) (Nat.le_refl 0) h1]; exact h2, h3.mono hr⟩
  | it m since seen last =>
    obtain ⟨r, m', h1, h0, h2, h3⟩ := h
    exact ⟨r, m', hr _ _ _ h1, h0, by rw [hw 0 r (Nat.le_refl 0) (Nat.le_refl 0) h1]; exact h2, h3.mono hr⟩

/-- Where a live version lies. -/
theorem HR.lt {Z : Base} {ρ : Rho} {h : H} {w : World} (hh : HR Z ρ h w) {i k : Nat} {r : Rec} (hl : Live h i k) (hr : ρ i k = some r) : r.b < w.heap.size := by
  obtain ⟨o, ho, h1, h2⟩ := hl
  have := hh.obj i o ho
  cases o with
  | c cells ver min =>
    obtain ⟨r', hr', hv⟩ := this.2 k h1 h2
    rw [hr] at hr'
    cases hr'
    obtain ⟨⟨cur, ty, fr, hw, _⟩, _⟩ := hv
    exact (Array.getElem?_eq_some_iff.1 hw).1
  | m es clock =>
    obtain ⟨r', es', hr', hw, _⟩ := this
    have : k = 0 := Nat.le_zero.1 h2
    subst this
    rw [hr] at hr'
    cases hr'
    exact (Array.getElem?_eq_some_iff.1 hw).1
  | it m since seen last =>
    obtain ⟨r', m', hr', _, hw, _⟩ := this
    have : k = 0 := Nat.le_zero.1 h2
    subst this
    rw [hr] at hr'
    cases hr'
    exact (Array.getElem?_eq_some_iff.1 hw).1

/-- The same memory, in another world that differs in no block. -/
theorem HR.same {Z : Base} {ρ : Rho} {h : H} {w w' : World} (hh : HR Z ρ h w) (he : w'.env = w.env) (hw : w'.heap = w.heap) : HR Z ρ h w' :=
  ⟨he.trans hh.env, fun k o hk => by show w'.heap[k]? = some o; rw [hw]; exact hh.old k o hk, fun i o ho => (hh.obj i o ho).mono (Rho.le.refl ρ) (fun k r _ _ _ => by rw [hw]), hh.sep, hh.al, hh.new, hh.dom⟩

theorem HR.fresh {Z : Base} {ρ : Rho} {h : H} {w : World} (hh : HR Z ρ h w) : Z.m w.heap.size = none := by
  cases hm : Z.m w.heap.size with
  | none => rfl
  | some o =>
    have := frag_lt (hh.old _ _ hm)
    omega

def Rho.add (ρ : Rho) (i k : Nat) (r : Rec) : Rho := fun j l => if j = i ∧ l = k then some r else ρ j l
theorem Rho.add_self (ρ : Rho) (i k : Nat) (r : Rec) : ρ.add i k r i k = some r := by simp [Rho.add]
theorem Rho.add_ne (ρ : Rho) (i k : Nat) (r : Rec) {j l : Nat} (h : ¬ (j = i ∧ l = k)) : ρ.add i k r j l = ρ j l := if_neg h
theorem Rho.le_add {ρ : Rho} {i k : Nat} {r : Rec} (h : ρ i k = none) : ρ.le (ρ.add i k r) := fun j l r' hr => by
  by_cases hj : j = i ∧ l = k
  · obtain ⟨rfl, rfl⟩ := hj; rw [h] at hr; cases hr
  · rw [Rho.add_ne _ _ _ _ hj]; exact hr

/-- Something gets a new version (or comes new), in a block that belongs to nobody else. -/
theorem HR.ver {Z : Base} {ρ : Rho} {h : H} {w w' : World} (hh : HR Z ρ h w) {i k : Nat} {r : Rec} {o : O} (hf : few i = true) (he : w'.env = w.env)
    (hold : ∀ o', h.get i = some o' → o'.ver < k ∧ o'.min ≤ o.min) (hov : o.ver = k)
    (hkeep : ∀ j l r', ρ j l = some r' → Live h j l → (j = i → o.min ≤ l) → j ≠ i → w'.heap[r'.b]? = w.heap[r'.b]?)
    (hbase : ∀ j, Z.m j ≠ none → w'.heap[j]? = w.heap[j]?)
    (hn : Z.m r.b = none)
    (hsep : ∀ j l r', ρ j l = some r' → Live h j l → j ≠ i → r'.b ≠ r.b)
    (hal : ∀ l r', ρ i l = some r' → Live h i l → o.min ≤ l → r'.b = r.b → r'.base + r.lo = r.base + r'.lo)
    (ho : OR (ρ.add i k r) i o w') : ρ.le (ρ.add i k r) ∧ HR Z (ρ.add i k r) (h.set i o) w' := by
  have hnone : ρ i k = none := by
    cases hk : ρ i k with
    | none => rfl
    | some r' =>
      obtain ⟨o', ho', hle⟩ := hh.dom i k r' hk
      have := (hold o' ho').1
      omega
  have hle : ρ.le (ρ.add i k r) := Rho.le_add hnone
  have hlive : ∀ j l, Live (h.set i o) j l → (j = i ∧ o.min ≤ l ∧ l ≤ k) ∨ (j ≠ i ∧ Live h j l) := by
    rintro j l ⟨o', ho', h1, h2⟩
    rw [T.get_set hf] at ho'
    by_cases hj : j = i
    · rw [if_pos hj] at ho'; cases ho'; exact .inl ⟨hj, h1, hov ▸ h2⟩
    · rw [if_neg hj] at ho'; exact .inr ⟨hj, o', ho', h1, h2⟩
  have hliveI : ∀ l r', o.min ≤ l → l ≠ k → ρ i l = some r' → Live h i l := by
    intro l r' h1 h2 hr'
    obtain ⟨o', ho', hlv⟩ := hh.dom i l r' hr'
    exact ⟨o', ho', Nat.le_trans (hold o' ho').2 h1, hlv⟩
  refine ⟨hle, he.trans hh.env, fun j o hj => (hbase j (by rw [hj]; simp)).trans (hh.old j o hj), ?_, ?_, ?_, ?_, ?_⟩
  · intro j o' ho'
    rw [T.get_set hf] at ho'
    by_cases hj : j = i
    · rw [if_pos hj] at ho'; cases ho'; rw [hj]; exact ho
    · rw [if_neg hj] at ho'
      exact (hh.obj j o' ho').mono hle fun l r' h1 h2 hr' => hkeep j l r' hr' ⟨o', ho', h1, h2⟩ (fun e => absurd e hj) hj
  · intro j l j' l' r1 r2 hl hl' hr hr' hne
    rcases hlive j l hl with ⟨rfl, h1, h2⟩ | ⟨h1, h2⟩ <;> rcases hlive j' l' hl' with ⟨rfl, h3, h4⟩ | ⟨h3, h4⟩
    · exact absurd rfl hne
    · rw [Rho.add_ne _ _ _ _ (fun e => h3 e.1)] at hr'
      by_cases hlk : l = k
      · subst hlk
        rw [Rho.add_self] at hr
        cases hr
        exact fun e => hsep j' l' r2 hr' h4 h3 e.symm
      · rw [Rho.add_ne _ _ _ _ (fun e => hlk e.2)] at hr
        exact hh.sep _ _ _ _ _ _ (hliveI l r1 h1 hlk hr) h4 hr hr' hne
    · rw [Rho.add_ne _ _ _ _ (fun e => h1 e.1)] at hr
      by_cases hlk : l' = k
      · subst hlk
        rw [Rho.add_self] at hr'
        cases hr'
        exact hsep j l r1 hr h2 h1
      · rw [Rho.add_ne _ _ _ _ (fun e => hlk e.2)] at hr'
        exact hh.sep _ _ _ _ _ _ h2 (hliveI l' r2 h3 hlk hr') hr hr' hne
    · rw [Rho.add_ne _ _ _ _ (fun e => h1 e.1)] at hr
      rw [Rho.add_ne _ _ _ _ (fun e => h3 e.1)] at hr'
      exact hh.sep _ _ _ _ _ _ h2 h4 hr hr' hne
  · intro j l l' r1 r2 hl hl' hr hr' hb
    rcases hlive j l hl with ⟨rfl, h1, h2⟩ | ⟨h1, h2⟩
    · rcases hlive j l' hl' with ⟨_, h3, h4⟩ | ⟨h3, _⟩
      · by_cases hlk : l = k
        · subst hlk
          rw [Rho.add_self] at hr
          cases hr
          by_cases hlk' : l' = l
          · subst hlk'
            rw [Rho.add_self] at hr'
            cases hr'
            rfl
          · rw [Rho.add_ne _ _ _ _ (fun e => hlk' e.2)] at hr'
            exact (hal l' r2 hr' (hliveI l' r2 h3 hlk' hr') h3 hb.symm).symm
        · rw [Rho.add_ne _ _ _ _ (fun e => hlk e.2)] at hr
          by_cases hlk' : l' = k
          · subst hlk'
            rw [Rho.add_self] at hr'
            cases hr'
            exact hal l r1 hr (hliveI l r1 h1 hlk hr) h1 hb
          · rw [Rho.add_ne _ _ _ _ (fun e => hlk' e.2)] at hr'
            exact hh.al _ _ _ _ _ (hliveI l r1 h1 hlk hr) (hliveI l' r2 h3 hlk' hr') hr hr' hb
      · exact absurd rfl h3
    · rcases hlive j l' hl' with ⟨h3, _⟩ | ⟨_, h4⟩
      · exact absurd h3 h1
      · rw [Rho.add_ne _ _ _ _ (fun e => h1 e.1)] at hr hr'
        exact hh.al _ _ _ _ _ h2 h4 hr hr' hb
  · intro j l r1 hl hr
    rcases hlive j l hl with ⟨rfl, h1, h2⟩ | ⟨h1, h2⟩
    · by_cases hlk : l = k
      · subst hlk
        rw [Rho.add_self] at hr
        cases hr
        exact hn
      · rw [Rho.add_ne _ _ _ _ (fun e => hlk e.2)] at hr
        exact hh.new _ _ _ (hliveI l r1 h1 hlk hr) hr
    · rw [Rho.add_ne _ _ _ _ (fun e => h1 e.1)] at hr
      exact hh.new _ _ _ h2 hr
  · intro j l r1 hr
    by_cases hj : j = i
    · subst hj
      refine ⟨o, by rw [T.get_set hf, if_pos rfl], ?_⟩
      by_cases hlk : l = k
      · rw [hlk, hov]; exact Nat.le_refl _
      · rw [Rho.add_ne _ _ _ _ (fun e => hlk e.2)] at hr
        obtain ⟨o', ho', hlv⟩ := hh.dom _ _ _ hr
        have := (hold o' ho').1
        omega
    · rw [Rho.add_ne _ _ _ _ (fun e => hj e.1)] at hr
      obtain ⟨o', ho', hlv⟩ := hh.dom _ _ _ hr
      exact ⟨o', by rw [T.get_set hf, if_neg hj]; exact ho', hlv⟩
end Go.Ax
