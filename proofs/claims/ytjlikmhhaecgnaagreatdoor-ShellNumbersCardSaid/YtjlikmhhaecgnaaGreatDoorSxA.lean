/- Separation logic over the model's heap: fragments, assertions, symbolic heaps as lists of assertions. -/
import Derived.WalkKit
namespace Go.Sx
set_option linter.unusedVariables false

abbrev Frag := Nat → Option Obj
def Sub (a b : Frag) : Prop := ∀ k o, a k = some o → b k = some o
def Dis (a b : Frag) : Prop := ∀ k, a k = none ∨ b k = none
def one (k : Nat) (o : Obj) : Frag := fun j => if j = k then some o else none
def frag (w : World) : Frag := fun k => w.heap[k]?

theorem Sub.refl (a : Frag) : Sub a a := fun _ _ h => h
theorem Sub.trans {a b c : Frag} (h : Sub a b) (h' : Sub b c) : Sub a c := fun k o e => h' k o (h k o e)
theorem Dis.symm {a b : Frag} (h : Dis a b) : Dis b a := fun k => (h k).symm
theorem Dis.sub {a b a' b' : Frag} (h : Dis a b) (ha : Sub a' a) (hb : Sub b' b) : Dis a' b' := by
  intro k
  rcases h k with h | h
  · left
    cases e : a' k with
    | none => rfl
    | some o => rw [ha k o e] at h; cases h
  · right
    cases e : b' k with
    | none => rfl
    | some o => rw [hb k o e] at h; cases h
theorem Dis.ne {a b : Frag} (h : Dis a b) {k j : Nat} {o o' : Obj} (ha : a k = some o) (hb : b j = some o') : k ≠ j := by
  rintro rfl
  rcases h k with h | h
  · rw [ha] at h; cases h
  · rw [hb] at h; cases h

/-- An assertion: on what may be shared by many and is never written any more (the first fragment), and on what is owned. -/
structure HP where
  p : Frag → Frag → Prop
  mono : ∀ {M M' e e' : Frag}, Sub M M' → Sub e e' → p M e → p M' e'

namespace HP
def emp : HP := ⟨fun _ _ => True, fun _ _ h => h⟩
def star (X Y : HP) : HP := ⟨fun M e => ∃ e1 e2, Sub e1 e ∧ Sub e2 e ∧ Dis e1 e2 ∧ X.p M e1 ∧ Y.p M e2, fun hM he ⟨e1, e2, h1, h2, hd, hx, hy⟩ =>
  ⟨e1, e2, h1.trans he, h2.trans he, hd, X.mono hM (Sub.refl _) hx, Y.mono hM (Sub.refl _) hy⟩⟩
def ex {α : Type} (X : α → HP) : HP := ⟨fun M e => ∃ x, (X x).p M e, fun hM he ⟨x, h⟩ => ⟨x, (X x).mono hM he h⟩⟩
def pure (φ : Prop) : HP := ⟨fun _ _ => φ, fun _ _ h => h⟩
/-- Block b is owned, and is this object. -/
def blk (b : Nat) (o : Obj) : HP := ⟨fun _ e => e b = some o, fun _ he h => he _ _ h⟩
/-- Block b is shared for ever, and is this object. -/
def im (b : Nat) (o : Obj) : HP := ⟨fun M _ => M b = some o, fun hM _ h => hM _ _ h⟩
/-- All of this is shared for ever. -/
def ims (m : Frag) : HP := ⟨fun M _ => Sub m M, fun hM _ h => h.trans hM⟩
end HP

def stars : List HP → HP
  | [] => HP.emp
  | x :: xs => HP.star x (stars xs)

/-- What no Go operation of ours turns. -/
structure Env where
  os : Os
  tape : Nat → Question → Nat
  out : Array (Nat × ByteArray)
def _root_.Go.World.env (w : World) : Env := ⟨w.os, w.tape, w.output⟩
/-- The world's memory holds what is said. -/
def Heap (E : Env) (X : List HP) (w : World) : Prop := w.env = E ∧ ∃ M e, (stars X).p M e ∧ Dis M e ∧ Sub M (frag w) ∧ Sub e (frag w)

/-- X says Y. -/
def Ent (X Y : List HP) : Prop := ∀ M e, (stars X).p M e → (stars Y).p M e

theorem Ent.refl (X : List HP) : Ent X X := fun _ _ h => h
theorem Ent.trans {X Y Z : List HP} (h : Ent X Y) (h' : Ent Y Z) : Ent X Z := fun M e x => h' M e (h M e x)
theorem Heap.ent {E : Env} {X Y : List HP} {w : World} (h : Heap E X w) (he : Ent X Y) : Heap E Y w :=
  let ⟨q, M, e, hx, r⟩ := h; ⟨q, M, e, he M e hx, r⟩
theorem Ent.cons {X Y : List HP} (c : HP) (h : Ent X Y) : Ent (c :: X) (c :: Y) :=
  fun M _ ⟨e1, e2, h1, h2, hd, hx, hy⟩ => ⟨e1, e2, h1, h2, hd, hx, h M e2 hy⟩
theorem Ent.swap (c d : HP) (X : List HP) : Ent (c :: d :: X) (d :: c :: X) := by
  rintro M e ⟨e1, e2, h1, h2, hd, hc, e3, e4, h3, h4, hd', hdd, hx⟩
  refine ⟨e3, fun k => (e1 k).or (e4 k), h3.trans h2, ?_, ?_, hdd, e1, e4, ?_, ?_, hd.sub (Sub.refl _) h4, hc, hx⟩
  · intro k o h
    cases h' : e1 k with
    | none => simp only [h', Option.none_or] at h; exact h2 k o (h4 k o h)
    | some o' => simp only [h', Option.some_or] at h; cases h; exact h1 k o h'
  · intro k
    cases h3k : e3 k with
    | none => exact .inl rfl
    | some o =>
      right
      have a := hd.sub (Sub.refl _) h3 k
      have b := hd' k
      rw [h3k] at a b
      simp at a b
      simp [a, b]
  · intro k o h; simp [h]
  · intro k o h
    have a := hd.sub (Sub.refl _) h4 k
    rw [h] at a
    simp at a
    simp [a, h]
theorem Ent.drop (c : HP) (X : List HP) : Ent (c :: X) X :=
  fun M _ ⟨_, e2, _, h2, _, _, hx⟩ => (stars X).mono (Sub.refl M) h2 hx
theorem Ent.head (c : HP) (X : List HP) : Ent (c :: X) [c] :=
  fun M _ ⟨e1, _, h1, _, _, hc, _⟩ => ⟨e1, fun _ => none, h1, fun _ _ h => (nomatch h), fun _ => Or.inr rfl, hc, trivial⟩
/-- Part i comes to the front. -/
theorem Ent.front {X : List HP} : ∀ (i : Nat) {c : HP}, X[i]? = some c → Ent X (c :: X.eraseIdx i) := by
  induction X with
  | nil => intro i c h; simp at h
  | cons d X ih =>
    intro i c h
    cases i with
    | zero => simp at h; subst h; exact Ent.refl _
    | succ i =>
      simp at h
      exact ((ih i h).cons d).trans (Ent.swap _ _ _)
theorem Ent.back {X : List HP} : ∀ (i : Nat) {c d : HP}, X[i]? = some c → Ent (d :: X.eraseIdx i) (X.set i d) := by
  induction X with
  | nil => intro i c d h; simp at h
  | cons x X ih =>
    intro i c d h
    cases i with
    | zero => simp at h; subst h; exact Ent.refl _
    | succ i =>
      simp at h
      exact (Ent.swap _ _ _).trans ((ih i h).cons x)
theorem Ent.set {X : List HP} (i : Nat) {c d : HP} (h : X[i]? = some c) (hcd : Ent (c :: X.eraseIdx i) (d :: X.eraseIdx i)) : Ent X (X.set i d) :=
  (Ent.front i h).trans (hcd.trans (Ent.back i h))
theorem Ent.ex_intro {α : Type} {P : α → HP} (x : α) (X : List HP) : Ent (P x :: X) (HP.ex P :: X) :=
  fun _ _ ⟨e1, e2, h1, h2, hd, hc, hx⟩ => ⟨e1, e2, h1, h2, hd, ⟨x, hc⟩, hx⟩
theorem Ent.star_split (c d : HP) (X : List HP) : Ent (HP.star c d :: X) (c :: d :: X) := by
  rintro M e ⟨e1, e2, h1, h2, hd, ⟨e3, e4, h3, h4, hd', hc, hdd⟩, hx⟩
  have q : Ent [d, c] [d, c] := Ent.refl _
  refine ⟨e3, fun k => (e4 k).or (e2 k), h3.trans h1, ?_, ?_, hc, e4, e2, ?_, ?_, hd.sub h4 (Sub.refl _), hdd, hx⟩
  · intro k o h
    cases h' : e4 k with
    | none => simp only [h', Option.none_or] at h; exact h2 k o h
    | some o' => simp only [h', Option.some_or] at h; cases h; exact h1 k o (h4 k o h')
  · intro k
    cases h3k : e3 k with
    | none => exact .inl rfl
    | some o =>
      right
      have a := hd.sub h3 (Sub.refl _) k
      have b := hd' k
      rw [h3k] at a b
      simp at a b
      simp [a, b]
  · intro k o h; simp [h]
  · intro k o h
    have a := hd.sub h4 (Sub.refl _) k
    rw [h] at a
    simp at a
    simp [a, h]
theorem Ent.star_join (c d : HP) (X : List HP) : Ent (c :: d :: X) (HP.star c d :: X) := by
  rintro M e ⟨e1, e2, h1, h2, hd, hc, e3, e4, h3, h4, hd', hdd, hx⟩
  refine ⟨fun k => (e1 k).or (e3 k), e4, ?_, h4.trans h2, ?_, ⟨e1, e3, ?_, ?_, hd.sub (Sub.refl _) h3, hc, hdd⟩, hx⟩
  · intro k o h
    cases h' : e1 k with
    | none => simp only [h', Option.none_or] at h; exact h2 k o (h3 k o h)
    | some o' => simp only [h', Option.some_or] at h; cases h; exact h1 k o h'
  · intro k
    cases h4k : e4 k with
    | none => exact .inr rfl
    | some o =>
      left
      have a := hd.sub (Sub.refl _) h4 k
      have b := hd' k
      rw [h4k] at a b
      simp at a b
      simp [a, b]
  · intro k o h; simp [h]
  · intro k o h
    have a := hd.sub (Sub.refl _) h3 k
    rw [h] at a
    simp at a
    simp [a, h]
theorem Ent.pure_intro {φ : Prop} (h : φ) (X : List HP) : Ent X (HP.pure φ :: X) :=
  fun _ _ hx => ⟨fun _ => none, _, fun _ _ h => (nomatch h), Sub.refl _, fun _ => Or.inl rfl, h, hx⟩
theorem Ent.im_dup (b : Nat) (o : Obj) (X : List HP) : Ent (HP.im b o :: X) (HP.im b o :: HP.im b o :: X) :=
  fun M e ⟨e1, e2, h1, h2, hd, hc, hx⟩ => ⟨fun _ => none, e, fun _ _ h => (nomatch h), Sub.refl _, fun _ => .inl rfl, hc, e1, e2, h1, h2, hd, hc, hx⟩

theorem Heap.ex_elim {E : Env} {α : Type} {P : α → HP} {X : List HP} {w : World} (h : Heap E (HP.ex P :: X) w) : ∃ x, Heap E (P x :: X) w := by
  obtain ⟨q, M, e, ⟨e1, e2, h1, h2, hd, ⟨x, hc⟩, hx⟩, r⟩ := h
  exact ⟨x, q, M, e, ⟨e1, e2, h1, h2, hd, hc, hx⟩, r⟩
theorem Heap.pure_elim {E : Env} {φ : Prop} {X : List HP} {w : World} (h : Heap E (HP.pure φ :: X) w) : φ ∧ Heap E X w := by
  have hh := h.ent (Ent.drop _ _)
  obtain ⟨_, M, e, ⟨e1, e2, h1, h2, hd, hc, hx⟩, r⟩ := h
  exact ⟨hc, hh⟩

/-! What is read. -/
/-- X knows block b. -/
def Kn (X : List HP) (b : Nat) (o : Obj) : Prop := ∀ M e, (stars X).p M e → M b = some o ∨ e b = some o
theorem Kn.blk {X : List HP} (i : Nat) {b : Nat} {o : Obj} (h : X[i]? = some (HP.blk b o)) : Kn X b o := by
  intro M e hx
  obtain ⟨e1, e2, h1, _, _, hc, _⟩ := Ent.front i h M e hx
  exact .inr (h1 _ _ hc)
theorem Kn.im {X : List HP} (i : Nat) {b : Nat} {o : Obj} (h : X[i]? = some (HP.im b o)) : Kn X b o := by
  intro M e hx
  obtain ⟨e1, e2, h1, _, _, hc, _⟩ := Ent.front i h M e hx
  exact .inl hc
theorem Kn.cons {X : List HP} {b : Nat} {o : Obj} (c : HP) (h : Kn X b o) : Kn (c :: X) b o :=
  fun M e hx => h M e (Ent.drop c X M e hx)
theorem Kn.ent {X Y : List HP} {b : Nat} {o : Obj} (h : Kn Y b o) (he : Ent X Y) : Kn X b o := fun M e hx => h M e (he M e hx)
theorem Kn.at {X : List HP} {b : Nat} {o : Obj} (h : Kn X b o) {E : Env} {w : World} (hw : Heap E X w) : w.heap[b]? = some o := by
  obtain ⟨_, M, e, hx, _, hM, he⟩ := hw
  rcases h M e hx with h | h
  · exact hM _ _ h
  · exact he _ _ h

/-! What the world's operations do. -/
theorem frag_alloc_old (w : World) (o : Obj) {k : Nat} (h : k < w.heap.size) : frag (w.alloc o) k = frag w k := heap_alloc_old w o h
theorem frag_lt {w : World} {k : Nat} {o : Obj} (h : frag w k = some o) : k < w.heap.size := (Array.getElem?_eq_some_iff.1 h).1

theorem Heap.same {E : Env} {X : List HP} {w w' : World} (h : Heap E X w) (hw : w'.heap = w.heap) (hq : w'.env = w.env) : Heap E X w' := by
  obtain ⟨q, M, e, hx, hd, hM, he⟩ := h
  have : frag w' = frag w := by funext k; simp [frag, hw]
  exact ⟨hq.trans q, M, e, hx, hd, this ▸ hM, this ▸ he⟩

theorem Heap.alloc {E : Env} {X : List HP} {w : World} (h : Heap E X w) (o : Obj) : Heap E (HP.blk w.heap.size o :: X) (w.alloc o) := by
  obtain ⟨q, M, e, hx, hd, hM, he⟩ := h
  have hnew : frag (w.alloc o) w.heap.size = some o := heap_alloc_new w o
  have hMs : M w.heap.size = none := by
    cases h : M w.heap.size with
    | none => rfl
    | some o' => have := frag_lt (hM _ _ h); omega
  have hes : e w.heap.size = none := by
    cases h : e w.heap.size with
    | none => rfl
    | some o' => have := frag_lt (he _ _ h); omega
  refine ⟨q, M, fun k => if k = w.heap.size then some o else e k, ⟨one w.heap.size o, e, ?_, ?_, ?_, by simp [HP.blk, one], hx⟩, ?_, ?_, ?_⟩
  · intro k o' h
    simp only [one] at h
    split at h
    · rename_i hk; cases h; simp [hk]
    · cases h
  · intro k o' h
    have : k ≠ w.heap.size := fun hk => by rw [hk, hes] at h; cases h
    simp [this, h]
  · intro k
    by_cases hk : k = w.heap.size
    · right; rw [hk]; exact hes
    · left; simp [one, hk]
  · intro k
    by_cases hk : k = w.heap.size
    · left; rw [hk]; exact hMs
    · simp [hk]; exact hd k
  · intro k o' h
    rw [frag_alloc_old w o (frag_lt (hM _ _ h))]
    exact hM _ _ h
  · intro k o' h
    by_cases hk : k = w.heap.size
    · simp [hk] at h; subst h; rw [hk]; exact hnew
    · simp [hk] at h
      rw [frag_alloc_old w o (frag_lt (he _ _ h))]
      exact he _ _ h

/-- The owned block at the front is written. -/
theorem Heap.upd {E : Env} {X : List HP} {w w' : World} {b : Nat} {o o' : Obj} (h : Heap E (HP.blk b o :: X) w) (hq : w'.env = w.env) (hn : w'.heap[b]? = some o')
    (ho : ∀ k, k ≠ b → w'.heap[k]? = w.heap[k]?) : Heap E (HP.blk b o' :: X) w' := by
  obtain ⟨q, M, e, ⟨e1, e2, h1, h2, hd', hb, hx⟩, hd, hM, he⟩ := h
  have hb' : e1 b = some o := hb
  refine ⟨hq.trans q, M, fun k => if k = b then some o' else e k, ⟨one b o', fun k => if k = b then none else e2 k, ?_, ?_, ?_, by simp [HP.blk, one], ?_⟩, ?_, ?_, ?_⟩
  · intro k x h
    simp only [one] at h
    split at h
    · rename_i hk; cases h; simp [hk]
    · cases h
  · intro k x h
    by_cases hk : k = b
    · simp [hk] at h
    · simp [hk] at h ⊢; exact h2 _ _ h
  · intro k
    by_cases hk : k = b
    · right; simp [hk]
    · left; simp [one, hk]
  · refine (stars X).mono (Sub.refl M) ?_ hx
    intro k x h
    have : k ≠ b := (hd'.symm.ne h hb')
    simp [this, h]
  · intro k
    by_cases hk : k = b
    · left
      rcases hd k with h | h
      · exact h
      · rw [hk, h1 _ _ hb'] at h; cases h
    · simp [hk]; exact hd k
  · intro k x h
    have hk : k ≠ b := fun hk => by
      rcases hd k with h' | h'
      · rw [h] at h'; cases h'
      · rw [hk, h1 _ _ hb'] at h'; cases h'
    show w'.heap[k]? = some x
    rw [ho k hk]; exact hM _ _ h
  · intro k x h
    show w'.heap[k]? = some x
    by_cases hk : k = b
    · simp [hk] at h; subst h; rw [hk]; exact hn
    · simp [hk] at h
      rw [ho k hk]; exact he _ _ h

/-- What is owned becomes shared. -/
theorem Heap.share {E : Env} {X : List HP} {w : World} {b : Nat} {o : Obj} (h : Heap E (HP.blk b o :: X) w) : Heap E (HP.im b o :: X) w := by
  obtain ⟨q, M, e, ⟨e1, e2, h1, h2, hd', hb, hx⟩, hd, hM, he⟩ := h
  have hb' : e1 b = some o := hb
  have hMM : Sub M (fun k => if k = b then some o else M k) := by
    intro k x h
    have hk : k ≠ b := fun hk => by
      rcases hd k with h' | h'
      · rw [h] at h'; cases h'
      · rw [hk, h1 _ _ hb'] at h'; cases h'
    simp [hk, h]
  refine ⟨q, fun k => if k = b then some o else M k, e2, ⟨fun _ => none, e2, fun _ _ h => (nomatch h), Sub.refl _, fun _ => .inl rfl, by simp [HP.im], (stars X).mono hMM (Sub.refl _) hx⟩, ?_, ?_, ?_⟩
  · intro k
    by_cases hk : k = b
    · right
      rcases hd' k with h' | h'
      · rw [hk, hb'] at h'; cases h'
      · exact h'
    · simp [hk]
      rcases hd k with h' | h'
      · exact .inl h'
      · right
        cases h'' : e2 k with
        | none => rfl
        | some x => rw [h2 _ _ h''] at h'; cases h'
  · intro k x h
    by_cases hk : k = b
    · simp [hk] at h; subst h; rw [hk]; exact he _ _ (h1 _ _ hb')
    · simp [hk] at h; exact hM _ _ h
  · exact fun k x h => he _ _ (h2 _ _ h)

/-- At the beginning all that there is may be held as shared. -/
theorem Heap.begin (w : World) : Heap w.env [HP.ims (frag w)] w :=
  ⟨rfl, frag w, fun _ => none, ⟨fun _ => none, fun _ => none, Sub.refl _, Sub.refl _, fun _ => .inl rfl, Sub.refl _, trivial⟩, fun _ => .inr rfl, Sub.refl _, fun _ _ h => (nomatch h)⟩
theorem Heap.ims_at {E : Env} {m : Frag} {X : List HP} {w : World} (i : Nat) (hi : X[i]? = some (HP.ims m)) (h : Heap E X w) : Sub m (frag w) := by
  obtain ⟨_, M, e, hx, _, hM, _⟩ := h
  obtain ⟨e1, e2, _, _, _, hc, _⟩ := Ent.front i hi M e hx
  exact Sub.trans hc hM
theorem Kn.ims {X : List HP} (i : Nat) {m : Frag} {b : Nat} {o : Obj} (h : X[i]? = some (HP.ims m)) (hm : m b = some o) : Kn X b o := by
  intro M e hx
  obtain ⟨e1, e2, h1, _, _, hc, _⟩ := Ent.front i h M e hx
  exact .inl (hc _ _ hm)
end Go.Sx
