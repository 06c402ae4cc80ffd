/- Slices: owned, shared, read; append, indexing, cutting, making. -/
import Derived.Test.YtjlikmhhaecgnaaGreatDoorSxC
namespace Go.Sx
set_option linter.unusedVariables false

def LiesAt (kn : Nat → Obj → Prop) (sz : Nat) (a : Option Addr) (n cap : Nat) (cs : List Value) : Prop :=
  cs.length = n * sz ∧ n ≤ cap ∧ ((a = none ∧ cap = 0) ∨ ∃ b off cur ty fr, a = some ⟨b, off, none⟩ ∧ kn b (.cells cur ty fr) ∧ off + n * sz ≤ cur.size ∧ (cur.toList.drop off).take (n * sz) = cs)
theorem LiesAt.mono {kn kn' : Nat → Obj → Prop} (hk : ∀ b o, kn b o → kn' b o) {sz : Nat} {a : Option Addr} {n cap : Nat} {cs : List Value} (h : LiesAt kn sz a n cap cs) : LiesAt kn' sz a n cap cs := by
  obtain ⟨h1, h2, h | ⟨b, off, cur, ty, fr, h3, h4, h5⟩⟩ := h
  · exact ⟨h1, h2, .inl h⟩
  · exact ⟨h1, h2, .inr ⟨b, off, cur, ty, fr, h3, hk _ _ h4, h5⟩⟩

def OwnsAt (e : Frag) (sz : Nat) (a : Option Addr) (n cap : Nat) (cs : List Value) : Prop :=
  cs.length = n * sz ∧ n ≤ cap ∧ ((a = none ∧ cap = 0) ∨ ∃ b off cur ty fr, a = some ⟨b, off, none⟩ ∧ e b = some (.cells cur ty fr) ∧ off + cap * sz ≤ cur.size ∧ okFr fr cur.size ∧ (cur.toList.drop off).take (n * sz) = cs)

namespace HP
/-- A slice that is owned, with the room behind it. -/
def own (sz : Nat) (a : Option Addr) (n cap : Nat) (cs : List Value) : HP := ⟨fun _ e => OwnsAt e sz a n cap cs, fun _ he ⟨h1, h2, h⟩ => ⟨h1, h2, h.imp id fun ⟨b, off, cur, ty, fr, h3, h4, h5⟩ => ⟨b, off, cur, ty, fr, h3, he _ _ h4, h5⟩⟩⟩
/-- A slice that is shared, and never written any more. -/
def ro (sz : Nat) (a : Option Addr) (n cap : Nat) (cs : List Value) : HP := ⟨fun M _ => LiesAt (fun b o => M b = some o) sz a n cap cs, fun hM _ h => h.mono fun _ _ => hM _ _⟩
end HP

theorem OwnsAt.lies {e : Frag} {sz : Nat} {a : Option Addr} {n cap : Nat} {cs : List Value} (h : OwnsAt e sz a n cap cs) : LiesAt (fun b o => e b = some o) sz a n cap cs := by
  obtain ⟨h1, h2, h | ⟨b, off, cur, ty, fr, h3, h4, h5, h6, h7⟩⟩ := h
  · exact ⟨h1, h2, .inl h⟩
  · exact ⟨h1, h2, .inr ⟨b, off, cur, ty, fr, h3, h4, Nat.le_trans (Nat.add_le_add_left (Nat.mul_le_mul_right _ h2) _) h5, h7⟩⟩

/-- A slice is read, whoever has it. -/
def Rd (X : List HP) (sz : Nat) (a : Option Addr) (n cap : Nat) (cs : List Value) : Prop :=
  ∀ M e, (stars X).p M e → LiesAt (fun b o => M b = some o ∨ e b = some o) sz a n cap cs

section
variable {X Y : List HP} {sz : Nat} {a : Option Addr} {n cap : Nat} {cs : List Value}
theorem Rd.at {E : Env} {w : World} (h : Rd X sz a n cap cs) (hx : Heap E X w) : LiesAt (fun b o => w.heap[b]? = some o) sz a n cap cs := by
  obtain ⟨_, M, e, hp, _, hM, he⟩ := hx
  exact (h M e hp).mono fun b o h => h.elim (hM _ _) (he _ _)
theorem Rd.own (i : Nat) (h : X[i]? = some (HP.own sz a n cap cs)) : Rd X sz a n cap cs := by
  intro M e hx
  obtain ⟨e1, e2, h1, _, _, hc, _⟩ := Ent.front i h M e hx
  have hc' : OwnsAt e1 sz a n cap cs := hc
  exact hc'.lies.mono fun b o h => .inr (h1 _ _ h)
theorem Rd.ro (i : Nat) (h : X[i]? = some (HP.ro sz a n cap cs)) : Rd X sz a n cap cs := by
  intro M e hx
  obtain ⟨e1, e2, h1, _, _, hc, _⟩ := Ent.front i h M e hx
  have hc' : LiesAt (fun b o => M b = some o) sz a n cap cs := hc
  exact hc'.mono fun b o h => .inl h
theorem Rd.kn {b off : Nat} {cur : List Value} {ty : TypeId} {fr : Nat × Nat} (hk : Kn X b (.cells (List.toArray cur) ty fr)) (n cap : Nat) (hl : off + n * sz ≤ cur.length) (hc : n ≤ cap) : Rd X sz (some ⟨b, off, none⟩) n cap ((cur.drop off).take (n * sz)) := by
  intro M e hx
  refine ⟨by simp; omega, hc, .inr ⟨b, off, List.toArray cur, ty, fr, rfl, hk M e hx, by simpa using hl, by simp⟩⟩
theorem Rd.nil : Rd X sz none 0 0 [] := fun _ _ _ => ⟨by simp, Nat.le_refl 0, .inl ⟨rfl, rfl⟩⟩
theorem Rd.cons (c : HP) (h : Rd X sz a n cap cs) : Rd (c :: X) sz a n cap cs := fun M e hx => h M e (Ent.drop c X M e hx)
theorem Rd.ent (h : Rd Y sz a n cap cs) (he : Ent X Y) : Rd X sz a n cap cs := fun M e hx => h M e (he M e hx)
theorem Rd.len {E : Env} {w : World} (h : Rd X sz a n cap cs) (hx : Heap E X w) : cs.length = n * sz := (h.at hx).1

theorem take_drop_take {α : Type} (l : List α) (o lo len n : Nat) (h : lo + len ≤ n) : (l.drop (o + lo)).take len = (((l.drop o).take n).drop lo).take len := by
  rw [List.drop_take, List.take_take, List.drop_drop, Nat.min_eq_left (by omega)]

/-- Where a cut begins. -/
def cutA (a : Option Addr) (cap lo sz : Nat) : Option Addr := if cap = lo then a else a.map (·.add (lo * sz))
theorem LiesAt.sub {kn : Nat → Obj → Prop} (h : LiesAt kn sz a n cap cs) {lo hi : Nat} (h1 : lo ≤ hi) (h2 : hi ≤ n) : LiesAt kn sz (cutA a cap lo sz) (hi - lo) (cap - lo) ((cs.drop (lo * sz)).take ((hi - lo) * sz)) := by
  obtain ⟨hl, hc, h⟩ := h
  have e1 : lo * sz + (hi - lo) * sz = hi * sz := by rw [← Nat.add_mul]; congr 1; omega
  have e2 : hi * sz ≤ n * sz := Nat.mul_le_mul_right _ h2
  refine ⟨by simp; omega, by omega, ?_⟩
  rcases h with ⟨rfl, rfl⟩ | ⟨b, off, cur, ty, fr, rfl, hk, ho, ht⟩
  · exact .inl ⟨by simp [cutA], by omega⟩
  · right
    unfold cutA
    by_cases hcl : cap = lo
    · rw [if_pos hcl]
      have : hi - lo = 0 := by omega
      refine ⟨b, off, cur, ty, fr, rfl, hk, by rw [this]; omega, by simp [this]⟩
    · rw [if_neg hcl]
      refine ⟨b, off + lo * sz, cur, ty, fr, by simp [Addr.add_lit], hk, by omega, ?_⟩
      rw [← ht]
      exact take_drop_take _ _ _ _ _ (by omega)
theorem Rd.sub (h : Rd X sz a n cap cs) {lo hi : Nat} (h1 : lo ≤ hi) (h2 : hi ≤ n) : Rd X sz (cutA a cap lo sz) (hi - lo) (cap - lo) ((cs.drop (lo * sz)).take ((hi - lo) * sz)) :=
  fun M e hx => (h M e hx).sub h1 h2

/-! Owned slices: what becomes of them. -/
theorem Ent.own_nil (sz : Nat) (X : List HP) : Ent X (HP.own sz none 0 0 [] :: X) := fun _ _ hx => ⟨fun _ => none, _, fun _ _ h => (nomatch h), Sub.refl _, fun _ => .inl rfl, ⟨by simp, Nat.le_refl 0, .inl ⟨rfl, rfl⟩⟩, hx⟩
theorem Ent.ro_nil (sz : Nat) (X : List HP) : Ent X (HP.ro sz none 0 0 [] :: X) := fun _ _ hx => ⟨fun _ => none, _, fun _ _ h => (nomatch h), Sub.refl _, fun _ => .inl rfl, ⟨by simp, Nat.le_refl 0, .inl ⟨rfl, rfl⟩⟩, hx⟩
theorem Ent.ro_dup (X : List HP) : Ent (HP.ro sz a n cap cs :: X) (HP.ro sz a n cap cs :: HP.ro sz a n cap cs :: X) :=
  fun M e ⟨e1, e2, h1, h2, hd, hc, hx⟩ => ⟨fun _ => none, e, fun _ _ h => (nomatch h), Sub.refl _, fun _ => .inl rfl, hc, e1, e2, h1, h2, hd, hc, hx⟩
theorem Ent.map {c d : HP} {X : List HP} (h : ∀ M e, c.p M e → d.p M e) : Ent (c :: X) (d :: X) :=
  fun M _ ⟨e1, e2, h1, h2, hd, hc, hx⟩ => ⟨e1, e2, h1, h2, hd, h M e1 hc, hx⟩
theorem Ent.own_blk {b : Nat} {cs : List Value} {ty : TypeId} (n : Nat) (h : cs.length = n * sz) (X : List HP) : Ent (HP.blk b (.cells (List.toArray cs) ty (0, 0)) :: X) (HP.own sz (some ⟨b, 0, none⟩) n n cs :: X) :=
  Ent.map fun _ _ hb => (⟨h, Nat.le_refl n, .inr ⟨b, 0, List.toArray cs, ty, (0, 0), rfl, hb, by simp [h], okFr_none _, by simp [← h]⟩⟩ : OwnsAt _ _ _ _ _ _)
/-- The end of an owned slice. -/
theorem Ent.own_cut {lo : Nat} (h1 : lo ≤ n) (X : List HP) : Ent (HP.own sz a n cap cs :: X) (HP.own sz (cutA a cap lo sz) (n - lo) (cap - lo) (cs.drop (lo * sz)) :: X) := by
  refine Ent.map fun M e h => ?_
  obtain ⟨hl, hc, h⟩ := h
  have e2 : lo * sz + (n - lo) * sz = n * sz := by rw [← Nat.add_mul]; congr 1; omega
  have e3 : lo * sz + (cap - lo) * sz = cap * sz := by rw [← Nat.add_mul]; congr 1; omega
  refine ⟨by simp; omega, by omega, ?_⟩
  rcases h with ⟨rfl, rfl⟩ | ⟨b, off, cur, ty, fr, rfl, hk, ho, hf, ht⟩
  · exact .inl ⟨by simp [cutA], by omega⟩
  · right
    unfold cutA
    by_cases hcl : cap = lo
    · rw [if_pos hcl]
      refine ⟨b, off, cur, ty, fr, rfl, hk, by omega, hf, ?_⟩
      have : n = lo := by omega
      subst this
      simp [← hl]
    · rw [if_neg hcl]
      refine ⟨b, off + lo * sz, cur, ty, fr, by simp [Addr.add_lit], hk, by omega, hf, ?_⟩
      rw [← ht, List.drop_take, List.drop_drop]
      congr 1
      omega
/-- The beginning of an owned slice. -/
theorem Ent.own_take {hi : Nat} (h1 : hi ≤ n) (X : List HP) : Ent (HP.own sz a n cap cs :: X) (HP.own sz a hi cap (cs.take (hi * sz)) :: X) := by
  refine Ent.map fun M e h => ?_
  obtain ⟨hl, hc, h⟩ := h
  have e2 : hi * sz ≤ n * sz := Nat.mul_le_mul_right _ h1
  refine ⟨by simp; omega, by omega, ?_⟩
  rcases h with h | ⟨b, off, cur, ty, fr, rfl, hk, ho, hf, ht⟩
  · exact .inl h
  · refine .inr ⟨b, off, cur, ty, fr, rfl, hk, ho, hf, ?_⟩
    rw [← ht, List.take_take, Nat.min_eq_left e2]
/-- An owned slice without the room behind it. -/
theorem Ent.own_clip (X : List HP) : Ent (HP.own sz a n cap cs :: X) (HP.own sz a n n cs :: X) := by
  refine Ent.map fun M e h => ?_
  obtain ⟨hl, hc, h⟩ := h
  refine ⟨hl, Nat.le_refl n, ?_⟩
  have e2 : n * sz ≤ cap * sz := Nat.mul_le_mul_right _ hc
  rcases h with ⟨rfl, rfl⟩ | ⟨b, off, cur, ty, fr, rfl, hk, ho, hf, ht⟩
  · exact .inl ⟨rfl, by omega⟩
  · exact .inr ⟨b, off, cur, ty, fr, rfl, hk, by omega, hf, ht⟩
/-- What is owned becomes shared. -/
theorem Heap.own_share {E : Env} {w : World} (h : Heap E (HP.own sz a n cap cs :: X) w) : Heap E (HP.ro sz a n cap cs :: X) w := by
  obtain ⟨q, M, e, ⟨e1, e2, h1, h2, hd', hb, hx⟩, hd, hM, he⟩ := h
  obtain ⟨hl, hc, hb⟩ := hb
  rcases hb with hb | ⟨b, off, cur, ty, fr, rfl, hk, ho, hf, ht⟩
  · exact ⟨q, M, e, ⟨fun _ => none, e2, fun _ _ h => (nomatch h), h2, fun _ => .inl rfl, ⟨hl, hc, .inl hb⟩, hx⟩, hd, hM, he⟩
  · have hh : Heap E (HP.blk b (.cells cur ty fr) :: X) w := ⟨q, M, e, ⟨e1, e2, h1, h2, hd', hk, hx⟩, hd, hM, he⟩
    have e2 : n * sz ≤ cap * sz := Nat.mul_le_mul_right _ hc
    exact hh.share.ent (Ent.map fun M _ h => (⟨hl, hc, .inr ⟨b, off, cur, ty, fr, rfl, h, by omega, ht⟩⟩ : LiesAt (fun b o => M b = some o) sz _ n cap cs))
end

/-! Cells that are stored in a row. -/
theorem put_get (vs : List Value) : ∀ (cs : List Value) (off k : Nat), off + vs.length ≤ cs.length → (put cs off vs)[k]? = if off ≤ k ∧ k < off + vs.length then vs[k - off]? else cs[k]? := by
  induction vs with
  | nil => intro cs off k h; simp [put]; omega
  | cons v vs ih =>
    intro cs off k h
    simp only [List.length_cons] at h ⊢
    rw [put, ih _ _ _ (by simp; omega)]
    by_cases h1 : k = off
    · subst h1
      rw [if_neg (by omega), if_pos (by omega), Nat.sub_self]
      rw [List.getElem?_set_self (by omega)]
      rfl
    · by_cases h2 : off + 1 ≤ k ∧ k < off + 1 + vs.length
      · rw [if_pos h2, if_pos (by omega)]
        obtain ⟨d, rfl⟩ : ∃ d, k = off + 1 + d := ⟨k - (off + 1), by omega⟩
        rw [show off + 1 + d - (off + 1) = d by omega, show off + 1 + d - off = d + 1 by omega, List.getElem?_cons_succ]
      · rw [if_neg h2, if_neg (by omega)]
        rw [List.getElem?_set_ne (by omega)]
theorem put_eq (vs : List Value) (cs : List Value) (off : Nat) (h : off + vs.length ≤ cs.length) : put cs off vs = cs.take off ++ vs ++ cs.drop (off + vs.length) := by
  apply List.ext_getElem?
  intro k
  rw [put_get vs cs off k h, List.append_assoc, List.getElem?_append, List.getElem?_append]
  simp only [List.length_take, Nat.min_eq_left (show off ≤ cs.length by omega)]
  by_cases h1 : k < off
  · rw [if_neg (by omega), if_pos h1, List.getElem?_take, if_pos h1]
  · rw [if_neg h1]
    by_cases h2 : k < off + vs.length
    · rw [if_pos (by omega), if_pos (by omega)]
    · rw [if_neg (by omega), if_neg (by omega), List.getElem?_drop]
      congr 1
      omega

theorem ones_of {vs : List Value} (h : ones vs = true) : ∀ v ∈ vs, v.oneCell' = true := ones_mem h
theorem storeCells_run {P : Program} {E : Env} {b off : Nat} {ty : TypeId} {fr : Nat × Nat} {X : List HP} : ∀ (vs : List Value) (i : Nat) (cs : List Value) (w : World), (∀ v ∈ vs, v.oneCell' = true) → off + i + vs.length ≤ cs.length → okFr fr cs.length →
    Heap E (HP.blk b (.cells (List.toArray cs) ty fr) :: X) w → ∃ w', (storeCells ⟨b, off, none⟩ vs i).run P w = .ok () w' ∧ Heap E (HP.blk b (.cells (List.toArray (put cs (off + i) vs)) ty fr) :: X) w'
  | [], _, _, w, _, _, _, hx => ⟨w, rfl, hx⟩
  | v :: vs, i, cs, w, h1, hl, hf, hx => by
    simp only [List.length_cons] at hl
    have hb := (Kn.blk 0 (X := HP.blk b (.cells (List.toArray cs) ty fr) :: X) rfl).at hx
    have ho : off + i < cs.length := by omega
    have hx' : Heap E (HP.blk b (.cells (List.toArray (cs.set (off + i) v)) ty fr) :: X) (w.setCell ⟨b, off + i, none⟩ v) :=
      hx.upd rfl (setCell_at hb v) (fun k hk => setCell_else hk v)
    obtain ⟨w', hr, hh⟩ := storeCells_run (P := P) (off := off) vs (i + 1) (cs.set (off + i) v) _ (fun u hu => h1 u (List.mem_cons_of_mem _ hu)) (by simp; omega) (by simpa using hf) hx'
    refine ⟨w', ?_, by rw [put]; exact hh⟩
    simp only [storeCells, Addr.add_lit]
    have := run_store_one (P := P) (m := .plain) (a := ⟨b, off + i, none⟩) (k := storeCells ⟨b, off, none⟩ vs (i + 1)) (w := w) (h1 v (List.mem_cons_self ..)) (u := cs[off + i]) (by rw [cell_of hb]; simp [ho]) (frozen_of hb (by simpa using ho) (by simpa using hf))
    rw [← hr, ← this]
    rfl
end Go.Sx
