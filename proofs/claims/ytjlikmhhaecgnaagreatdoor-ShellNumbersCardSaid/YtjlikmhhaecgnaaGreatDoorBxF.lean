/- What comes first in a region of open order, worked out by bit masks. -/
import Derived.Test.YtjlikmhhaecgnaaGreatDoorBxC
namespace Go.Ax
set_option linter.unusedVariables false
open Go.Sx

noncomputable def bitB (m i : Nat) : Bool := Nat.beq (Nat.land (Nat.shiftRight m i) 1) 1
noncomputable def setB (m i : Nat) : Nat := Nat.lor m (Nat.shiftLeft 1 i)
theorem bitB_eq (m i : Nat) : bitB m i = m.testBit i := by
  have h : Nat.land (Nat.shiftRight m i) 1 = (m >>> i) % 2 := Nat.and_one_is_mod (m >>> i)
  unfold bitB
  rw [h, Nat.testBit_eq_decide_div_mod_eq, Nat.shiftRight_eq_div_pow]
  rcases Nat.mod_two_eq_zero_or_one (m / 2 ^ i) with h | h <;> rw [h] <;> rfl
theorem setB_bit (m i j : Nat) : (setB m i).testBit j = (m.testBit j || decide (i = j)) := by
  have h : setB m i = m ||| 1 <<< i := rfl
  rw [h, Nat.testBit_or, Nat.one_shiftLeft, Nat.testBit_two_pow]
noncomputable def subB (a b : Nat) : Bool := Nat.beq (Nat.land a b) a
theorem subB_iff {a b : Nat} : subB a b = true ↔ ∀ j, a.testBit j = true → b.testBit j = true := by
  have h : Nat.land a b = a &&& b := rfl
  unfold subB
  rw [h]
  constructor
  · intro he j hj
    have := beq_eq he
    rw [← this, Nat.testBit_and] at hj
    simp only [Bool.and_eq_true] at hj
    exact hj.2
  · intro hj
    have : a &&& b = a := Nat.eq_of_testBit_eq fun j => by
      rw [Nat.testBit_and]
      cases ha : a.testBit j with
      | false => rfl
      | true => rw [hj j ha]; rfl
    rw [this]; exact Nat.beq_refl a
noncomputable def meetB (a b : Nat) : Bool := Bool.rec true false (Nat.beq (Nat.land a b) 0)
theorem meetB_iff {a b : Nat} : meetB a b = true ↔ ∃ j, a.testBit j = true ∧ b.testBit j = true := by
  have h : Nat.land a b = a &&& b := rfl
  unfold meetB
  rw [h]
  cases hb : Nat.beq (a &&& b) 0 with
  | true =>
    have := beq_eq hb
    constructor
    · intro h; cases h
    · rintro ⟨j, h1, h2⟩
      have h3 : (a &&& b).testBit j = true := by rw [Nat.testBit_and, h1, h2]; rfl
      rw [this, Nat.zero_testBit] at h3; cases h3
  | false =>
    refine ⟨fun _ => ?_, fun _ => rfl⟩
    obtain ⟨j, hj⟩ := Nat.exists_testBit_of_ne_zero (beq_ff hb)
    rw [Nat.testBit_and, Bool.and_eq_true] at hj
    exact ⟨j, hj⟩

noncomputable def filB {α : Type} (p : α → Bool) (l : List α) : List α := List.rec [] (fun a _ ih => Bool.rec ih (a :: ih) (p a)) l
theorem filB_eq {α : Type} (p : α → Bool) (l : List α) : filB p l = l.filter p := by
  induction l with
  | nil => rfl
  | cons a l ih =>
    have e : filB p (a :: l) = Bool.rec (filB p l) (a :: filB p l) (p a) := rfl
    rw [e, ih, List.filter_cons]
    cases p a <;> rfl
noncomputable def allE {α : Type} (p : α → Bool) (l : List α) : Bool := List.rec true (fun a _ ih => Bool.rec false ih (p a)) l
theorem allE_iff {α : Type} {p : α → Bool} {l : List α} : allE p l = true ↔ ∀ a ∈ l, p a = true := by
  induction l with
  | nil => exact ⟨fun _ a h => (by cases h), fun _ => rfl⟩
  | cons a l ih =>
    have e : allE p (a :: l) = Bool.rec false (allE p l) (p a) := rfl
    rw [e]
    cases h : p a with
    | false => exact ⟨fun h => (by cases h), fun hh => (by rw [hh a (List.mem_cons_self ..)] at h; cases h)⟩
    | true =>
      refine ⟨fun hh b hb => ?_, fun hh => ih.2 fun b hb => hh b (List.mem_cons_of_mem _ hb)⟩
      rcases List.mem_cons.1 hb with rfl | hb
      · exact h
      · exact ih.1 hh b hb
noncomputable def anyE {α : Type} (p : α → Bool) (l : List α) : Bool := List.rec false (fun a _ ih => Bool.rec ih true (p a)) l
theorem anyE_iff {α : Type} {p : α → Bool} {l : List α} : anyE p l = true ↔ ∃ a ∈ l, p a = true := by
  induction l with
  | nil => exact ⟨fun h => (by cases h), fun ⟨a, h, _⟩ => by cases h⟩
  | cons a l ih =>
    have e : anyE p (a :: l) = Bool.rec (anyE p l) true (p a) := rfl
    rw [e]
    cases h : p a with
    | true => exact ⟨fun _ => ⟨a, List.mem_cons_self .., h⟩, fun _ => rfl⟩
    | false =>
      refine ⟨fun hh => ?_, fun ⟨b, hb, hp⟩ => ?_⟩
      · obtain ⟨b, hb, hp⟩ := ih.1 hh
        exact ⟨b, List.mem_cons_of_mem _ hb, hp⟩
      · rcases List.mem_cons.1 hb with rfl | hb
        · rw [h] at hp; cases hp
        · exact ih.2 ⟨b, hb, hp⟩

/-- An operation, its place, what it waits for. -/
structure En where
  i : Nat
  dep : Nat
  o : Oper
noncomputable def depL (l : List Edge) : Nat := List.rec 0 (fun e _ ih => Bool.rec ih (setB ih e.on) (Region.binds .any e)) l
theorem depL_bit (l : List Edge) (j : Nat) : (depL l).testBit j = true ↔ ∃ e ∈ l, Region.binds .any e = true ∧ e.on = j := by
  induction l with
  | nil =>
    have e0 : depL [] = 0 := rfl
    rw [e0, Nat.zero_testBit]
    exact ⟨fun h => absurd h (by decide), fun ⟨e, h, _⟩ => absurd h (by simp)⟩
  | cons e l ih =>
    have he : depL (e :: l) = Bool.rec (depL l) (setB (depL l) e.on) (Region.binds .any e) := rfl
    rw [he]
    cases hb : Region.binds .any e with
    | false =>
      refine ih.trans ⟨fun ⟨x, hx, h⟩ => ⟨x, List.mem_cons_of_mem _ hx, h⟩, fun ⟨x, hx, h⟩ => ?_⟩
      rcases List.mem_cons.1 hx with rfl | hx
      · rw [hb] at h; cases h.1
      · exact ⟨x, hx, h⟩
    | true =>
      show (setB (depL l) e.on).testBit j = true ↔ _
      rw [setB_bit, Bool.or_eq_true, ih, decide_eq_true_iff]
      constructor
      · rintro (⟨x, hx, h⟩ | h)
        · exact ⟨x, List.mem_cons_of_mem _ hx, h⟩
        · exact ⟨e, List.mem_cons_self .., hb, h⟩
      · rintro ⟨x, hx, h⟩
        rcases List.mem_cons.1 hx with rfl | hx
        · exact .inr h.2
        · exact .inl ⟨x, hx, h⟩
noncomputable def mkE (i : Nat) (o : Oper) : En := ⟨i, depL o.after.toList, o⟩
noncomputable def enL (l : List Oper) : Nat → List En := List.rec (fun _ => []) (fun o _ ih i => mkE i o :: ih (Nat.succ i)) l
theorem enL_mem (l : List Oper) : ∀ i e, e ∈ enL l i ↔ ∃ j o, l[j]? = some o ∧ e = mkE (i + j) o := by
  induction l with
  | nil => intro i e; exact ⟨fun h => (by cases h), fun ⟨j, o, h, _⟩ => by simp at h⟩
  | cons o l ih =>
    intro i e
    show e ∈ mkE i o :: enL l (i + 1) ↔ _
    rw [List.mem_cons, ih]
    constructor
    · rintro (h | ⟨j, o', h, h2⟩)
      · exact ⟨0, o, rfl, h⟩
      · exact ⟨j + 1, o', by simpa using h, by rw [h2]; congr 1; omega⟩
    · rintro ⟨j, o', h, h2⟩
      cases j with
      | zero => simp at h; subst h; exact .inl h2
      | succ j => exact .inr ⟨j, o', by simpa using h, by rw [h2]; congr 1; omega⟩
theorem enL_filter (ops : Array Oper) (q : En → Bool) (p : Nat → Bool) (h : ∀ j o, ops[j]? = some o → q (mkE j o) = p j) : (filB q (enL ops.toList 0)).map En.i = (List.range ops.size).filter p := by
  have key : ∀ (l : List Oper) (i : Nat), (∀ j o, l[j]? = some o → q (mkE (i + j) o) = p (i + j)) → (filB q (enL l i)).map En.i = (List.range' i l.length).filter p := by
    intro l
    induction l with
    | nil => intro i _; rfl
    | cons o l ih =>
      intro i hh
      have e0 := hh 0 o rfl
      have e1 := ih (i + 1) fun j o' hj => by
        have := hh (j + 1) o' (by simpa using hj)
        rwa [show i + 1 + j = i + (j + 1) by omega]
      have e2 : enL (o :: l) i = mkE i o :: enL l (i + 1) := rfl
      rw [filB_eq] at e1 ⊢
      rw [e2, List.filter_cons, List.length_cons, List.range'_succ, List.filter_cons]
      rw [Nat.add_zero] at e0
      rw [e0]
      cases p i with
      | false => exact e1
      | true => exact congrArg (i :: ·) e1
  rw [key ops.toList 0 fun j o hj => by rw [Nat.zero_add]; exact h j o (by simpa using hj), List.range_eq_range']
  rfl
/-! Temporaries are written once, and who looks at one waits for it. -/
structure SSA (ops : Array Oper) : Prop where
  uniq : ∀ (i j : Nat) (oi oj : Oper) (t : Nat), ops[i]? = some oi → ops[j]? = some oj → oi.dst = some t → oj.dst = some t → i = j
  look : ∀ (i : Nat) (oi : Oper) (j : Nat) (oj : Oper) (t : Nat), ops[i]? = some oi → ops[j]? = some oj → t ∈ Oper.looksAt ops oi → oj.dst = some t → ∃ e ∈ oi.after.toList, Region.binds .any e = true ∧ e.on = j
noncomputable def dstR (l : List En) : Option Nat := List.rec (some 0) (fun e _ ih => match ih with | none => none | some m => match e.o.dst with | none => some m | some t => Bool.rec (some (setB m t)) none (bitB m t)) l
theorem dstR_spec (l : List En) : ∀ m, dstR l = some m → (∀ e ∈ l, ∀ t, e.o.dst = some t → m.testBit t = true) ∧ l.Pairwise (fun a b => ∀ t, a.o.dst = some t → b.o.dst ≠ some t) := by
  induction l with
  | nil => intro m _; exact ⟨fun e h => absurd h (by simp), List.Pairwise.nil⟩
  | cons e l ih =>
    intro m h
    have h' : (match dstR l with | none => none | some m => match e.o.dst with | none => some m | some t => Bool.rec (some (setB m t)) none (bitB m t)) = some m := h
    cases hd : dstR l with
    | none => rw [hd] at h'; cases h'
    | some m1 =>
      rw [hd] at h'
      obtain ⟨i1, i2⟩ := ih m1 hd
      cases hx : e.o.dst with
      | none =>
        rw [hx] at h'
        cases h'
        refine ⟨fun b hb t ht => ?_, List.pairwise_cons.2 ⟨fun b hb t ht => ?_, i2⟩⟩
        · rcases List.mem_cons.1 hb with rfl | hb
          · rw [hx] at ht; cases ht
          · exact i1 b hb t ht
        · rw [hx] at ht; cases ht
      | some t0 =>
        rw [hx] at h'
        have h2 : (Bool.rec (some (setB m1 t0)) none (bitB m1 t0) : Option Nat) = some m := h'
        cases hbit : bitB m1 t0 with
        | true => rw [hbit] at h2; cases h2
        | false =>
          rw [hbit] at h2
          cases h2
          refine ⟨fun b hb t ht => ?_, List.pairwise_cons.2 ⟨fun b hb t ht hbt => ?_, i2⟩⟩
          · show (setB m1 t0).testBit t = true
            rw [setB_bit]
            rcases List.mem_cons.1 hb with rfl | hb
            · rw [hx] at ht; cases ht; simp
            · rw [i1 b hb t ht]; rfl
          · rw [hx] at ht; cases ht
            have := i1 b hb t0 hbt
            rw [bitB_eq, this] at hbit
            cases hbit
noncomputable def hasE (ops : Array Oper) (o : Oper) (t : Nat) : Bool := anyE (fun e => Bool.rec false (match lget ops.toList e.on with | some k => (match k.dst with | some d => Nat.beq d t | none => false) | none => false) (Region.binds .any e)) o.after.toList
noncomputable def ssaB (ops : Array Oper) (es : List En) : Bool := match dstR es with
  | none => false
  | some m => allE (fun e => allE (fun t => Bool.rec true (hasE ops e.o t) (bitB m t)) (Oper.looksAt ops e.o)) es
theorem ssaB_ok {ops : Array Oper} (h : ssaB ops (enL ops.toList 0) = true) : SSA ops := by
  unfold ssaB at h
  split at h
  · cases h
  · rename_i m hm
    obtain ⟨h1, h2⟩ := dstR_spec _ m hm
    have hmem : ∀ i o, ops[i]? = some o → mkE i o ∈ enL ops.toList 0 := fun i o ho => (enL_mem _ _ _).2 ⟨i, o, by simpa using ho, by rw [Nat.zero_add]⟩
    have uniq : ∀ (i j : Nat) (oi oj : Oper) (t : Nat), ops[i]? = some oi → ops[j]? = some oj → oi.dst = some t → oj.dst = some t → i = j := by
      have key : ∀ (l : List Oper) (k : Nat), (enL l k).Pairwise (fun a b => ∀ t, a.o.dst = some t → b.o.dst ≠ some t) → ∀ (i j : Nat) (oi oj : Oper) (t : Nat), l[i]? = some oi → l[j]? = some oj → oi.dst = some t → oj.dst = some t → i = j := by
        intro l
        induction l with
        | nil => intro k _ i j oi oj t hi; simp at hi
        | cons o l ih =>
          intro k hp i j oi oj t hi hj hti htj
          have hp' : (mkE k o :: enL l (k + 1)).Pairwise (fun a b => ∀ t, a.o.dst = some t → b.o.dst ≠ some t) := hp
          obtain ⟨p1, p2⟩ := List.pairwise_cons.1 hp'
          cases i with
          | zero =>
            cases j with
            | zero => rfl
            | succ j =>
              simp at hi hj
              subst hi
              exact absurd htj (p1 (mkE (k + 1 + j) oj) ((enL_mem _ _ _).2 ⟨j, oj, hj, rfl⟩) t hti)
          | succ i =>
            cases j with
            | zero =>
              simp at hi hj
              subst hj
              exact absurd hti (p1 (mkE (k + 1 + i) oi) ((enL_mem _ _ _).2 ⟨i, oi, hi, rfl⟩) t htj)
            | succ j => exact congrArg (· + 1) (ih (k + 1) p2 i j oi oj t (by simpa using hi) (by simpa using hj) hti htj)
      intro i j oi oj t hi hj
      exact key ops.toList 0 h2 i j oi oj t (by simpa using hi) (by simpa using hj)
    refine ⟨uniq, fun i oi j oj t hi hj ht htj => ?_⟩
    have h3 := allE_iff.1 (allE_iff.1 h _ (hmem i oi hi)) t ht
    have h4 : m.testBit t = true := h1 _ (hmem j oj hj) t htj
    rw [bitB_eq, h4] at h3
    obtain ⟨e, he, hb⟩ := anyE_iff.1 (show hasE ops oi t = true from h3)
    refine ⟨e, he, ?_⟩
    cases hbi : Region.binds .any e with
    | false => rw [hbi] at hb; cases hb
    | true =>
      rw [hbi] at hb
      have hb' : (match lget ops.toList e.on with | some k => (match k.dst with | some d => Nat.beq d t | none => false) | none => false) = true := hb
      rw [lget_eq] at hb'
      split at hb'
      · rename_i k hk
        split at hb'
        · rename_i d hd
          have := beq_eq hb'
          subst this
          exact ⟨rfl, uniq _ _ _ _ _ (by simpa using hk) hj hd htj⟩
        · cases hb'
      · cases hb'
theorem SSA.apart {ops : Array Oper} (hs : SSA ops) {L : Array Bool} {i : Nat} (hr : i ∈ Region.ready .any ops L) : Region.free .any ops L i = true := by
  obtain ⟨h0, o, ho, hall⟩ := mem_ready.1 hr
  unfold Region.free
  rw [ho]
  refine List.all_eq_true.2 fun j hj => ?_
  simp only [Bool.or_eq_true, beq_iff_eq]
  by_cases hji : j = i
  · exact .inl (.inl hji)
  cases hLj : L.getD j true with
  | true => exact .inl (.inr rfl)
  | false =>
  refine .inr ?_
  obtain ⟨hjs, hjf⟩ := getD_tf.1 hLj
  cases hoj : ops[j]? with
  | none => rfl
  | some oj =>
    simp only
    rw [Bool.or_eq_true]
    by_cases hedge : (oj.after.any fun e => Region.binds .any e && e.on == i) = true
    · exact .inl hedge
    refine .inr ?_
    have noEdge : ¬ ∃ e ∈ oj.after.toList, Region.binds .any e = true ∧ e.on = i := by
      rintro ⟨e, he, hb, rfl⟩
      exact hedge (Array.any_eq_true'.2 ⟨e, by simpa using he, by simp [hb]⟩)
    have noBack : ¬ ∃ e ∈ o.after.toList, Region.binds .any e = true ∧ e.on = j := by
      rintro ⟨e, he, hb, rfl⟩
      have := hall e (by simpa using he) hb
      rw [hjf] at this; cases this
    unfold Oper.apart
    simp only [Bool.and_eq_true]
    constructor
    · split
      · rename_i d hd
        simp only [Bool.and_eq_true, Bool.not_eq_true', bne_iff_ne, ne_eq]
        constructor
        · cases hc : (Oper.looksAt ops oj).contains d with
          | false => rfl
          | true => exact absurd (hs.look j oj i o d hoj ho (by simpa using hc) hd) noEdge
        · intro hd2
          exact hji (hs.uniq j i oj o d hoj ho hd2 hd)
      · rfl
    · split
      · rename_i d hd
        cases hc : (Oper.looksAt ops o).contains d with
        | false => rfl
        | true => exact absurd (hs.look i o j oj d ho hoj (by simpa using hc) hd) noBack
      · rfl
theorem SSA.sep {P : Program} {ops : Array Oper} (hs : SSA ops) {L : Array Bool} {i : Nat} {o : Oper} (ho : ops[i]? = some o) (hr : i ∈ Region.ready .any ops L) : sepB P ops L o i = true := by
  obtain ⟨h0, o', ho', hall⟩ := mem_ready.1 hr
  rw [ho] at ho'
  cases ho'
  unfold sepB
  refine List.all_eq_true.2 fun j hj => ?_
  rw [Bool.or_eq_true, Bool.or_eq_true]
  by_cases hji : j = i
  · exact .inl (.inl (by rw [hji]; exact Nat.beq_refl i))
  cases hLj : L.getD j false with
  | true => exact .inl (.inr rfl)
  | false =>
  refine .inr ?_
  cases hoj : ops[j]? with
  | none => rfl
  | some oj =>
    simp only
    rw [Bool.or_eq_true]
    refine .inr ?_
    cases ht : oj.dst with
    | none => rfl
    | some t =>
      simp only [Bool.not_eq_true']
      have noBack : ¬ ∃ e ∈ o.after.toList, Region.binds .any e = true ∧ e.on = j := by
        rintro ⟨e, he, hb, rfl⟩
        have := hall e (by simpa using he) hb
        rw [hLj] at this; cases this
      have noLook : t ∉ Oper.looksAt ops o := fun hm => noBack (hs.look i o j oj t ho hoj hm ht)
      cases hu : usesB ops o t with
      | false => rfl
      | true =>
        unfold usesB at hu
        rw [Bool.or_eq_true, Bool.or_eq_true] at hu
        rcases hu with (hu | hu) | hu
        · obtain ⟨x, hx, hb⟩ := Array.any_eq_true'.1 hu
          split at hb
          · rename_i u
            refine absurd ?_ noLook
            unfold Oper.looksAt
            refine List.mem_append.2 (.inl (List.mem_filterMap.2 ⟨_, by simpa using hx, ?_⟩))
            rw [← beq_eq hb]
          · cases hb
        · split at hu
          · rename_i d hd
            exact absurd (hs.uniq j i oj o t hoj ho ht (by rw [hd, beq_eq hu])) hji
          · cases hu
        · refine absurd ?_ noLook
          unfold Oper.looksAt
          refine List.mem_append.2 (.inr ?_)
          split at hu
          · rename_i g b hg
            split at hu
            · rename_i d hd
              simp only [hg]
              rw [hd, beq_eq hu]
              simp
            · cases hu
          · cases hu
end Go.Ax
