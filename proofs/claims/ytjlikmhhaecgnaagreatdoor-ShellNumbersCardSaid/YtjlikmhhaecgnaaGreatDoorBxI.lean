/- The plan by bit masks is the plan by lists. -/
import Derived.Test.YtjlikmhhaecgnaaGreatDoorBxH
namespace Go.Ax
set_option linter.unusedVariables false
open Go.Sx
section
variable {P : Program} {n : Nat} {ops : Array Oper}
theorem firstE_eq {α : Type} {g : En → Option α} {g' : Nat → Option α} : ∀ {l : List En}, (∀ e ∈ l, g e = g' e.i) → firstA g' (l.map En.i) = (firstE g l).map (fun p => (p.1.i, p.2))
  | [], _ => rfl
  | e :: l, h => by
    have h1 : firstA g' ((e :: l).map En.i) = (match g' e.i with | some x => some (e.i, x) | none => firstA g' (l.map En.i)) := rfl
    have h2 : firstE g (e :: l) = (match g e with | some x => some (e, x) | none => firstE g l) := rfl
    rw [h1, h2, h e (List.mem_cons_self ..)]
    cases g' e.i with
    | some x => rfl
    | none => exact firstE_eq fun e he => h e (List.mem_cons_of_mem _ he)
theorem firstE_mem {α : Type} {g : En → Option α} : ∀ {l : List En} {e : En} {x : α}, firstE g l = some (e, x) → e ∈ l
  | [], _, _, h => by cases h
  | e :: l, e', x, h => by
    have h2 : (match g e with | some x => some (e, x) | none => firstE g l) = some (e', x) := h
    split at h2
    · cases h2; exact List.mem_cons_self ..
    · exact List.mem_cons_of_mem _ (firstE_mem h2)
theorem pickM_mem {l : List En} {e : En} (h : pickM P l = some e) : e ∈ l := by
  unfold pickM at h
  rw [filB_eq] at h
  split at h
  · exact List.mem_of_mem_head? (by rw [h]; rfl)
  · rename_i e' he
    cases h
    exact (List.mem_filter.1 (by rw [he]; exact List.mem_singleton.2 rfl : e ∈ l.filter (fun e => !flP P e.o))).1
  · cases h
theorem pickM_eq {l : List En} (h : ∀ e ∈ l, ops[e.i]? = some e.o) : pickB P ops (l.map En.i) = (pickM P l).map En.i := by
  unfold pickB pickM
  rw [filB_eq, List.filter_map]
  have : l.filter ((fun i => !flI P ops i) ∘ En.i) = l.filter (fun e => !flP P e.o) := List.filter_congr fun e he => by
    show (!flI P ops e.i) = _
    unfold flI
    rw [h e he]
  rw [this]
  cases l.filter (fun e => !flP P e.o) with
  | nil => cases l <;> rfl
  | cons a t => cases t <;> rfl
theorem revE_eq (l : List En) : ∀ acc, revE l acc = l.reverse ++ acc := by
  induction l with
  | nil => intro acc; rfl
  | cons a l ih =>
    intro acc
    have e : revE (a :: l) acc = revE l (a :: acc) := rfl
    rw [e, ih]
    simp
/-- One step back. -/
noncomputable def behF (ops : Array Oper) (L : Array Bool) (i : Nat) (S : List Nat) (m : Nat) : List Nat := bif !L.getD m false && (match ops[m]? with | some om => om.after.any fun e => Region.binds .any e && (Nat.beq e.on i || S.contains e.on) | none => false) then m :: S else S
theorem behR_eq {m : Nat} {L : Array Bool} (h : Rel ops m L) (i : Nat) : (behR m (enL ops.toList 0) [] (setB 0 i)).map En.i = behindL ops L i := by
  have key : ∀ (l : List Oper) (k : Nat) (S : List En) (Sm : Nat), (∀ j o, l[j]? = some o → ops[k + j]? = some o) → (∀ q, Sm.testBit q = true ↔ q = i ∨ q ∈ S.map En.i) →
      (behR m (enL l k) S Sm).map En.i = (List.range' k l.length).foldl (behF ops L i) (S.map En.i) := by
    intro l
    induction l with
    | nil => intro k S Sm _ _; rfl
    | cons o l ih =>
      intro k S Sm hops hS
      have e0 : behR m (enL (o :: l) k) S Sm = Bool.rec (behR m (enL l (k + 1)) S Sm) (behR m (enL l (k + 1)) (mkE k o :: S) (setB Sm k)) (Bool.rec (meetB (depL o.after.toList) Sm) false (bitB m k)) := rfl
      have h0 : ops[k]? = some o := hops 0 o rfl
      have hops' : ∀ j o', l[j]? = some o' → ops[k + 1 + j]? = some o' := fun j o' hj => by
        have := hops (j + 1) o' (by simpa using hj)
        rwa [show k + 1 + j = k + (j + 1) by omega]
      have hc : (Bool.rec (meetB (depL o.after.toList) Sm) false (bitB m k) : Bool) = (!L.getD k false && (match ops[k]? with | some om => om.after.any fun e => Region.binds .any e && (Nat.beq e.on i || (S.map En.i).contains e.on) | none => false)) := by
        rw [bitB_eq, h.2 k, h0]
        cases L.getD k false with
        | true => rfl
        | false =>
          refine bex (meetB_iff.trans ?_)
          simp only [Bool.not_false, Bool.true_and]
          rw [Array.any_eq_true']
          constructor
          · rintro ⟨j, h1, h2⟩
            obtain ⟨e, he, hb, rfl⟩ := (depL_bit _ _).1 h1
            refine ⟨e, by simpa using he, ?_⟩
            rw [hb, Bool.true_and, Bool.or_eq_true]
            rcases (hS _).1 h2 with h | h
            · left; rw [h]; exact Nat.beq_refl i
            · right; simpa using h
          · rintro ⟨e, he, hh⟩
            rw [Bool.and_eq_true, Bool.or_eq_true] at hh
            refine ⟨e.on, (depL_bit _ _).2 ⟨e, by simpa using he, hh.1, rfl⟩, (hS _).2 ?_⟩
            rcases hh.2 with h | h
            · exact .inl (beq_eq h)
            · exact .inr (by simpa using h)
      rw [List.length_cons, List.range'_succ, List.foldl_cons, e0, hc]
      unfold behF
      cases (!L.getD k false && (match ops[k]? with | some om => om.after.any fun e => Region.binds .any e && (Nat.beq e.on i || (S.map En.i).contains e.on) | none => false)) with
      | false => exact ih (k + 1) S Sm hops' hS
      | true =>
        refine (ih (k + 1) (mkE k o :: S) (setB Sm k) hops' fun q => ?_)
        rw [setB_bit, Bool.or_eq_true, hS q, decide_eq_true_iff, List.map_cons, List.mem_cons]
        have : (mkE k o).i = k := rfl
        rw [this]
        constructor
        · rintro ((h | h) | h)
          · exact .inl h
          · exact .inr (.inr h)
          · exact .inr (.inl h.symm)
        · rintro (h | h | h)
          · exact .inl (.inl h)
          · exact .inr h.symm
          · exact .inl (.inr h)
  have := key ops.toList 0 [] (setB 0 i) (fun j o hj => by rw [Nat.zero_add]; simpa using hj) fun q => by
    rw [setB_bit, Nat.zero_testBit]
    simp [eq_comm]
  rw [this, behindL, List.range_eq_range']
  rfl
theorem behR_ops {m : Nat} (l : List Oper) : ∀ (k : Nat) (S : List En) (Sm : Nat), (∀ j o, l[j]? = some o → ops[k + j]? = some o) → (∀ e ∈ S, ops[e.i]? = some e.o) → ∀ e ∈ behR m (enL l k) S Sm, ops[e.i]? = some e.o := by
  induction l with
  | nil => intro k S Sm _ hS; exact hS
  | cons o l ih =>
    intro k S Sm hops hS
    have e0 : behR m (enL (o :: l) k) S Sm = Bool.rec (behR m (enL l (k + 1)) S Sm) (behR m (enL l (k + 1)) (mkE k o :: S) (setB Sm k)) (Bool.rec (meetB (depL o.after.toList) Sm) false (bitB m k)) := rfl
    have h0 : ops[k]? = some o := hops 0 o rfl
    have hops' : ∀ j o', l[j]? = some o' → ops[k + 1 + j]? = some o' := fun j o' hj => by
      have := hops (j + 1) o' (by simpa using hj)
      rwa [show k + 1 + j = k + (j + 1) by omega]
    rw [e0]
    cases (Bool.rec (meetB (depL o.after.toList) Sm) false (bitB m k) : Bool) with
    | false => exact ih (k + 1) S Sm hops' hS
    | true =>
      refine ih (k + 1) (mkE k o :: S) (setB Sm k) hops' fun e he => ?_
      rcases List.mem_cons.1 he with rfl | he
      · exact h0
      · exact hS e he
theorem untM_eq {m : Nat} {L : Array Bool} (h : Rel ops m L) (i : Nat) : untM ops.size (behR m (enL ops.toList 0) [] (setB 0 i)) = untilB ops (behindL ops L i) := by
  have hops := behR_ops (ops := ops) (m := m) ops.toList 0 [] (setB 0 i) (fun j o hj => by rw [Nat.zero_add]; simpa using hj) (fun e he => absurd he (by simp))
  rw [← behR_eq h i]
  generalize behR m (enL ops.toList 0) [] (setB 0 i) = S at hops
  unfold untM untilB
  rw [revE_eq, List.append_nil, ← List.map_reverse]
  have hops' : ∀ e ∈ S.reverse, ops[e.i]? = some e.o := fun e he => hops e (List.mem_reverse.1 he)
  generalize S.reverse = T at hops'
  induction T with
  | nil => rfl
  | cons e T ih =>
    have e0 : untR ops.size (e :: T) = Bool.rec (untR ops.size T) e.i (isEff e.o) := rfl
    rw [e0, List.map_cons, List.find?_cons, hops' e (List.mem_cons_self ..)]
    cases hE : isEff e.o with
    | true => simp only [hE]
    | false => simp only [hE]; exact ih fun e he => hops' e (List.mem_cons_of_mem _ he)
theorem okBehind_true (ops : Array Oper) (L : Array Bool) (i : Nat) : okBehind ops L i (untilB ops (behindL ops L i)) (behindL ops L i) = true := by
  have inv : ∀ (l : List Nat) (S : List Nat), (∀ m ∈ S, (!L.getD m false && (match ops[m]? with | some om => om.after.any fun e => Region.binds .any e && (Nat.beq e.on i || S.contains e.on) | none => true)) = true) →
      ∀ m ∈ l.foldl (behF ops L i) S, (!L.getD m false && (match ops[m]? with | some om => om.after.any fun e => Region.binds .any e && (Nat.beq e.on i || (l.foldl (behF ops L i) S).contains e.on) | none => true)) = true := by
    intro l
    induction l with
    | nil => intro S hS; exact hS
    | cons k l ih =>
      intro S hS
      rw [List.foldl_cons]
      refine ih _ ?_
      unfold behF
      cases hc : (!L.getD k false && (match ops[k]? with | some om => om.after.any fun e => Region.binds .any e && (Nat.beq e.on i || S.contains e.on) | none => false)) with
      | false => exact hS
      | true =>
        intro m hm
        have old : ∀ om : Oper, (om.after.any fun e => Region.binds .any e && (Nat.beq e.on i || S.contains e.on)) = true → (om.after.any fun e => Region.binds .any e && (Nat.beq e.on i || (k :: S).contains e.on)) = true := by
          intro om h
          obtain ⟨e, he, hh⟩ := Array.any_eq_true'.1 h
          refine Array.any_eq_true'.2 ⟨e, he, ?_⟩
          rw [Bool.and_eq_true, Bool.or_eq_true] at hh ⊢
          refine ⟨hh.1, hh.2.imp id fun h => ?_⟩
          rw [List.contains_cons, h, Bool.or_true]
        show (!L.getD m false && (match ops[m]? with | some om => om.after.any fun e => Region.binds .any e && (Nat.beq e.on i || (k :: S).contains e.on) | none => true)) = true
        rcases List.mem_cons.1 hm with rfl | hm
        · rw [Bool.and_eq_true] at hc ⊢
          refine ⟨hc.1, ?_⟩
          have h2 := hc.2
          split at h2
          · rename_i om hom
            exact old om h2
          · cases h2
        · have := hS m hm
          rw [Bool.and_eq_true] at this ⊢
          refine ⟨this.1, ?_⟩
          have h2 := this.2
          split at h2
          · rename_i om hom
            exact old om h2
          · rfl
  have hb : behindL ops L i = (List.range ops.size).foldl (behF ops L i) [] := rfl
  unfold okBehind
  rw [Bool.or_eq_true, Bool.and_eq_true]
  unfold untilB
  cases hf : (behindL ops L i).reverse.find? (fun m => match ops[m]? with | some o => isEff o | none => false) with
  | none => left; rw [Nat.ble_eq]; exact Nat.le_refl _
  | some q =>
    right
    refine ⟨?_, ?_⟩
    · have := List.mem_of_find?_eq_some hf
      simpa using this
    · rw [hb]
      exact List.all_eq_true.2 (inv _ [] fun m hm => absurd hm (by simp))
theorem takeM_eq (hs : SSA ops) (hns : Region.noSelect ops = true) {m : Nat} {L : Array Bool} (h : Rel ops m L) {e : En} (he : ops[e.i]? = some e.o) (hr : e.i ∈ Region.ready .any ops L) : takeM P n ops (enL ops.toList 0) m e = takeB P n ops L e.i := by
  unfold takeB takeM
  rw [he]
  simp only [hns, hs.apart hr, hs.sep he hr, okBehind_true, untM_eq h, Bool.and_self, cond_true]
  rfl
theorem cplanM_eq (hs : SSA ops) (hns : Region.noSelect ops = true) (fuel : Nat) : ∀ (m : Nat) (L : Array Bool), Rel ops m L → cplanM P n ops (enL ops.toList 0) (flmR P (enL ops.toList 0)) fuel m = cplanF P n ops fuel L := by
  induction fuel with
  | zero =>
    intro m L h
    have e1 : cplanM P n ops (enL ops.toList 0) (flmR P (enL ops.toList 0)) 0 m = (match readyM (enL ops.toList 0) m with | [] => some [] | _ => none) := rfl
    have e2 : cplanF P n ops 0 L = (match Region.ready .any ops L with | [] => some [] | _ => none) := rfl
    rw [e1, e2, ← readyM_eq h]
    cases readyM (enL ops.toList 0) m <;> rfl
  | succ k ih =>
    intro m L h
    have e1 : cplanM P n ops (enL ops.toList 0) (flmR P (enL ops.toList 0)) (k + 1) m = (match readyM (enL ops.toList 0) m with
      | [] => some []
      | r :: rs => match firstE (takeM P n ops (enL ops.toList 0) m) (r :: rs) with
        | some (e, s) => (match cplanM P n ops (enL ops.toList 0) (flmR P (enL ops.toList 0)) k (setB m e.i) with | some l => some (relax l s :: l) | none => none)
        | none => match pickM P (r :: rs) with
          | some e => bif allE (fun k => Nat.beq k.i e.i) (readyM (enL ops.toList 0) (starM (flmR P (enL ops.toList 0)) m e.i)) then
              (match cplanM P n ops (enL ops.toList 0) (flmR P (enL ops.toList 0)) k (setB m e.i) with | some l => some (.o e.i (bitB (setB m e.i)) (cins P n ops e.o) :: l) | none => none)
            else none
          | none => none) := rfl
    have e2 : cplanF P n ops (k + 1) L = (match Region.ready .any ops L with
      | [] => some []
      | r :: rs => match firstA (takeB P n ops L) (r :: rs) with
        | some (i, s) => (match cplanF P n ops k (L.setIfInBounds i true) with | some l => some (relax l s :: l) | none => none)
        | none => match pickB P ops (r :: rs) with
          | some i => (match ops[i]? with
            | some o => bif (r :: rs).contains i && sepB P ops L o i && (Region.ready .any ops (starB P ops L i)).all (fun k => Nat.beq k i) then
                (match cplanF P n ops k (L.setIfInBounds i true) with | some l => some (.o i (lfA (L.setIfInBounds i true)) (cins P n ops o) :: l) | none => none)
              else none
            | none => none)
          | none => none) := rfl
    have hready := readyM_eq h
    have hmem : ∀ e ∈ readyM (enL ops.toList 0) m, ops[e.i]? = some e.o ∧ e.i ∈ Region.ready .any ops L := fun e he => ⟨(readyM_mem he).1, by rw [← hready]; exact List.mem_map_of_mem he⟩
    rw [e1, e2]
    cases hr : readyM (enL ops.toList 0) m with
    | nil => rw [hr] at hready; rw [← hready]; rfl
    | cons r rs =>
      rw [hr] at hmem
      rw [hr] at hready
      have hready' : Region.ready .any ops L = r.i :: rs.map En.i := hready.symm
      have hfirst : firstA (takeB P n ops L) (r.i :: rs.map En.i) = (firstE (takeM P n ops (enL ops.toList 0) m) (r :: rs)).map (fun p => (p.1.i, p.2)) :=
        firstE_eq (l := r :: rs) fun e he => takeM_eq hs hns h (hmem e he).1 (hmem e he).2
      have hpick : pickB P ops (r.i :: rs.map En.i) = (pickM P (r :: rs)).map En.i := pickM_eq (l := r :: rs) fun e he => (hmem e he).1
      rw [hready']
      simp only [hfirst, hpick]
      cases hf : firstE (takeM P n ops (enL ops.toList 0) m) (r :: rs) with
      | some p =>
        obtain ⟨e, s⟩ := p
        have := hmem e (firstE_mem hf)
        have hi : e.i < ops.size := (Array.getElem?_eq_some_iff.1 this.1).1
        simp only [Option.map_some]
        rw [ih _ _ (h.set hi)]
      | none =>
        simp only [Option.map_none]
        cases hp : pickM P (r :: rs) with
        | none => rfl
        | some e =>
          have hin := pickM_mem hp
          have hme := hmem e hin
          have hi : e.i < ops.size := (Array.getElem?_eq_some_iff.1 hme.1).1
          simp only [Option.map_some, hme.1]
          have hcon : (r.i :: rs.map En.i).contains e.i = true := by
            have : e.i ∈ (r :: rs).map En.i := List.mem_map_of_mem hin
            simpa using this
          have hstar : (Region.ready .any ops (starB P ops L e.i)).all (fun k => Nat.beq k e.i) = allE (fun k => Nat.beq k.i e.i) (readyM (enL ops.toList 0) (starM (flmR P (enL ops.toList 0)) m e.i)) := by
            rw [← readyM_eq (h.star (P := P) e.i)]
            refine bex ?_
            rw [allE_iff, List.all_eq_true]
            simp
          have hlf : bitB (setB m e.i) = lfA (L.setIfInBounds e.i true) := funext fun q => by rw [bitB_eq, (h.set hi).2 q]
          rw [hcon, hs.sep hme.1 hme.2, hstar, ih _ _ (h.set hi), hlf]
          rfl
noncomputable def cplanS (P : Program) (n : Nat) (ops : Array Oper) : Option (List Stp) :=
  bif Region.noSelect ops && ssaB ops (enL ops.toList 0) then cplanM P n ops (enL ops.toList 0) (flmR P (enL ops.toList 0)) ops.size 0 else cplan P n ops
theorem cplanS_eq (P : Program) (n : Nat) (ops : Array Oper) : cplanS P n ops = cplan P n ops := by
  unfold cplanS
  cases hc : (Region.noSelect ops && ssaB ops (enL ops.toList 0)) with
  | false => rfl
  | true =>
    rw [Bool.and_eq_true] at hc
    have hs := ssaB_ok hc.2
    rw [cond_true, cplanM_eq hs hc.1 ops.size 0 (Array.replicate ops.size false) ⟨by simp, fun q => by
      rw [Nat.zero_testBit]
      by_cases hq : q < ops.size <;> simp [Array.getD_eq_getD_getElem?, hq]⟩]
    unfold cplan
    have : flAll P ops = true := by
      unfold flAll
      rw [hc.1, Bool.true_and]
      refine List.all_eq_true.2 fun j hj => ?_
      cases ho : ops[j]? with
      | none => rfl
      | some o =>
        simp only
        cases hf : flP P o with
        | false => rfl
        | true =>
          have hlt : j < ops.size := (Array.getElem?_eq_some_iff.1 ho).1
          obtain ⟨mk, ob, hF⟩ := flP_spec hf
          rw [hs.sep ho (mem_ready.2 ⟨by simp [Array.getD_eq_getD_getElem?, hlt], o, ho, fun e he hb => by rw [hF.after e he] at hb; cases hb⟩)]
          rfl
    rw [this, cond_true]
end
end Go.Ax
