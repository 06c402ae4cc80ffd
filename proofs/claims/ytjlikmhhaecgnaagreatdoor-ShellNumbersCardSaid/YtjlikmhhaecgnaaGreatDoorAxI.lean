/- Regions whose order Go leaves open, under names. -/
import Derived.Test.YtjlikmhhaecgnaaGreatDoorAxH
namespace Go.Ax
set_option linter.unusedVariables false
open Go.Sx

noncomputable def veq (x y : V) : Bool :=
  match x, y with
  | .f a, .f b => valEq a b
  | .p i k o, .p i' k' o' => Nat.beq i i' && Nat.beq k k' && Nat.beq o o'
  | .m i, .m i' => Nat.beq i i'
  | .s i k o n b c sz, .s i' k' o' n' b' c' sz' => Nat.beq b b' && Nat.beq i i' && Nat.beq k k' && Nat.beq o o' && Nat.beq n n' && Nat.beq sz sz' && (match c, c' with | none, none => true | some a, some b => Nat.beq a b | _, _ => false)
  | _, _ => false
theorem veq_spec {x y : V} (h : veq x y = true) : x = y := by
  unfold veq at h
  split at h
  · rw [valEq_spec h]
  · simp only [Bool.and_eq_true] at h; rw [beq_eq h.1.1, beq_eq h.1.2, beq_eq h.2]
  · rw [beq_eq h]
  · simp only [Bool.and_eq_true] at h
    obtain ⟨⟨⟨⟨⟨⟨h0, h1⟩, h2⟩, h3⟩, h4⟩, h5⟩, h6⟩ := h
    rw [beq_eq h0, beq_eq h1, beq_eq h2, beq_eq h3, beq_eq h4, beq_eq h5]
    split at h6
    · rfl
    · rw [beq_eq h6]
    · cases h6
  · cases h
/-- Values of names that stand for one value alone. -/
noncomputable def det (x : V) : Bool :=
  match x with
  | .f _ | .p .. | .m _ => true
  | .s _ _ _ n _ _ sz => Nat.blt 0 n && Nat.blt 0 sz
  | _ => false
theorem det_one {ρ : Rho} {x : V} {u u' : Value} (hd : det x = true) (h : VR ρ x u) (h' : VR ρ x u') : u = u' := by
  cases x with
  | f v => rw [show u = v from h, show u' = v from h']
  | p i k off =>
    obtain ⟨r, h1, _, rfl⟩ := h
    obtain ⟨r', h1', _, rfl⟩ := h'
    rw [h1] at h1'; cases h1'; rfl
  | m i =>
    obtain ⟨r, h1, rfl⟩ := h
    obtain ⟨r', h1', rfl⟩ := h'
    rw [h1] at h1'; cases h1'; rfl
  | s i k off n bn c sz =>
    simp only [det, Bool.and_eq_true, Nat.blt_eq] at hd
    obtain ⟨r, ad, cap, h1, rfl, hc, hcc, hat, _, _⟩ := h
    obtain ⟨r', ad', cap', h1', rfl, hc', hcc', hat', _, _⟩ := h'
    rw [h1] at h1'; cases h1'
    rcases hat with h0 | ⟨_, rfl, _, _, hex, _⟩
    · omega
    rcases hat' with h0 | ⟨_, rfl, _, _, hex', _⟩
    · omega
    have : cap = cap' := by
      rcases hcc with hn | hn
      · have e1 := hex hn
        have e2 := hex' hn
        exact Nat.eq_of_mul_eq_mul_right hd.2 (by omega)
      · rcases hcc' with hn' | hn'
        · rw [hn] at hn'; cases hn'
        · rw [hn] at hn'; cases hn'; rfl
    rw [this]
  | _ => cases hd

/-! Orders. -/
section
variable {P : Program} {ops : Array Oper} {Q : Exit → Act → World → Prop} {md : Region.Mode}
/-- More may be held. -/
theorem HS.more {held held' : List (Addr × Value × Nat)} {listed : Array Bool} {w : World} (h : HS (held' ++ held) listed w) : HS held listed w := fun e he => h e (List.mem_append_right _ he)
theorem wpAnyU_more {held held' : List (Addr × Value × Nat)} : ∀ (fuel : Nat) (listed : Array Bool) (a : Act) (w : World), wpAnyU P md ops Q (held' ++ held) fuel listed a w → wpAnyU P md ops Q held fuel listed a w
  | 0, _, _, _, h => h
  | fuel + 1, _, _, _, h => ⟨h.1, fun i hi => wpOp_mono (fun a' w' h' => ⟨HS.more h'.1, wpAnyU_more fuel _ a' w' h'.2⟩) (h.2 i hi)⟩

/-- None of these comes up ahead of i. -/
def Behind (md : Region.Mode) (ops : Array Oper) (listed : Array Bool) (i q : Nat) : Prop :=
  ops.size ≤ q ∨ ∃ S : List Nat, q ∈ S ∧ (∀ m ∈ S, listed.getD m false = false) ∧ ∀ m ∈ S, ∀ om, ops[m]? = some om → ∃ e ∈ om.after, Region.binds md e = true ∧ (e.on = i ∨ e.on ∈ S)

theorem ready_after {i j : Nat} {listed : Array Bool} (hj : j ∈ Region.ready md ops listed) (hi : i ∈ Region.ready md ops listed) {oj : Oper} (hoj : ops[j]? = some oj) : ∀ e ∈ oj.after, Region.binds md e = true → e.on ≠ i := by
  obtain ⟨hjun, oj', hoj', hall⟩ := mem_ready.1 hj
  rw [hoj] at hoj'
  cases hoj'
  intro e he hb heq
  have h1 := hall e he hb
  have h0 := (mem_ready.1 hi).1
  rw [heq] at h1
  rcases Nat.lt_or_ge i listed.size with h' | h'
  · simp [h'] at h0 h1; rw [h0] at h1; cases h1
  · simp [Array.getElem?_eq_none h'] at h1

theorem wpAnyU_first2 {i : Nat} {oi : Oper} {v : Value} {held : List (Addr × Value × Nat)} {need : List (Addr × Value)} (hi : ops[i]? = some oi) (hsel : ∀ (j : Nat) (o : Oper) cs b, ops[j]? = some o → o.op ≠ .select cs b)
    (hQ : ∀ c a w, Q (.panic c) (a.put oi.dst v) w → Q (.panic c) a w) (hq : ∀ e ∈ held, e.2.2 ≠ i) :
    ∀ (fuel : Nat) (listed : Array Bool) (a : Act) (w : World),
      (∀ j oj, ops[j]? = some oj → j ≠ i → listed.getD j true = false → (∀ e ∈ oj.after, Region.binds md e = true → e.on ≠ i) → oi.apart ops oj = true) →
      i ∈ Region.ready md ops listed → YieldsIf P ops (fun w => ∀ p ∈ need, w.cell? p.1 = some p.2) oi v a → listed.size = ops.size →
      (∀ p ∈ need, ∃ q, (p.1, p.2, q) ∈ held ∧ Behind md ops listed i q) → HS held listed w →
      wpAnyU P md ops Q held fuel (listed.setIfInBounds i true) (a.put oi.dst v) w → wpAnyU P md ops Q held (fuel + 1) listed a w := by
  have un : ∀ {listed : Array Bool} {q : Nat}, listed.size = ops.size → Behind md ops listed i q → listed.getD q false = false := by
    intro listed q hs hb
    rcases hb with h | ⟨S, hm, hu, _⟩
    · simp [Array.getD_eq_getD_getElem?, Array.getElem?_eq_none (show listed.size ≤ q by omega)]
    · exact hu q hm
  intro fuel
  induction fuel with
  | zero =>
    intro listed a w _ hr hy hsz hn hS H
    refine ⟨fun h => (by rw [h] at hr; cases hr), fun j hj => ?_⟩
    by_cases hji : j = i
    · subst hji
      exact hy.wpOp hi (fun p hp => by obtain ⟨q, h1, h2⟩ := hn p hp; exact hS _ h1 (un hsz h2)) ⟨(HS.set hq).2 hS, H⟩
    · have := ready_mono hj hji
      rw [H.1] at this
      cases this
  | succ fuel ih =>
    intro listed a w hfree hr hy hsz hn hS H
    refine ⟨fun h => (by rw [h] at hr; cases hr), fun j hj => ?_⟩
    by_cases hji : j = i
    · subst hji
      exact hy.wpOp hi (fun p hp => by obtain ⟨q, h1, h2⟩ := hn p hp; exact hS _ h1 (un hsz h2)) ⟨(HS.set hq).2 hS, H⟩
    · have h1 := H.2 j (ready_mono hj hji)
      obtain ⟨hjun, oj, hoj, hall⟩ := mem_ready.1 hj
      have hnot := ready_after hj hr hoj
      have h2 := wpOp_putIf hoj (hfree j oj hoj hji hjun hnot) (fun cs b => hsel i oi cs b hi) (fun cs b => hsel j oj cs b hoj) hQ hy h1
      have hfree' : ∀ k ok, ops[k]? = some ok → k ≠ i → (listed.setIfInBounds j true).getD k true = false →
          (∀ e ∈ ok.after, Region.binds md e = true → e.on ≠ i) → oi.apart ops ok = true := fun k ok hk hki hun hno => by
        refine hfree k ok hk hki ?_ hno
        by_cases hjk : j = k
        · subst hjk; exact hjun
        · rw [getD_set_ne true hjk] at hun; exact hun
      have hn' : ∀ p ∈ need, ∃ q, (p.1, p.2, q) ∈ held ∧ Behind md ops (listed.setIfInBounds j true) i q := fun p hp => by
        obtain ⟨q, h1, h2⟩ := hn p hp
        refine ⟨q, h1, ?_⟩
        rcases h2 with h2 | ⟨S, hm, hu, he⟩
        · exact .inl h2
        · refine .inr ⟨S, hm, fun m hmS => ?_, he⟩
          by_cases hjm : j = m
          · subst hjm
            exfalso
            obtain ⟨e, hea, heb, hon⟩ := he j hmS oj hoj
            rcases hon with hon | hon
            · exact hnot e hea heb hon
            · have := hall e hea heb
              rw [hu _ hon] at this
              cases this
          · rw [getD_set_ne false hjm]; exact hu m hmS
      refine wpOp_mono (fun a' w' h3 => ?_) h2
      have hS' : HS held (listed.setIfInBounds j true) w' := by
        have := h3.2.1
        rw [Array.setIfInBounds_comm _ _ (Ne.symm hji)] at this
        exact (HS.set hq).1 this
      refine ⟨hS', ih (listed.setIfInBounds j true) a' w' hfree' (ready_mono hr (Ne.symm hji)) h3.1 (by simpa using hsz) hn' hS' ?_⟩
      rw [Array.setIfInBounds_comm _ _ hji]
      exact h3.2.2
end

/-! The run. -/
structure Hd where
  i : Nat
  k : Nat
  off : Nat
  v : V
  q : Nat
def HdR (ρ : Rho) (d : Hd) (e : Addr × Value × Nat) : Prop := ∃ r, ρ d.i d.k = some r ∧ r.lo ≤ d.off ∧ e.1 = r.at d.off ∧ VR ρ d.v e.2.1 ∧ e.2.2 = d.q ∧ det d.v = true
def HdsR (ρ : Rho) : List Hd → List (Addr × Value × Nat) → Prop
  | [], es => es = []
  | d :: ds, es => ∃ e es', es = e :: es' ∧ HdR ρ d e ∧ HdsR ρ ds es'
theorem HdsR.mono {ρ ρ' : Rho} (h : ρ.le ρ') : ∀ {ds : List Hd} {es : List (Addr × Value × Nat)}, HdsR ρ ds es → HdsR ρ' ds es
  | [], _, e => e
  | _ :: _, _, ⟨e, es, h1, ⟨r, a, b, c, d, g⟩, h3⟩ => ⟨e, es, h1, ⟨r, h _ _ _ a, b, c, d.mono h, g⟩, h3.mono h⟩
theorem HdsR.append {ρ : Rho} : ∀ {ds : List Hd} {es : List (Addr × Value × Nat)} {ds' : List Hd} {es' : List (Addr × Value × Nat)}, HdsR ρ ds es → HdsR ρ ds' es' → HdsR ρ (ds ++ ds') (es ++ es')
  | [], _, _, _, e, h => by rw [e]; exact h
  | _ :: _, _, _, _, ⟨e, es, h1, h2, h3⟩, h => by subst h1; exact ⟨e, _, rfl, h2, HdsR.append h3 h⟩
theorem HdsR.mem {ρ : Rho} : ∀ {ds : List Hd} {es : List (Addr × Value × Nat)}, HdsR ρ ds es → ∀ e ∈ es, ∃ d ∈ ds, HdR ρ d e
  | [], _, e, x, hx => by rw [e] at hx; cases hx
  | d :: ds, _, ⟨e, es, h1, h2, h3⟩, x, hx => by
    subst h1
    rcases List.mem_cons.1 hx with rfl | hx
    · exact ⟨d, List.mem_cons_self .., h2⟩
    · obtain ⟨d', hd, hr⟩ := HdsR.mem h3 x hx
      exact ⟨d', List.mem_cons_of_mem _ hd, hr⟩
noncomputable def hdOK (h : H) (listed : Array Bool) (d : Hd) : Bool :=
  listed.getD d.q false ||
  (match h.get d.i with
  | some (.c cells ver _) => Nat.beq d.k ver && (match lget cells d.off with | some v => veq v d.v | none => false)
  | _ => false)
theorem heldOK_spec {Z : Base} {ρ : Rho} {h : H} {w : World} {listed : Array Bool} {ds : List Hd} {es : List (Addr × Value × Nat)} (hh : HR Z ρ h w) (hr : HdsR ρ ds es) (hk : allB (hdOK h listed) ds = true) : HS es listed w := by
  intro e he hl
  obtain ⟨d, hd, r, h1, h2, h3, h4, h5, h6⟩ := hr.mem e he
  have := allB_mem hk d hd
  unfold hdOK at this
  rw [h5] at hl
  rw [hl] at this
  simp only [Bool.false_or] at this
  split at this
  · rename_i cells ver min ho
    simp only [Bool.and_eq_true] at this
    obtain ⟨hkv, hv⟩ := this
    split at hv
    · rename_i v hget
      have e1 := beq_eq hkv
      have e2 := veq_spec hv
      subst e2
      rw [lget_eq] at hget
      have hmv := (hh.obj _ _ ho).1
      rw [e1] at h1
      obtain ⟨r', hr', hver⟩ := (hh.obj _ _ ho).2 ver hmv (Nat.le_refl _)
      rw [h1] at hr'
      cases hr'
      have hL : r.L = cells.length := hver.last (Nat.beq_refl ver)
      have hlt : d.off < cells.length := (List.getElem?_eq_some_iff.1 hget).1
      obtain ⟨u, hu, hvu⟩ := hh.cell ho hmv (Nat.le_refl _) h1 h2 (by omega) hget
      rw [h3, hu, det_one h6 hvu h4]
    · cases hv
  · cases this

/-- Until when cells are held, for a load. -/
noncomputable def behindL (ops : Array Oper) (listed : Array Bool) (i : Nat) : List Nat :=
  (List.range ops.size).foldl (fun S m => bif !listed.getD m false && (match ops[m]? with | some om => om.after.any fun e => Region.binds .any e && (Nat.beq e.on i || S.contains e.on) | none => false) then m :: S else S) []
def isStore (o : Oper) : Bool := match o.op with | .store .. | .mapUpdate .. => true | _ => false
noncomputable def untilA (ops : Array Oper) (S : List Nat) : Nat := match S.find? (fun m => match ops[m]? with | some o => isStore o | none => false) with | some q => q | none => ops.size
noncomputable def okBehind (ops : Array Oper) (listed : Array Bool) (i q : Nat) (S : List Nat) : Bool :=
  Nat.ble ops.size q || (S.contains q && S.all fun m => !listed.getD m false && (match ops[m]? with | some om => om.after.any fun e => Region.binds .any e && (Nat.beq e.on i || S.contains e.on) | none => true))
theorem okBehind_spec {ops : Array Oper} {listed : Array Bool} {i q : Nat} {S : List Nat} (h : okBehind ops listed i q S = true) : Behind .any ops listed i q := by
  unfold okBehind at h
  simp only [Bool.or_eq_true, Bool.and_eq_true] at h
  rcases h with h | ⟨h1, h2⟩
  · exact .inl (ble_le h)
  · refine .inr ⟨S, by simpa using h1, fun m hm => ?_, fun m hm om hom => ?_⟩
    · have := List.all_eq_true.1 h2 m hm
      simp only [Bool.and_eq_true, Bool.not_eq_true'] at this
      exact this.1
    · have := List.all_eq_true.1 h2 m hm
      simp only [Bool.and_eq_true, hom] at this
      obtain ⟨e, he, hb⟩ := Array.any_eq_true'.1 this.2
      simp only [Bool.and_eq_true, Bool.or_eq_true] at hb
      refine ⟨e, he, hb.1, ?_⟩
      rcases hb.2 with h | h
      · exact .inl (beq_eq h)
      · exact .inr (by simpa using h)
/-- Which cells a load reads. -/
noncomputable def hdsOf (i k q : Nat) (xs : List V) : Nat → Option (List Hd) :=
  List.rec (fun _ => some []) (fun v _ ih o => bif det v then (match ih (o + 1) with | some l => some (⟨i, k, o, v, q⟩ :: l) | none => none) else none) xs
noncomputable def cellsAt (P : Program) (h : H) (t : TypeId) (x : V) (q : Nat) : Option (List Hd) :=
  match x with
  | .p i k off =>
    match h.get i with
    | some (.c cells _ _) =>
      match isAggA P t with
      | some true => (match sizeA P t with | some s => hdsOf i k q (ltake (ldrop cells off) s) off | none => none)
      | some false => (match lget cells off with | some v => hdsOf i k q [v] off | none => none)
      | none => none
    | _ => none
  | _ => none
def esOf (r : Rec) (q : Nat) : List Value → Nat → List (Addr × Value × Nat)
  | [], _ => []
  | u :: us, o => (r.at o, u, q) :: esOf r q us (o + 1)
theorem esOf_mem {r : Rec} {q : Nat} : ∀ {us : List Value} {o : Nat} {e : Addr × Value × Nat}, e ∈ esOf r q us o → ∃ j, us[j]? = some e.2.1 ∧ e.1 = r.at (o + j) ∧ e.2.2 = q
  | [], _, _, h => by cases h
  | u :: us, o, e, h => by
    rcases List.mem_cons.1 h with rfl | h
    · exact ⟨0, rfl, rfl, rfl⟩
    · obtain ⟨j, h1, h2, h3⟩ := esOf_mem h
      exact ⟨j + 1, h1, by rw [h2]; congr 1; omega, h3⟩
theorem esOf_of {r : Rec} {q : Nat} : ∀ {us : List Value} {o j : Nat} {u : Value}, us[j]? = some u → (r.at (o + j), u, q) ∈ esOf r q us o
  | [], _, _, _, h => by simp at h
  | u' :: us, o, j, u, h => by
    cases j with
    | zero => simp at h; subst h; exact List.mem_cons_self ..
    | succ j =>
      refine List.mem_cons_of_mem _ ?_
      have := esOf_of (r := r) (q := q) (o := o + 1) (j := j) (u := u) (us := us) (by simpa using h)
      rwa [show o + 1 + j = o + (j + 1) by omega] at this
theorem hdsOf_rel {ρ : Rho} {i k q : Nat} {r : Rec} (hr : ρ i k = some r) : ∀ {xs : List V} {us : List Value} {o : Nat} {ds : List Hd}, r.lo ≤ o → hdsOf i k q xs o = some ds → VRs ρ xs us → HdsR ρ ds (esOf r q us o)
  | [], us, o, ds, _, h, hv => by
    have h' : some [] = some ds := h
    cases h'
    rw [show us = [] from hv]
    rfl
  | x :: xs, _, o, ds, hl, h, ⟨u, us, h1, h2, h3⟩ => by
    subst h1
    have h' : (bif det x then (match hdsOf i k q xs (o + 1) with | some l => some (⟨i, k, o, x, q⟩ :: l) | none => none) else none) = some ds := h
    cases hd : det x with
    | false => rw [hd] at h'; cases h'
    | true =>
      rw [hd, cond_true] at h'
      split at h'
      · rename_i l hl'
        cases h'
        exact ⟨_, _, rfl, ⟨r, hr, hl, rfl, h2, rfl, hd⟩, hdsOf_rel hr (by omega) hl' h3⟩
      · cases h'
theorem ldHeld {P : Program} {Z : Base} {ρ : Rho} {h : H} {w : World} (hh : HR Z ρ h w) {t : TypeId} {x v : V} {u : Value} {q : Nat} {ds : List Hd} (hx : VR ρ x u) (hl : ldA P h t x = some v) (hc : cellsAt P h t x q = some ds) :
    ∃ es y, HdsR ρ ds es ∧ (∀ e ∈ es, w.cell? e.1 = some e.2.1) ∧ (∀ e ∈ es, e.2.2 = q) ∧ (∀ w' : World, (∀ p ∈ es.map (fun e => (e.1, e.2.1)), w'.cell? p.1 = some p.2) → (Instr.loadAt t u).run P w' = .ok y w') ∧ VR ρ v y := by
  unfold ldA at hl
  split at hl
  · rename_i i k off
    obtain ⟨r, hr, hlo, rfl⟩ := hx
    simp only [cellsAt] at hc
    split at hl
    · rename_i cells ver min ho
      rw [ho] at hc
      simp only at hc
      cases hk : Nat.beq k ver with
      | false => rw [hk] at hl; cases hl
      | true =>
      rw [hk, cond_true] at hl
      have := beq_eq hk
      subst this
      have hmv := (hh.obj i _ ho).1
      obtain ⟨r', hr', hver⟩ := (hh.obj i _ ho).2 k hmv (Nat.le_refl _)
      rw [hr] at hr'
      cases hr'
      have hL : r.L = cells.length := hver.last (Nat.beq_refl k)
      have hat : ∀ j, (r.at off).add j = r.at (off + j) := fun j => by simp only [Rec.at, Addr.add_lit]; congr 1; omega
      split at hl
      · rename_i ha
        rw [ha] at hc
        simp only at hc
        split at hl
        · rename_i s hs
          rw [hs] at hc
          simp only at hc
          cases hb : Nat.ble (off + s) (llen cells) with
          | false => rw [hb] at hl; cases hl
          | true =>
          rw [hb, cond_true] at hl
          cases hl
          have hle := ble_le hb
          rw [llen_eq] at hle
          obtain ⟨us, hv, hul, hcell⟩ := hh.cells ho hmv (Nat.le_refl k) hr hlo (n := s) (by omega)
          rw [ltake_eq, ldrop_eq] at hc
          refine ⟨esOf r q us off, .agg us.toArray, hdsOf_rel hr hlo hc hv, fun e he => ?_, fun e he => ?_, fun w' hw' => ?_, by rw [ltake_eq, ldrop_eq]; exact mkA_rel hv⟩
          · obtain ⟨j, h1, h2, _⟩ := esOf_mem he
            rw [h2, ← hat]
            exact hcell j _ h1
          · exact (esOf_mem he).choose_spec.2.2
          · simp only [Instr.loadAt, Instr.sureAddr, loadVar, Sem.run_bind, Sem.run_pure, Result.andThen_ok, isAggA_run ha, if_true]
            have hrl : (loadCells (r.at off) s).run P w' = .ok us.toArray w' := run_loadCells hul fun j v hv' => by
              rw [hat]
              exact hw' _ (List.mem_map.2 ⟨_, esOf_of (q := q) hv', rfl⟩)
            simp [sizeA_run hs, hrl]
        · cases hl
      · rename_i ha
        rw [ha] at hc
        simp only [hl] at hc
        have hl2 := hl
        rw [lget_eq] at hl2
        have hlt : off < cells.length := (List.getElem?_eq_some_iff.1 hl2).1
        obtain ⟨y, hy, hv⟩ := hh.cell ho hmv (Nat.le_refl k) hr hlo (by omega) hl2
        refine ⟨esOf r q [y] off, y, hdsOf_rel hr hlo hc ⟨y, [], rfl, hv, rfl⟩, fun e he => ?_, fun e he => ?_, fun w' hw' => ?_, hv⟩
        · simp only [esOf, List.mem_singleton] at he
          subst he
          exact hy
        · simp only [esOf, List.mem_singleton] at he
          subst he
          rfl
        · have hc' : w'.cell? (r.at off) = some y := hw' (r.at off, y) (by simp [esOf])
          simp only [Instr.loadAt, Instr.sureAddr, loadVar, Sem.run_bind, Sem.run_pure, Result.andThen_ok, isAggA_run ha]
          simp [run_load, hc']
      · cases hl
    · cases hl
  · cases hl
end Go.Ax
