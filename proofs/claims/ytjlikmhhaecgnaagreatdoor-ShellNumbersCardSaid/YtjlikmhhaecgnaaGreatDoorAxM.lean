/- Maps under names. -/
import Derived.Test.YtjlikmhhaecgnaaGreatDoorAxF
namespace Go.Ax
set_option linter.unusedVariables false
open Go.Sx
section
variable {P : Program} {Z : Base} {ρ : Rho} {h : H} {w : World} {n : Nat} {f : F} {a : Act}

/-! What is no row of cells comes new, and is turned. -/
theorem HR.newO {o : O} (hh : HR Z ρ h w) {i : Nat} (hf : few i = true) (hn : h.get i = none) (hv : o.ver = 0) {ob : Obj} (hm : o.min = 0)
    (ho : ∀ ρ', ρ.le ρ' → ρ' i 0 = some ⟨w.heap.size, 0, 0, 0, 0⟩ → OR ρ' i o { w with heap := w.heap.push ob }) :
    ρ.le (ρ.add i 0 ⟨w.heap.size, 0, 0, 0, 0⟩) ∧ HR Z (ρ.add i 0 ⟨w.heap.size, 0, 0, 0, 0⟩) (h.set i o) { w with heap := w.heap.push ob } := by
  have hnone : ρ i 0 = none := by
    cases hk : ρ i 0 with
    | none => rfl
    | some r' => obtain ⟨o', ho', _⟩ := hh.dom i 0 r' hk; rw [hn] at ho'; cases ho'
  have hle := Rho.le_add (r := ⟨w.heap.size, 0, 0, 0, 0⟩) hnone
  have hpush : ∀ j, j < w.heap.size → ({ w with heap := w.heap.push ob } : World).heap[j]? = w.heap[j]? := fun j hj => by
    simp [Array.getElem?_push, Nat.ne_of_lt hj]
  refine hh.ver (o := o) hf rfl (fun o' ho' => by rw [hn] at ho'; cases ho') hv ?_ (fun j hj => hpush j (hh.base_lt hj)) hh.fresh ?_ ?_ ?_
  · intro j l r' hr' hl _ _
    exact hpush _ (hh.lt hl hr')
  · intro j l r' hr' hl _
    exact Nat.ne_of_lt (hh.lt hl hr')
  · intro l r' hr' hl _ _
    obtain ⟨o', ho', _⟩ := hl
    rw [hn] at ho'; cases ho'
  · exact ho _ hle (Rho.add_self _ _ _ _)
theorem HR.turnO {o o' : O} (hh : HR Z ρ h w) {i : Nat} {r : Rec} {ob : Obj} (hf : few i = true) (ho : h.get i = some o) (hv : o.ver = 0) (hm : o.min = 0) (hv' : o'.ver = 0) (hm' : o'.min = 0) (hr : ρ i 0 = some r)
    (hOR : OR ρ i o' { w with heap := w.heap.setIfInBounds r.b ob }) : HR Z ρ (h.set i o') { w with heap := w.heap.setIfInBounds r.b ob } := by
  have hlive : Live h i 0 := ⟨o, ho, by rw [hm]; exact Nat.le_refl 0, by rw [hv]; exact Nat.le_refl 0⟩
  have hne : ∀ j, j ≠ r.b → ({ w with heap := w.heap.setIfInBounds r.b ob } : World).heap[j]? = w.heap[j]? := fun j hj => by
    simp [Array.getElem?_setIfInBounds_ne (Ne.symm hj)]
  refine hh.upd (o := o) hf ho (by rw [hv, hv']) (by rw [hm, hm']; exact Nat.le_refl 0) rfl ?_ ?_ hOR
  · intro j l r' hr' hl hji
    exact hne _ (hh.sep _ _ _ _ _ _ hl hlive hr' hr hji)
  · intro j hj
    exact hne _ (ne_of_base hj (hh.new _ _ _ hlive hr))

/-! A key is sought. -/
noncomputable def findNowA (d : TypeDesc) (k : Value) (es : List (Value × V × Nat)) : Nat → Option (Option (Nat × V)) :=
  List.rec (fun _ => some none) (fun e _ ih i => match Instr.sameNow d k e.1 with
    | some true => some (some (i, e.2.1))
    | some false => ih (i + 1)
    | none => none) es
noncomputable def findAskA (P : Program) (t : TypeId) (k : Value) (es : List (Value × V × Nat)) : Nat → Option (Option (Nat × V)) :=
  List.rec (fun _ => some none) (fun e _ ih i => match peel P (Op.equal t k e.1) with
    | some true => some (some (i, e.2.1))
    | some false => ih (i + 1)
    | none => none) es
noncomputable def findA (P : Program) (t : TypeId) (k : Value) (es : List (Value × V × Nat)) : Option (Option (Nat × V)) :=
  match P.underlying t with
  | some d => (match findNowA d k es 0 with | some r => some r | none => findAskA P t k es 0)
  | none => none
def FR2 (ρ : Rho) (r : Option (Nat × V)) (r' : Option (Nat × Value)) : Prop := match r, r' with | none, none => True | some (i, v), some (j, u) => i = j ∧ VR ρ v u | _, _ => False
theorem findNowA_some {d : TypeDesc} {k : Value} : ∀ {es : List (Value × V × Nat)} {es' : List MapEntry} {i : Nat} {r : Option (Nat × V)}, ER ρ es es' → findNowA d k es i = some r → ∃ r', Instr.findNow d k es' i = some r' ∧ FR2 ρ r r'
  | [], _, i, r, he, h => by
    have h' : some none = some r := h
    cases h'
    rw [show _ = [] from he]
    exact ⟨none, rfl, trivial⟩
  | (key, v, b) :: es, _, i, r, ⟨e, es', h1, h2, h3, h4, h5⟩, h => by
    subst h1
    have h' : (match Instr.sameNow d k key with
      | some true => some (some (i, v))
      | some false => findNowA d k es (i + 1)
      | none => none) = some r := h
    simp only [Instr.findNow, h2]
    split at h'
    · rename_i hs; cases h'; rw [hs]; exact ⟨_, rfl, rfl, h3⟩
    · rename_i hs; rw [hs]; exact findNowA_some h5 h'
    · cases h'
theorem findNowA_none {d : TypeDesc} {k : Value} : ∀ {es : List (Value × V × Nat)} {es' : List MapEntry} {i : Nat}, ER ρ es es' → findNowA d k es i = none → Instr.findNow d k es' i = none
  | [], _, i, he, h => by cases h
  | (key, v, b) :: es, _, i, ⟨e, es', h1, h2, h3, h4, h5⟩, h => by
    subst h1
    have h' : (match Instr.sameNow d k key with
      | some true => some (some (i, v))
      | some false => findNowA d k es (i + 1)
      | none => none) = none := h
    simp only [Instr.findNow, h2]
    split at h'
    · cases h'
    · rename_i hs; rw [hs]; exact findNowA_none h5 h'
    · rename_i hs; rw [hs]
theorem findAskA_run {t : TypeId} {k : Value} (w : World) : ∀ {es : List (Value × V × Nat)} {es' : List MapEntry} {i : Nat} {r : Option (Nat × V)}, ER ρ es es' → findAskA P t k es i = some r → ∃ r', (Instr.findAsking t k es' i).run P w = .ok r' w ∧ FR2 ρ r r'
  | [], _, i, r, he, h => by
    have h' : some none = some r := h
    cases h'
    rw [show _ = [] from he]
    exact ⟨none, rfl, trivial⟩
  | (key, v, b) :: es, _, i, r, ⟨e, es', h1, h2, h3, h4, h5⟩, h => by
    subst h1
    have h' : (match peel P (Op.equal t k key) with
      | some true => some (some (i, v))
      | some false => findAskA P t k es (i + 1)
      | none => none) = some r := h
    simp only [Instr.findAsking, h2, Sem.run_bind]
    split at h'
    · rename_i hs; cases h'; rw [peel_run hs w]; exact ⟨some (i, e.val), by simp, rfl, h3⟩
    · rename_i hs
      rw [peel_run hs w]
      obtain ⟨r', hr, hf⟩ := findAskA_run w (i := i + 1) h5 h'
      exact ⟨r', by simpa using hr, hf⟩
    · cases h'
theorem findA_run {t : TypeId} {k : Value} {es : List (Value × V × Nat)} {es' : List MapEntry} {r : Option (Nat × V)} (he : ER ρ es es') (h : findA P t k es = some r) (w : World) : ∃ r', (Instr.findKey t k es').run P w = .ok r' w ∧ FR2 ρ r r' := by
  unfold findA at h
  split at h
  · rename_i d hu
    split at h
    · rename_i r1 hn
      cases h
      obtain ⟨r', h1, h2⟩ := findNowA_some he hn
      exact ⟨r', by simp [Instr.findKey, run_underlying hu, h1], h2⟩
    · rename_i hn
      obtain ⟨r', h1, h2⟩ := findAskA_run w he h
      exact ⟨r', by simp [Instr.findKey, run_underlying hu, findNowA_none he hn, h1], h2⟩
  · cases h
def emptyL {α : Type} : List α → Bool | [] => true | _ :: _ => false
theorem ER.empty {es : List (Value × V × Nat)} {es' : Array MapEntry} (h : ER ρ es es'.toList) : es'.isEmpty = emptyL es := by
  cases es with
  | nil =>
    have h' : es'.toList = [] := h
    have : es' = #[] := Array.toList_eq_nil_iff.1 h'
    subst this; rfl
  | cons e es =>
    obtain ⟨k, x, b⟩ := e
    obtain ⟨e', es2, h1, _⟩ := h
    cases hb : es'.isEmpty with
    | false => rfl
    | true => rw [Array.isEmpty_iff] at hb; subst hb; cases h1
noncomputable def keyF (v : V) : Option Value := match v with | .f k => some k | _ => none
/-- A look-up. -/
noncomputable def lookA (P : Program) (h : H) (t : TypeId) (x k : V) (ok : Bool) : Option V :=
  match P.underlying t, keyF k with
  | some (.map kt et), some k =>
    (match (match x with
      | .f (.map none) => some []
      | .m i => (match h.get i with | some (.m es _) => some es | _ => none)
      | _ => (none : Option (List (Value × V × Nat)))) with
    | some es =>
      (match peel P (Instr.checkKey (emptyL es) 10000 kt k), findA P kt k es with
      | some (), some (some (_, v)) => some (bif ok then mkT [v, .f (.bool true)] else v)
      | some (), some none => (match zeroA P et with | some z => some (bif ok then mkT [.f z, .f (.bool false)] else .f z) | none => none)
      | _, _ => none)
    | none => none)
  | _, _ => none
theorem lookA_run (hh : HR Z ρ h w) {t : TypeId} {x k v : V} {ux uk : Value} {ok : Bool} (hx : VR ρ x ux) (hk : VR ρ k uk) (ha : lookA P h t x k ok = some v) : ∃ z, (Instr.lookup t ux uk ok).run P w = .ok z w ∧ VR ρ v z := by
  unfold lookA at ha
  split at ha
  · rename_i kt et k0 hu hkf
    have hk0 : uk = k0 := by
      unfold keyF at hkf
      split at hkf
      · cases hkf; exact hk
      · cases hkf
    subst hk0
    split at ha
    · rename_i es hes
      have hes' : ∃ es' : Array MapEntry, ER ρ es es'.toList ∧ ((ux = .map none ∧ es' = #[]) ∨ ∃ b clock, ux = .map (some b) ∧ w.heap[b]? = some (.map es' clock)) := by
        split at hes
        · cases hes
          exact ⟨#[], rfl, .inl ⟨hx, rfl⟩⟩
        · rename_i i
          obtain ⟨r, hr, rfl⟩ := hx
          split at hes
          · rename_i es1 clock ho
            cases hes
            obtain ⟨r', es', hr', hw, he⟩ := hh.obj i _ ho
            rw [hr] at hr'
            cases hr'
            exact ⟨es', he, .inr ⟨r.b, clock, rfl, hw⟩⟩
          · cases hes
        · cases hes
      obtain ⟨es', he, hux⟩ := hes'
      have fin : ∀ {r' : Option (Nat × Value)} {z : Value}, (Instr.checkKey es'.isEmpty 10000 kt uk).run P w = .ok () w → (Instr.findKey kt uk es'.toList).run P w = .ok r' w →
          (do
            let (v, ok') ← (match r' with
              | some (_, v) => pure (v, true)
              | none => do pure (← zeroValue et, false) : Sem (Value × Bool))
            pure (if ok = true then .tuple #[v, .bool ok'] else v) : Sem Value).run P w = .ok z w → (Instr.lookup t ux uk ok).run P w = .ok z w := by
        intro r' z h1 h2 h3
        rcases hux with ⟨rfl, rfl⟩ | ⟨b, clock, rfl, hw⟩
        · simp only [Instr.lookup, Sem.run_bind, run_underlying hu, Result.andThen_ok, Sem.run_pure, h1, h2]
          cases r' with
          | none => simpa using h3
          | some p => simpa using h3
        · simp only [Instr.lookup, Sem.run_bind, run_underlying hu, Result.andThen_ok]
          simp only [getObj, Sem.run, hw, Sem.run_bind, Result.andThen_ok, Sem.run_pure, h1, h2]
          cases r' with
          | none => simpa using h3
          | some p => simpa using h3
      split at ha
      · rename_i i v' hck hfd
        cases ha
        obtain ⟨r', hf, hr2⟩ := findA_run he hfd w
        cases r' with
        | none => exact hr2.elim
        | some ju =>
          obtain ⟨j, u⟩ := ju
          obtain ⟨rfl, hv⟩ := hr2
          have hck' : (Instr.checkKey es'.isEmpty 10000 kt uk).run P w = .ok () w := by rw [he.empty]; exact peel_run hck w
          cases ok with
          | true =>
            exact ⟨.tuple #[u, .bool true], fin hck' hf (by simp), mkT2 hv⟩
          | false =>
            exact ⟨u, fin hck' hf (by simp), hv⟩
      · rename_i hck hfd
        split at ha
        · rename_i z hz
          cases ha
          obtain ⟨r', hf, hr2⟩ := findA_run he hfd w
          cases r' with
          | some ju => exact hr2.elim
          | none =>
            have hck' : (Instr.checkKey es'.isEmpty 10000 kt uk).run P w = .ok () w := by rw [he.empty]; exact peel_run hck w
            cases ok with
            | true =>
              exact ⟨.tuple #[z, .bool false], fin hck' hf (by simp [zeroA_run hz]), mkT2 (x := .f z) (u := z) rfl⟩
            | false =>
              exact ⟨z, fin hck' hf (by simp [zeroA_run hz]), rfl⟩
        · cases ha
      · cases ha
    · cases ha
  · cases ha

/-! A map is turned. -/
noncomputable def lmod (es : List (Value × V × Nat)) (v : V) : Nat → List (Value × V × Nat) :=
  List.rec (fun _ => []) (fun e rest ih i => bif Nat.beq i 0 then (e.1, v, e.2.2) :: rest else e :: ih (i - 1)) es
noncomputable def lera (es : List (Value × V × Nat)) : Nat → List (Value × V × Nat) :=
  List.rec (fun _ => []) (fun e rest ih i => bif Nat.beq i 0 then rest else e :: ih (i - 1)) es
theorem ER.len : ∀ {es : List (Value × V × Nat)} {es' : List MapEntry}, ER ρ es es' → es'.length = es.length
  | [], _, h => by rw [show _ = [] from h]; rfl
  | (_, _, _) :: _, _, ⟨e, es', h1, _, _, _, h5⟩ => by subst h1; simp [ER.len h5]
theorem ER.mod {v : V} {u : Value} (hv : VR ρ v u) : ∀ {es : List (Value × V × Nat)} {es' : List MapEntry} {i : Nat} {key : Value}, ER ρ es es' → (∀ e, es'[i]? = some e → key = e.key) → ER ρ (lmod es v i) (es'.modify i fun e => { e with key := key, val := u })
  | [], _, i, key, h, _ => by rw [show _ = [] from h]; cases i <;> rfl
  | (k, x, b) :: es, _, i, key, ⟨e, es', h1, h2, h3, h4, h5⟩, hk => by
    subst h1
    show ER ρ (bif Nat.beq i 0 then (k, v, b) :: es else (k, x, b) :: lmod es v (i - 1)) _
    cases i with
    | zero =>
      rw [show Nat.beq 0 0 = true from rfl, cond_true]
      have := hk e rfl
      exact ⟨_, es', rfl, by rw [this]; exact h2, hv, h4, h5⟩
    | succ i =>
      rw [show Nat.beq (i + 1) 0 = false from rfl, cond_false]
      refine ⟨e, es'.modify i fun e => { e with key := key, val := u }, by simp, h2, h3, h4, ?_⟩
      exact ER.mod hv h5 fun e' he' => hk e' (by simpa using he')
theorem ER.era : ∀ {es : List (Value × V × Nat)} {es' : List MapEntry} {i : Nat}, ER ρ es es' → ER ρ (lera es i) (es'.eraseIdx i)
  | [], _, i, h => by rw [show _ = [] from h]; cases i <;> rfl
  | (k, x, b) :: es, _, i, ⟨e, es', h1, h2, h3, h4, h5⟩ => by
    subst h1
    show ER ρ (bif Nat.beq i 0 then es else (k, x, b) :: lera es (i - 1)) _
    cases i with
    | zero => exact h5
    | succ i => exact ⟨e, es'.eraseIdx i, by simp, h2, h3, h4, ER.era h5⟩
theorem ER.push : ∀ {es : List (Value × V × Nat)} {es' : List MapEntry} {k : Value} {v : V} {u : Value} {b : Nat}, ER ρ es es' → VR ρ v u → ER ρ (lapp es [(k, v, b)]) (es' ++ [{ key := k, val := u, born := b }])
  | [], _, k, v, u, b, h, hv => by rw [show _ = [] from h]; exact ⟨_, [], rfl, rfl, hv, rfl, rfl⟩
  | (k0, x, b0) :: es, _, k, v, u, b, ⟨e, es', h1, h2, h3, h4, h5⟩, hv => by subst h1; exact ⟨e, _, rfl, h2, h3, h4, ER.push h5 hv⟩
theorem ER.keyAt : ∀ {es : List (Value × V × Nat)} {es' : List MapEntry} {i : Nat} {e : Value × V × Nat}, ER ρ es es' → es[i]? = some e → ∃ e', es'[i]? = some e' ∧ e'.key = e.1
  | [], _, i, e, _, h => by simp at h
  | (k, x, b) :: es, _, i, e, ⟨e', es', h1, h2, _, _, h5⟩, h => by
    subst h1
    cases i with
    | zero => simp at h; subst h; exact ⟨e', rfl, h2⟩
    | succ i => simp at h; simpa using ER.keyAt h5 h

noncomputable def updA (P : Program) (h : H) (t : TypeId) (x k v : V) : Option H :=
  match P.underlying t, keyF k, x with
  | some (.map kt _), some k, .m i =>
    (match h.get i with
    | some (.m es clock) =>
      bif few i then
        (match peel P (Instr.checkKey false 10000 kt k), findA P kt k es with
        | some (), some (some (j, _)) => (match lget es j with
          | some e => bif Instr.sameBits 10000 e.1 k && valEq e.1 k then some (h.set i (.m (lmod es v j) clock)) else none
          | none => none)
        | some (), some none => some (h.set i (.m (lapp es [(k, v, clock)]) (clock + 1)))
        | _, _ => none)
      else none
    | _ => none)
  | _, _, _ => none
theorem updA_run (hh : HR Z ρ h w) {t : TypeId} {x k v : V} {ux uk uv : Value} {h' : H} (hx : VR ρ x ux) (hk : VR ρ k uk) (hv : VR ρ v uv) (ha : updA P h t x k v = some h') : ∃ w', (Instr.mapUpdate t ux uk uv).run P w = .ok () w' ∧ HR Z ρ h' w' := by
  unfold updA at ha
  split at ha
  · rename_i kt et k0 i hu hkf
    have hk0 : uk = k0 := by
      unfold keyF at hkf
      split at hkf
      · cases hkf; exact hk
      · cases hkf
    subst hk0
    obtain ⟨r, hr, rfl⟩ := hx
    split at ha
    · rename_i es clock ho
      cases hf : few i with
      | false => rw [hf] at ha; cases ha
      | true =>
      rw [hf, cond_true] at ha
      obtain ⟨r', es', hr', hw, he⟩ := hh.obj i _ ho
      rw [hr] at hr'
      cases hr'
      have hlt : r.b < w.heap.size := (Array.getElem?_eq_some_iff.1 hw).1
      split at ha
      · rename_i j v0 hck hfd
        split at ha
        · rename_i e hej
          cases hb : (Instr.sameBits 10000 e.1 uk && valEq e.1 uk) with
          | false => rw [hb] at ha; cases ha
          | true =>
          rw [hb, cond_true] at ha
          cases ha
          simp only [Bool.and_eq_true] at hb
          have hke := valEq_spec hb.2
          rw [lget_eq] at hej
          obtain ⟨r', hfr, hr2⟩ := findA_run he hfd w
          cases r' with
          | none => exact hr2.elim
          | some ju =>
            obtain ⟨j', u0⟩ := ju
            obtain ⟨rfl, _⟩ := hr2
            obtain ⟨e', he', hkey⟩ := he.keyAt hej
            have hck' : (Instr.checkKey false 10000 kt uk).run P w = .ok () w := peel_run hck w
            have hold : ((es'[j]?).map (·.key)).getD uk = uk := by
              rw [← Array.getElem?_toList, he']; simp [hkey, hke]
            refine ⟨{ w with heap := w.heap.setIfInBounds r.b (.map (es'.modify j fun e => { e with key := uk, val := uv }) clock) }, ?_, ?_⟩
            · have hsb : Instr.sameBits 10000 uk uk = true := by rw [← hke] at hb ⊢; exact hb.1
              simp only [Instr.mapUpdate, Sem.run_bind, run_underlying hu, Result.andThen_ok]
              simp [getObj, Sem.run, hw, hck', hfr, Instr.keyThatStays, hold, hsb, setObj]
            · refine hh.turnO hf ho rfl rfl rfl rfl hr ?_
              refine ⟨r, es'.modify j fun e => { e with key := uk, val := uv }, hr, by simp [hlt], ?_⟩
              rw [Array.toList_modify]
              exact he.mod hv fun e2 he2 => by rw [he'] at he2; cases he2; rw [hkey, hke]
        · cases ha
      · rename_i hck hfd
        cases ha
        obtain ⟨r', hfr, hr2⟩ := findA_run he hfd w
        cases r' with
        | some ju => exact hr2.elim
        | none =>
          have hck' : (Instr.checkKey false 10000 kt uk).run P w = .ok () w := peel_run hck w
          refine ⟨{ w with heap := w.heap.setIfInBounds r.b (.map (es'.push { key := uk, val := uv, born := clock }) (clock + 1)) }, ?_, ?_⟩
          · simp only [Instr.mapUpdate, Sem.run_bind, run_underlying hu, Result.andThen_ok]
            simp [getObj, Sem.run, hw, hck', hfr, setObj]
          · refine hh.turnO hf ho rfl rfl rfl rfl hr ?_
            refine ⟨r, es'.push { key := uk, val := uv, born := clock }, hr, by simp [hlt], ?_⟩
            rw [Array.toList_push]
            exact he.push hv
      · cases ha
    · cases ha
  · cases ha

noncomputable def delA (P : Program) (h : H) (t : TypeId) (x k : V) : Option H :=
  match P.underlying t, keyF k, x with
  | some (.map kt _), some k, .m i =>
    (match h.get i with
    | some (.m es clock) =>
      bif few i then
        (match peel P (Instr.checkKey (emptyL es) 10000 kt k), findA P kt k es with
        | some (), some (some (j, _)) => some (h.set i (.m (lera es j) clock))
        | some (), some none => some (h.set i (.m es clock))
        | _, _ => none)
      else none
    | _ => none)
  | _, _, _ => none
theorem delA_run (hh : HR Z ρ h w) {ts : Array TypeId} {t ty : TypeId} {x k : V} {ux uk : Value} {h' : H} (ht : ts[0]? = some t) (hx : VR ρ x ux) (hk : VR ρ k uk) (ha : delA P h t x k = some h') : ∃ w', (Builtin.delete_ ts ty #[ux, uk]).run P w = .ok (.tuple #[]) w' ∧ HR Z ρ h' w' := by
  unfold delA at ha
  split at ha
  · rename_i kt et k0 i hu hkf
    have hk0 : uk = k0 := by
      unfold keyF at hkf
      split at hkf
      · cases hkf; exact hk
      · cases hkf
    subst hk0
    obtain ⟨r, hr, rfl⟩ := hx
    split at ha
    · rename_i es clock ho
      cases hf : few i with
      | false => rw [hf] at ha; cases ha
      | true =>
      rw [hf, cond_true] at ha
      obtain ⟨r', es', hr', hw, he⟩ := hh.obj i _ ho
      rw [hr] at hr'
      cases hr'
      have hlt : r.b < w.heap.size := (Array.getElem?_eq_some_iff.1 hw).1
      split at ha
      · rename_i j v0 hck hfd
        cases ha
        obtain ⟨r', hfr, hr2⟩ := findA_run he hfd w
        cases r' with
        | none => exact hr2.elim
        | some ju =>
          obtain ⟨j', u0⟩ := ju
          obtain ⟨rfl, _⟩ := hr2
          have hck' : (Instr.checkKey es'.isEmpty 10000 kt uk).run P w = .ok () w := by rw [he.empty]; exact peel_run hck w
          refine ⟨{ w with heap := w.heap.setIfInBounds r.b (.map (es'.eraseIdxIfInBounds j) clock) }, ?_, ?_⟩
          · simp only [Builtin.delete_, ht]
            simp [run_underlying hu, getObj, Sem.run, hw, hck', hfr, setObj]
          · refine hh.turnO hf ho rfl rfl rfl rfl hr ?_
            refine ⟨r, es'.eraseIdxIfInBounds j, hr, by simp [hlt], ?_⟩
            rw [Array.toList_eraseIdxIfInBounds]
            exact he.era
      · rename_i hck hfd
        cases ha
        obtain ⟨r', hfr, hr2⟩ := findA_run he hfd w
        cases r' with
        | some ju => exact hr2.elim
        | none =>
          have hck' : (Instr.checkKey es'.isEmpty 10000 kt uk).run P w = .ok () w := by rw [he.empty]; exact peel_run hck w
          refine ⟨{ w with heap := w.heap.setIfInBounds r.b (.map es' clock) }, ?_, ?_⟩
          · simp only [Builtin.delete_, ht]
            simp [run_underlying hu, getObj, Sem.run, hw, hck', hfr, setObj]
          · refine hh.turnO hf ho rfl rfl rfl rfl hr ?_
            exact ⟨r, es', hr, by simp [hlt], he⟩
      · cases ha
    · cases ha
  · cases ha
noncomputable def makeMA (P : Program) (h : H) (nm : Nat) (t : TypeId) (hint : Option V) : Option H :=
  match (match hint with | none => true | some v => (match P.underlying t, natF v with | some (.map _ _), some _ => true | _, _ => false)), h.get nm with
  | true, none => bif few nm then some (h.set nm (.m [] 0)) else none
  | _, _ => none
theorem makeMA_run (hh : HR Z ρ h w) {nm : Nat} {t : TypeId} {hint : Option V} {hint' : Option Value} (hr : OptR ρ hint hint') {h' : H} (ha : makeMA P h nm t hint = some h') :
    ∃ ρ' z w', ρ.le ρ' ∧ (Instr.makeMap t hint').run P w = .ok z w' ∧ VR ρ' (.m nm) z ∧ HR Z ρ' h' w' := by
  unfold makeMA at ha
  split at ha
  · rename_i hok hnone
    cases hf : few nm with
    | false => rw [hf] at ha; cases ha
    | true =>
    rw [hf, cond_true] at ha
    cases ha
    obtain ⟨hle, hh'⟩ := hh.newO (o := .m [] 0) (ob := .map #[] 0) hf hnone rfl rfl fun ρ' _ hr' => ⟨_, #[], hr', by simp, rfl⟩
    refine ⟨_, .map (some w.heap.size), _, hle, ?_, ⟨_, Rho.add_self _ _ _ _, rfl⟩, hh'⟩
    cases hint with
    | none =>
      cases hint' with
      | some _ => exact hr.elim
      | none => simp [Instr.makeMap]
    | some v =>
      cases hint' with
      | none => exact hr.elim
      | some u =>
        simp only at hok
        split at hok
        · rename_i kt et m hu hm
          obtain ⟨k, rfl⟩ := natF_spec hr hm
          simp [Instr.makeMap, run_underlying hu, asInt, asIntOf]
        · cases hok
  · cases ha
end
end Go.Ax
