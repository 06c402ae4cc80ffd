/- Operations under names, one by one. -/
import Derived.Test.YtjlikmhhaecgnaaGreatDoorAxD
namespace Go.Ax
set_option linter.unusedVariables false
open Go.Sx
section
variable {P : Program} {Z : Base} {ρ : Rho} {h : H} {w : World} {n : Nat} {f : F} {a : Act}

noncomputable def intF (v : V) : Option Int := match v with | .f (.int _ j) => some j | _ => none
theorem intF_spec {v : V} {u : Value} {j : Int} (hv : VR ρ v u) (h : intF v = some j) : ∃ k, u = .int k j := by
  unfold intF at h
  split at h
  · cases h; exact ⟨_, hv⟩
  · cases h
def natI (j : Int) : Option Nat := match j with | .ofNat m => some m | .negSucc _ => none
theorem natI_spec {j : Int} {m : Nat} (h : natI j = some m) : j = m := by
  cases j with
  | ofNat m' => simp [natI] at h; rw [h]; rfl
  | negSucc => simp [natI] at h
noncomputable def natF (v : V) : Option Nat := match intF v with | some j => natI j | none => none
theorem natF_spec {v : V} {u : Value} {m : Nat} (hv : VR ρ v u) (h : natF v = some m) : ∃ k, u = .int k (m : Int) := by
  unfold natF at h
  split at h
  · rename_i j hj
    obtain ⟨k, rfl⟩ := intF_spec hv hj
    exact ⟨k, by rw [natI_spec h]⟩
  · cases h

/-- The address of an element. -/
noncomputable def ixA (P : Program) (t : TypeId) (x : V) (ix : V) : Option V :=
  match natF ix with
  | none => none
  | some j =>
    match P.underlying t with
    | some (.slice e) =>
      (match x, sizeA P e with
      | .s i k off n _ _ sz, some s => bif Nat.beq s sz && Nat.blt j n then some (.p i k (off + j * sz)) else none
      | _, _ => none)
    | some (.array len e) =>
      (match x, sizeA P e with
      | .p i k off, some s => bif Nat.blt j len then some (.p i k (off + j * s)) else none
      | _, _ => none)
    | _ => none
theorem ixA_run {t : TypeId} {x ix v : V} {u y : Value} (hx : VR ρ x u) (hi : VR ρ ix y) (ha : ixA P t x ix = some v) : ∃ z, (∀ w : World, (Instr.indexAt t u y).run P w = .ok z w) ∧ VR ρ v z := by
  unfold ixA at ha
  split at ha
  · cases ha
  · rename_i j hj
    obtain ⟨kk, rfl⟩ := natF_spec hi hj
    split at ha
    · rename_i e hu
      split at ha
      · rename_i x' s' i k off n' bn c sz s hs
        obtain ⟨r, ad, cap, hr, rfl, hcap, hcc, hat, hnb, hbc⟩ := hx
        cases hb : (Nat.beq s sz && Nat.blt j n') with
        | false => rw [hb] at ha; cases ha
        | true =>
        rw [hb, cond_true] at ha
        cases ha
        simp only [Bool.and_eq_true, Nat.blt_eq] at hb
        have := beq_eq hb.1
        subst this
        rcases hat with h0 | ⟨hlo, rfl, _⟩
        · omega
        have hlt : (0 : Int) ≤ (j : Int) ∧ (j : Int) < (n' : Int) := by omega
        refine ⟨.pointer (some (r.at (off + j * s))), fun w => ?_, ⟨r, hr, by omega, rfl⟩⟩
        simp only [Instr.indexAt, asIntOf, Sem.run_bind, Sem.run_pure, Result.andThen_ok, run_underlying hu, if_pos hlt, sizeA_run hs]
        simp only [Rec.at, Int.toNat_natCast, Addr.add_lit, show r.base + (off - r.lo) + j * s = r.base + (off + j * s - r.lo) by omega]
      · cases ha
    · rename_i len e hu
      split at ha
      · rename_i x' s' i k off s hs
        obtain ⟨r, hr, hlo, rfl⟩ := hx
        cases hb : Nat.blt j len with
        | false => rw [hb] at ha; cases ha
        | true =>
        rw [hb, cond_true] at ha
        cases ha
        simp only [Nat.blt_eq] at hb
        have hlt : (0 : Int) ≤ (j : Int) ∧ (j : Int) < (len : Int) := by omega
        refine ⟨.pointer (some (r.at (off + j * s))), fun w => ?_, ⟨r, hr, by omega, rfl⟩⟩
        simp only [Instr.indexAt, asIntOf, Sem.run_bind, Sem.run_pure, Result.andThen_ok, run_underlying hu, Instr.sureAddr, if_pos hlt]
        simp [sizeA_run hs, Rec.at, Addr.add_lit, show r.base + (off - r.lo) + j * s = r.base + (off + j * s - r.lo) by omega]
      · cases ha
    · cases ha

/-- The address of a field. -/
noncomputable def faA (P : Program) (s : TypeId) (x : V) (j : Nat) : Option V :=
  match x, fieldOf P s j with
  | .p i k off, some fd => (match sizeA P fd.type with | some s => (bif Nat.beq s 0 then none else some (.p i k (off + fd.offset))) | none => none)
  | _, _ => none
theorem faA_run {s : TypeId} {x v : V} {j : Nat} {u : Value} (hx : VR ρ x u) (ha : faA P s x j = some v) : ∃ z, (∀ w : World, (Instr.fieldAt s u j).run P w = .ok z w) ∧ VR ρ v z := by
  unfold faA at ha
  split at ha
  · rename_i x' i k off fd hfd
    obtain ⟨fs, hu, hfs⟩ := fieldOf_spec hfd
    split at ha
    · rename_i sz hs
      cases hb : Nat.beq sz 0 with
      | true => rw [hb] at ha; cases ha
      | false =>
      rw [hb, cond_false] at ha
      cases ha
      have hne := beq_ff hb
      obtain ⟨r, hr, hlo, rfl⟩ := hx
      refine ⟨.pointer (some (r.at (off + fd.offset))), fun w => ?_, ⟨r, hr, by omega, rfl⟩⟩
      simp only [Instr.fieldAt, Sem.run_bind, run_underlying hu, Result.andThen_ok, hfs, Instr.sureAddr, Sem.run_pure, fieldPlace, sizeA_run hs, if_neg hne]
      simp [Rec.at, Addr.add_lit, show r.base + (off - r.lo) + fd.offset = r.base + (off + fd.offset - r.lo) by omega]
    · cases ha
  · cases ha

/-! Slices of slices and arrays. -/
noncomputable def bndA (d : Nat) (v : Option V) : Option Nat := match v with | none => some d | some v => natF v
/-- low, high, max. -/
noncomputable def slA (P : Program) (h : H) (t : TypeId) (x : V) (lo hi mx : Option V) : Option V :=
  match P.underlying t with
  | some (.array n e) =>
    (match x, sizeA P e, bndA 0 lo, bndA n hi, mx with
    | .p i k off, some s, some l, some hh, none =>
      (match h.get i with
      | some (.c cells ver _) => bif Nat.beq k ver && Nat.ble l hh && Nat.ble hh n && Nat.ble (off + n * s) (llen cells) then some (.s i k (off + l * s) (hh - l) (n - l) (some (n - l)) s) else none
      | _ => none)
    | _, _, _, _, _ => none)
  | some (.slice e) =>
    (match x, sizeA P e with
    | .s i k off n b c sz, some s =>
      (match bndA 0 lo, bndA n hi, mx with
      | some l, some hh, none => bif Nat.beq s sz && Nat.ble l hh && Nat.ble hh b then some (.s i k (off + l * s) (hh - l) (b - l) (match c with | some c => some (c - l) | none => none) s) else none
      | some l, some hh, some m => (match natF m with
        | some m => bif Nat.beq s sz && Nat.ble l hh && Nat.ble hh m && Nat.ble m b then some (.s i k (off + l * s) (hh - l) (m - l) (some (m - l)) s) else none
        | none => none)
      | _, _, _ => none)
    | _, _ => none)
  | _ => none

theorem bndA_spec {d : Nat} {v : Option V} {u : Option Value} {l : Nat} (hv : match v, u with | none, none => True | some v, some u => VR ρ v u | _, _ => False) (h : bndA d v = some l) :
    (u = none ∧ l = d) ∨ ∃ k, u = some (.int k (l : Int)) := by
  cases v with
  | none => cases u with
    | none => simp [bndA] at h; exact .inl ⟨rfl, h.symm⟩
    | some u => exact hv.elim
  | some v => cases u with
    | none => exact hv.elim
    | some u =>
      obtain ⟨k, rfl⟩ := natF_spec hv h
      exact .inr ⟨k, rfl⟩
def OptR (ρ : Rho) (v : Option V) (u : Option Value) : Prop := match v, u with | none, none => True | some v, some u => VR ρ v u | _, _ => False
theorem run_bound {k : IntKind} {i y : Nat} {code : BoundsCode} (h1 : i ≤ y) : (Instr.sliceBound (.int k (i : Int)) y code).run P w = .ok i w := by
  have := run_sliceBound (P := P) (k := k) (code := code) (w := w) (i := (i : Int)) (y := y) (by omega) (by omega)
  simpa using this
theorem run_boundsA {b : Bool} {len cap l hh : Nat} {lo hi : Option V} {lo' hi' : Option Value} (hl : OptR ρ lo lo') (hr : OptR ρ hi hi') (h1 : bndA 0 lo = some l) (h2 : bndA len hi = some hh) (h3 : l ≤ hh) (h4 : hh ≤ cap) :
    (Instr.sliceBounds b len cap lo' hi' none).run P w = .ok (l, hh, cap) w := by
  rcases bndA_spec hl h1 with ⟨rfl, rfl⟩ | ⟨k, rfl⟩ <;> rcases bndA_spec hr h2 with ⟨rfl, rfl⟩ | ⟨k', rfl⟩ <;>
    simp [Instr.sliceBounds, run_bound, h3, h4]
theorem run_bounds3 {b : Bool} {len cap l hh m : Nat} {lo hi : Option V} {lo' : Option Value} {hi' : Value} {hiv : V} {k2 : IntKind} (hl : OptR ρ lo lo') (hhi : hi = some hiv) (hr : VR ρ hiv hi') (h1 : bndA 0 lo = some l) (h2 : bndA len hi = some hh) (h3 : l ≤ hh) (h4 : hh ≤ m) (h5 : m ≤ cap) :
    (Instr.sliceBounds b len cap lo' (some hi') (some (.int k2 (m : Int)))).run P w = .ok (l, hh, m) w := by
  subst hhi
  obtain ⟨k', rfl⟩ := natF_spec hr h2
  rcases bndA_spec hl h1 with ⟨rfl, rfl⟩ | ⟨k, rfl⟩ <;> simp [Instr.sliceBounds, run_bound, h3, h4, h5]

theorem slA_run (hh : HR Z ρ h w) {t : TypeId} {x v : V} {lo hi mx : Option V} {u : Value} {lo' hi' mx' : Option Value} (hx : VR ρ x u) (hl : OptR ρ lo lo') (hr : OptR ρ hi hi') (hm : OptR ρ mx mx') (hmh : mx.isSome = true → hi.isSome = true)
    (ha : slA P h t x lo hi mx = some v) : ∃ z, (Instr.sliceAt t u lo' hi' mx').run P w = .ok z w ∧ VR ρ v z := by
  unfold slA at ha
  split at ha
  · rename_i n' e hu
    split at ha
    · rename_i x' s' i k off s l hh' hs h1 h2
      have hmx : mx' = none := by cases mx' with | none => rfl | some => exact hm.elim
      subst hmx
      split at ha
      · rename_i cells ver min ho
        cases hb : (Nat.beq k ver && Nat.ble l hh' && Nat.ble hh' n' && Nat.ble (off + n' * s) (llen cells)) with
        | false => rw [hb] at ha; cases ha
        | true =>
        rw [hb, cond_true] at ha
        cases ha
        simp only [Bool.and_eq_true] at hb
        obtain ⟨⟨⟨hb1, hb2⟩, hb3⟩, hb4⟩ := hb
        have := beq_eq hb1
        subst this
        have e2 := ble_le hb2
        have e3 := ble_le hb3
        have e4 := ble_le hb4
        rw [llen_eq] at e4
        obtain ⟨r, hr', hlo, rfl⟩ := hx
        have hmv := (hh.obj i _ ho).1
        obtain ⟨r2, hr2, hver⟩ := (hh.obj i _ ho).2 k hmv (Nat.le_refl _)
        rw [hr'] at hr2
        cases hr2
        have hL : r.L = cells.length := hver.last (Nat.beq_refl k)
        have hhi := hver.hi
        have m1 : (hh' - l) * s + l * s = hh' * s := by rw [← Nat.add_mul]; congr 1; omega
        have m2 : (n' - l) * s + l * s = n' * s := by rw [← Nat.add_mul]; congr 1; omega
        have m3 : hh' * s ≤ n' * s := Nat.mul_le_mul_right _ e3
        refine ⟨.slice (some (if n' = l then r.at off else (r.at off).add (l * s))) (hh' - l) (n' - l), ?_, ⟨r, _, n' - l, hr', rfl, by omega, .inr rfl, ?_, by omega, Nat.le_refl _⟩⟩
        · simp only [Instr.sliceAt, Sem.run_bind, run_underlying hu, Result.andThen_ok, Instr.sureAddr, Sem.run_pure, run_boundsA hl hr h1 h2 e2 e3, sizeA_run hs]
        · by_cases hnl : n' = l
          · left; omega
          · right
            rw [if_neg hnl]
            refine ⟨by omega, by simp only [Rec.at, Addr.add_lit]; congr 1; omega, by omega, by omega, (fun h => by cases h), by omega⟩
      · cases ha
    · cases ha
  · rename_i e hu
    split at ha
    · rename_i x' s' i k off n' bn c sz s hs
      obtain ⟨r, ad, cap, hr', rfl, hcap, hcc, hat, hnb, hbc⟩ := hx
      split at ha
      · rename_i l hh' h1 h2
        have hmx : mx' = none := by cases mx' with | none => rfl | some => exact hm.elim
        subst hmx
        cases hb : (Nat.beq s sz && Nat.ble l hh' && Nat.ble hh' bn) with
        | false => rw [hb] at ha; cases ha
        | true =>
        rw [hb, cond_true] at ha
        cases ha
        simp only [Bool.and_eq_true] at hb
        obtain ⟨⟨hb1, hb2⟩, hb3⟩ := hb
        have := beq_eq hb1
        subst this
        have e2 := ble_le hb2
        have e3 := ble_le hb3
        have m1 : (hh' - l) * s + l * s = hh' * s := by rw [← Nat.add_mul]; congr 1; omega
        have m2 : (cap - l) * s + l * s = cap * s := by rw [← Nat.add_mul]; congr 1; omega
        have m3 : hh' * s ≤ bn * s := Nat.mul_le_mul_right _ e3
        have m5 : (bn - l) * s + l * s = bn * s := by rw [← Nat.add_mul]; congr 1; omega
        refine ⟨.slice (if cap = l then some ad else (some ad).map (·.add (l * s))) (hh' - l) (cap - l), ?_, ⟨r, if cap = l then ad else ad.add (l * s), cap - l, hr', ?_, by omega, ?_, ?_, by omega, by omega⟩⟩
        · simp only [Instr.sliceAt, Instr.slice, Sem.run_bind, run_underlying hu, Result.andThen_ok, run_boundsA hl hr h1 h2 e2 (Nat.le_trans e3 hbc), sizeA_run hs, Sem.run_pure]
        · by_cases hnl : cap = l <;> simp [hnl]
        · rcases hcc with rfl | rfl
          · exact .inl rfl
          · exact .inr rfl
        · rcases hat with h0 | ⟨hlo, rfl, hLL, hhi, hex, hbL⟩
          · left; omega
          · by_cases hnl : cap = l
            · left; omega
            · right
              rw [if_neg hnl]
              refine ⟨by omega, by simp only [Rec.at, Addr.add_lit]; congr 1; omega, by omega, by omega, (fun hcn => ?_), by omega⟩
              cases c with
              | none => have := hex rfl; omega
              | some c => cases hcn
      · rename_i l hh' m h1 h2
        split at ha
        · rename_i m' hm'
          cases hb : (Nat.beq s sz && Nat.ble l hh' && Nat.ble hh' m' && Nat.ble m' bn) with
          | false => rw [hb] at ha; cases ha
          | true =>
          rw [hb, cond_true] at ha
          cases ha
          simp only [Bool.and_eq_true] at hb
          obtain ⟨⟨⟨hb1, hb2⟩, hb3⟩, hb4⟩ := hb
          have := beq_eq hb1
          subst this
          have e2 := ble_le hb2
          have e3 := ble_le hb3
          have e4 := ble_le hb4
          have m1 : (hh' - l) * s + l * s = hh' * s := by rw [← Nat.add_mul]; congr 1; omega
          have m2 : (m' - l) * s + l * s = m' * s := by rw [← Nat.add_mul]; congr 1; omega
          have m3 : hh' * s ≤ bn * s := Nat.mul_le_mul_right _ (by omega)
          have m4 : m' * s ≤ cap * s := Nat.mul_le_mul_right _ (by omega)
          have m6 : m' * s ≤ bn * s := Nat.mul_le_mul_right _ e4
          cases mx' with
          | none => exact hm.elim
          | some mv =>
          obtain ⟨k2, rfl⟩ := natF_spec hm hm'
          cases hi with
          | none => exact absurd (hmh rfl) (by simp)
          | some hiv =>
          cases hi' with
          | none => exact hr.elim
          | some hiu =>
          refine ⟨.slice (if m' = l then some ad else (some ad).map (·.add (l * s))) (hh' - l) (m' - l), ?_, ⟨r, if m' = l then ad else ad.add (l * s), m' - l, hr', ?_, by omega, .inr rfl, ?_, by omega, Nat.le_refl _⟩⟩
          · simp only [Instr.sliceAt, Instr.slice, Sem.run_bind, run_underlying hu, Result.andThen_ok, run_bounds3 hl rfl hr h1 h2 e2 e3 (Nat.le_trans e4 hbc), sizeA_run hs, Sem.run_pure]
          · by_cases hnl : m' = l <;> simp [hnl]
          · rcases hat with h0 | ⟨hlo, rfl, hLL, hhi, hex, hbL⟩
            · left; omega
            · by_cases hnl : m' = l
              · left; omega
              · right
                rw [if_neg hnl]
                exact ⟨by omega, by simp only [Rec.at, Addr.add_lit]; congr 1; omega, by omega, by omega, (fun h => by cases h), by omega⟩
        · cases ha
      · cases ha
    · cases ha
  · cases ha
end
end Go.Ax
