/- Slices under names are read and appended to. -/
import Derived.Test.YtjlikmhhaecgnaaGreatDoorAxB
namespace Go.Ax
set_option linter.unusedVariables false
open Go.Sx

/-- The cells of a slice. -/
noncomputable def readS (h : H) (x : V) (sz : Nat) : Option (List V) :=
  match x with
  | .s i k off n _ _ sz' =>
    bif Nat.beq n 0 then some [] else
    match h.get i with
    | some (.c cells ver min) => bif Nat.beq sz sz' && Nat.ble min k && Nat.ble k ver && Nat.ble (off + n * sz) (llen cells) then some (ltake (ldrop cells off) (n * sz)) else none
    | _ => none
  | .f (.slice none 0 0) => some []
  | _ => none
noncomputable def lenS (x : V) : Option Nat :=
  match x with
  | .s _ _ _ n _ _ _ => some n
  | .f (.slice none 0 0) => some 0
  | .f (.string b) => some b.size
  | _ => none

theorem beq_eq {a b : Nat} (h : Nat.beq a b = true) : a = b := Nat.eq_of_beq_eq_true h
theorem beq_ff {a b : Nat} (h : Nat.beq a b = false) : a ≠ b := fun e => by rw [e, Nat.beq_refl] at h; cases h
theorem ble_le {a b : Nat} (h : Nat.ble a b = true) : a ≤ b := Nat.le_of_ble_eq_true h
theorem ble_ff {a b : Nat} (h : Nat.ble a b = false) : b < a := by
  rcases Nat.lt_or_ge b a with h' | h'
  · exact h'
  · rw [Nat.ble_eq_true_of_le h'] at h; cases h

/-! Values of which it can be told that they are the same. -/
def natEq (a b : Nat) : Bool := Nat.beq a b
def intEq : Int → Int → Bool
  | .ofNat a, .ofNat b => Nat.beq a b
  | .negSucc a, .negSucc b => Nat.beq a b
  | _, _ => false
theorem intEq_spec {a b : Int} (h : intEq a b = true) : a = b := by
  cases a <;> cases b <;> simp only [intEq] at h <;> first | cases h | rw [beq_eq h]
def kindEq (a b : IntKind) : Bool := match a, b with
  | .i8, .i8 | .i16, .i16 | .i32, .i32 | .i64, .i64 | .u8, .u8 | .u16, .u16 | .u32, .u32 | .u64, .u64 => true
  | _, _ => false
theorem kindEq_spec {a b : IntKind} (h : kindEq a b = true) : a = b := by cases a <;> cases b <;> first | rfl | cases h
def fkEq (a b : FloatKind) : Bool := match a, b with | .f32, .f32 | .f64, .f64 => true | _, _ => false
theorem fkEq_spec {a b : FloatKind} (h : fkEq a b = true) : a = b := by cases a <;> cases b <;> first | rfl | cases h
noncomputable def bytesEq (a : List UInt8) : List UInt8 → Bool := List.rec (fun b => match b with | [] => true | _ => false) (fun x _ ih b => match b with | [] => false | y :: ys => bif Nat.beq x.toNat y.toNat then ih ys else false) a
theorem bytesEq_spec : ∀ {a b : List UInt8}, bytesEq a b = true → a = b
  | [], [], _ => rfl
  | [], _ :: _, h => by cases h
  | _ :: _, [], h => by cases h
  | x :: xs, y :: ys, h => by
    have h' : (bif Nat.beq x.toNat y.toNat then bytesEq xs ys else false) = true := h
    cases hb : Nat.beq x.toNat y.toNat with
    | false => rw [hb] at h'; cases h'
    | true =>
      rw [hb, cond_true] at h'
      rw [bytesEq_spec h', UInt8.toNat_inj.1 (beq_eq hb)]
noncomputable def valEq0 (a b : Value) : Bool :=
  match a, b with
  | .bool a, .bool b => a == b
  | .int j a, .int k b => kindEq j k && intEq a b
  | .float j a, .float k b => fkEq j k && Nat.beq a b
  | .complex j a c, .complex k b d => fkEq j k && Nat.beq a b && Nat.beq c d
  | .string a, .string b => bytesEq a.data.toList b.data.toList
  | .pointer none, .pointer none => true
  | .slice none a c, .slice none b d => Nat.beq a b && Nat.beq c d
  | .map none, .map none => true
  | .nilFunc, .nilFunc => true
  | .nilIface, .nilIface => true
  | .func (.func f) a c, .func (.func g) b d => Nat.beq f g && Nat.beq a.size 0 && Nat.beq b.size 0 && Nat.beq c.size 0 && Nat.beq d.size 0
  | _, _ => false
theorem valEq0_spec {a b : Value} (h : valEq0 a b = true) : a = b := by
  unfold valEq0 at h
  split at h
  · rw [beq_iff_eq] at h; rw [h]
  · simp only [Bool.and_eq_true] at h; rw [kindEq_spec h.1, intEq_spec h.2]
  · simp only [Bool.and_eq_true] at h; rw [fkEq_spec h.1, beq_eq h.2]
  · simp only [Bool.and_eq_true] at h; rw [fkEq_spec h.1.1, beq_eq h.1.2, beq_eq h.2]
  · rename_i a b
    congr 1
    have := bytesEq_spec h
    cases a; cases b
    congr 1
    exact Array.ext' this
  · rfl
  · simp only [Bool.and_eq_true] at h; rw [beq_eq h.1, beq_eq h.2]
  · rfl
  · rfl
  · rfl
  · rename_i f a c g b d
    simp only [Bool.and_eq_true] at h
    obtain ⟨⟨⟨⟨h1, h2⟩, h3⟩, h4⟩, h5⟩ := h
    have e1 := beq_eq h1
    have e2 : a = #[] := Array.eq_empty_of_size_eq_zero (beq_eq h2)
    have e3 : b = #[] := Array.eq_empty_of_size_eq_zero (beq_eq h3)
    have e4 : c = #[] := Array.eq_empty_of_size_eq_zero (beq_eq h4)
    have e5 : d = #[] := Array.eq_empty_of_size_eq_zero (beq_eq h5)
    rw [e1, e2, e3, e4, e5]
  · cases h
noncomputable def valEq (a b : Value) : Bool :=
  match a, b with
  | .iface t a, .iface u b => Nat.beq t u && valEq0 a b
  | a, b => valEq0 a b
theorem valEq_spec {a b : Value} (h : valEq a b = true) : a = b := by
  unfold valEq at h
  split at h
  · simp only [Bool.and_eq_true] at h; rw [beq_eq h.1, valEq0_spec h.2]
  · exact valEq0_spec h
theorem readS_run {P : Program} {Z : Base} {ρ : Rho} {h : H} {w : World} (hh : HR Z ρ h w) {x : V} {u : Value} (hx : VR ρ x u) {sz n : Nat} {xs : List V} (hr : readS h x sz = some xs) (hn : lenS x = some n) :
    ∃ us, VRs ρ xs us ∧ us.length = n * sz ∧ (∀ w' : World, w'.heap = w.heap → (Builtin.firstCells sz n u).run P w' = .ok us.toArray w') ∧
      ∀ ad n' cap', u = .slice (some ad) n' cap' → ∀ j v, us[j]? = some v → w.cell? (ad.add j) = some v := by
  cases x with
  | s i k off n' bn c sz' =>
    simp only [lenS, Option.some.injEq] at hn
    subst hn
    obtain ⟨r, ad, cap, hrr, rfl, hcap, _, hat, hnb, hbc⟩ := hx
    simp only [readS] at hr
    cases h0 : Nat.beq n' 0 with
    | true =>
      have := beq_eq h0
      subst this
      simp only [h0, cond_true, Option.some.injEq] at hr
      subst hr
      exact ⟨[], rfl, by simp, fun w' _ => by simp [Builtin.firstCells, loadCells, loadCellsFrom], fun _ _ _ _ j v hj => by simp at hj⟩
    | false =>
      have hn0 := beq_ff h0
      simp only [h0, cond_false] at hr
      split at hr
      · rename_i cells ver min ho
        cases hb : (Nat.beq sz sz' && Nat.ble min k && Nat.ble k ver && Nat.ble (off + n' * sz) (llen cells)) with
        | false => rw [hb] at hr; cases hr
        | true =>
          rw [hb] at hr
          simp only [cond_true, Option.some.injEq] at hr
          simp only [Bool.and_eq_true] at hb
          obtain ⟨⟨⟨h1, h2⟩, h3⟩, h4⟩ := hb
          have := beq_eq h1
          subst this
          subst hr
          rcases hat with h | ⟨hlo, rfl, hL, _⟩
          · omega
          · obtain ⟨us, hv, hl, hc⟩ := hh.cells ho (ble_le h2) (ble_le h3) hrr hlo hL
            refine ⟨us, by rw [ltake_eq, ldrop_eq]; exact hv, hl, fun w' hw' => ?_, fun ad' n2 cap' he j v hj => by cases he; exact hc j v hj⟩
            simp only [Builtin.firstCells]
            refine run_loadCells hl fun j v hj => ?_
            have := hc j v hj
            simpa [World.cell?, hw'] using this
      · cases hr
  | f v =>
    rw [show u = v from hx]
    simp only [readS] at hr
    split at hr
    · rename_i heq; cases heq
    · rename_i heq
      cases heq
      simp only [Option.some.injEq] at hr
      subst hr
      simp only [lenS, Option.some.injEq] at hn
      subst hn
      exact ⟨[], rfl, by simp, fun w' _ => by simp [Builtin.firstCells], fun _ _ _ _ j v hj => by simp at hj⟩
    · cases hr
  | _ => simp [readS] at hr
theorem lenS_run {P : Program} {ρ : Rho} {x : V} {u : Value} (hx : VR ρ x u) {n : Nat} (hn : lenS x = some n) (w : World) : (Builtin.lenOf u).run P w = .ok n w := by
  cases x with
  | s i k off n' bn c sz' =>
    simp only [lenS, Option.some.injEq] at hn
    subst hn
    obtain ⟨r, ad, cap, hrr, rfl, _⟩ := hx
    rfl
  | f v =>
    rw [show u = v from hx]
    unfold lenS at hn
    split at hn
    · rename_i heq; cases heq
    · rename_i heq; cases heq; cases hn; rfl
    · rename_i heq; cases heq; cases hn; rfl
    · cases hn
  | _ => simp [lenS] at hn

/-- Append: what becomes of names. -/
noncomputable def appA (h : H) (nm : Nat) (x : V) (m : Nat) (ys : List V) (sz : Nat) : Option (V × H) :=
  match x with
  | .s i k off n b c sz' =>
    bif Nat.beq m 0 then some (x, h) else
    match h.get i with
    | some (.c cells ver min) =>
      bif Nat.beq sz sz' && Nat.ble (off + n * sz) (llen cells) && few i && few nm then
        match c with
        | none =>
          bif Nat.beq k ver && Nat.ble (n + m) b && Nat.ble (off + n * sz + llen ys) (llen cells) then some (.s i k off (n + m) b none sz, h.set i (.c (lput cells (off + n * sz) ys) ver ver)) else
          bif Nat.beq k ver then some (.s i (ver + 1) off (n + m) (n + m) none sz, h.set i (.c (lapp (ltake cells (off + n * sz)) ys) (ver + 1) (bif Nat.beq (off + n * sz) (llen cells) then min else ver + 1)))
          else none
        | some cap =>
          bif Nat.ble (n + m) cap then
            bif Nat.beq k ver && Nat.ble (off + n * sz + llen ys) (llen cells) then some (.s i k off (n + m) (bif Nat.ble (n + m) b then b else n + m) c sz, h.set i (.c (lput cells (off + n * sz) ys) ver ver)) else none
          else
            match h.get nm with
            | none => (match readS h x sz with
              | some xs => some (.s nm 0 0 (n + m) (n + m) none sz, h.set nm (.c (lapp xs ys) 0 0))
              | none => none)
            | some _ => none
      else none
    | _ => none
  | .f (.slice none 0 0) =>
    bif Nat.beq m 0 then some (x, h) else
    match h.get nm with
    | none => bif few nm then some (.s nm 0 0 m m none sz, h.set nm (.c ys 0 0)) else none
    | some _ => none
  | _ => none

section
variable {P : Program}

/-- Where there is no room. -/
theorem append_grow {t t2 e sz bytes : Nat} {zs : List Value} {d2 : TypeDesc} (ht : elemT P t = some (e, sz, bytes, zs)) (hz : zs.length = sz) (hb : 0 < bytes) (ht2 : P.underlying t2 = some d2) (hd2 : d2 = .string ∨ ∃ e2, d2 = .slice e2)
    {w : World} {a : Option Addr} {n cap : Nat} {y : Value} {m : Nat} {us0 us : List Value} (hlen : ∀ w, (Builtin.lenOf y).run P w = .ok m w) (hgt : cap < n + m) (hsz : (n + m) * bytes ≤ 140737488355328)
    (h0 : ∀ w' : World, w'.heap = w.heap → (Builtin.firstCells sz n (.slice a n cap)).run P w' = .ok us0.toArray w') (h1 : ∀ w' : World, w'.heap = w.heap → (Builtin.firstCells sz m y).run P w' = .ok us.toArray w') (ty : TypeId) :
    ∃ c rest, n + m ≤ c ∧ List.length rest = (c - (n + m)) * sz ∧
      (Builtin.append_ #[t, t2] ty #[.slice a n cap, y]).run P w = .ok (.slice (some ⟨w.heap.size, 0, none⟩) (n + m) c) { w.drew with heap := w.drew.heap.push (.cells (List.toArray (us0 ++ us ++ rest)) e) } := by
  obtain ⟨i, z, hu, hi, hzz, rfl, rfl, rfl⟩ := elemT_spec ht
  have hle : n + m ≤ 140737488355328 := Nat.le_trans (Nat.le_mul_of_pos_right _ hb) hsz
  have hfit := growslice_fits (old := cap) hgt hsz
  have hge := grownCap_ge w (n + m) cap e
  refine ⟨grownCap w (n + m) cap e, (Builtin.zeroCells z.cells (grownCap w (n + m) cap e - (n + m))).toList, hge, by
    have : z.cells.size = i.size := by simpa using hz
    simp [size_zeroCells, this], ?_⟩
  rw [append_plain hu hi hzz ht2 hd2 _ _ _ m y hlen (by omega) hb ty w (.inr (by omega)), if_neg (by omega)]
  simp [Question.forced, h0 w.drew rfl, h1 w.drew rfl, newRow, grownCap]
  congr 2
  apply Array.ext'
  simp

/-- Where there is room. -/
theorem append_room {t t2 e sz bytes : Nat} {zs : List Value} {d2 : TypeDesc} (ht : elemT P t = some (e, sz, bytes, zs)) (hb : 0 < bytes) (ht2 : P.underlying t2 = some d2) (hd2 : d2 = .string ∨ ∃ e2, d2 = .slice e2)
    {w w' : World} {ad : Addr} {n cap : Nat} {y : Value} {m : Nat} {us : List Value} (hlen : ∀ w, (Builtin.lenOf y).run P w = .ok m w) (hle : n + m ≤ cap) (h63 : n + m ≤ 140737488355328)
    (h1 : (Builtin.firstCells sz m y).run P w = .ok us.toArray w) (hst : (storeCells (ad.add (n * sz)) us).run P w = .ok () w') (ty : TypeId) :
    (Builtin.append_ #[t, t2] ty #[.slice (some ad) n cap, y]).run P w = .ok (.slice (some ad) (n + m) cap) w' := by
  obtain ⟨i, z, hu, hi, hzz, rfl, rfl, rfl⟩ := elemT_spec ht
  rw [append_plain hu hi hzz ht2 hd2 _ _ _ m y hlen (by omega) hb ty w (.inl hle), if_pos hle]
  simp [h1, hst]

theorem drew_env (w : World) : w.drew.env = w.env := rfl
theorem drew_heap (w : World) : w.drew.heap = w.heap := rfl

theorem appA_run {Z : Base} {ρ : Rho} {h h' : H} {w : World} (hh : HR Z ρ h w) {t t2 e sz bytes : Nat} {zs : List Value} {d2 : TypeDesc} (ht : elemT P t = some (e, sz, bytes, zs)) (hz : zs.length = sz) (hs : 0 < sz) (hb : 0 < bytes) (ht2 : P.underlying t2 = some d2) (hd2 : d2 = .string ∨ ∃ e2, d2 = .slice e2)
    {x v : V} {ux uy : Value} (hx : VR ρ x ux) {nm m n : Nat} {ys : List V} {us : List Value} (hys : VRs ρ ys us) (hyl : ys.length = m * sz) (hlen : ∀ w, (Builtin.lenOf uy).run P w = .ok m w) (hfc : ∀ w' : World, w'.heap = w.heap → (Builtin.firstCells sz m uy).run P w' = .ok us.toArray w')
    (h1 : vones ys = true) (hn : lenS x = some n) (hsz : (n + m) * bytes ≤ 140737488355328) (ha : appA h nm x m ys sz = some (v, h')) (ty : TypeId) :
    ∃ ρ' u w', ρ.le ρ' ∧ (Builtin.append_ #[t, t2] ty #[ux, uy]).run P w = .ok u w' ∧ VR ρ' v u ∧ HR Z ρ' h' w' := by
  have hle47 : n + m ≤ 140737488355328 := Nat.le_trans (Nat.le_mul_of_pos_right _ hb) hsz
  have hul : us.length = m * sz := by rw [hys.len, hyl]
  -- a new row
  have grow : ∀ {a : Option Addr} {cap : Nat} {us0 : List Value} {xs : List V}, cap < n + m → VRs ρ xs us0 → us0.length = n * sz → h.get nm = none → few nm = true →
      (∀ w' : World, w'.heap = w.heap → (Builtin.firstCells sz n (.slice a n cap)).run P w' = .ok us0.toArray w') →
      ∃ ρ' u w', ρ.le ρ' ∧ (Builtin.append_ #[t, t2] ty #[.slice a n cap, uy]).run P w = .ok u w' ∧ VR ρ' (.s nm 0 0 (n + m) (n + m) none sz) u ∧ HR Z ρ' (h.set nm (.c (lapp xs ys) 0 0)) w' := by
    intro a cap us0 xs hgt hxs hl0 hnone hfew h0
    obtain ⟨c, rest, hc, hrl, hrun⟩ := append_grow ht hz hb ht2 hd2 hlen hgt hsz h0 hfc ty
    have hd : HR Z ρ h w.drew := hh.same rfl rfl
    obtain ⟨hle, hh'⟩ := hd.alloc hfew hnone rest (hxs.append hys) e
    refine ⟨_, _, _, hle, hrun, ⟨_, _, c, Rho.add_self _ _ _ _, rfl, hc, .inl rfl, .inr ⟨Nat.le_refl 0, rfl, ?_, ?_, fun _ => ?_, ?_⟩, Nat.le_refl _, hc⟩, by rw [lapp_eq]; exact hh'⟩
    · simp only [List.length_append, hl0, hul, Nat.add_mul]; omega
    · simp only [List.length_append, hl0, hul, hrl, Nat.zero_add, ← Nat.add_mul]
      exact Nat.mul_le_mul_right _ (by omega)
    · simp only [List.length_append, hl0, hul, hrl, Nat.zero_add, ← Nat.add_mul]
      congr 1; omega
    · simp only [List.length_append, hl0, hul, Nat.add_mul]; omega
  cases x with
  | f q =>
    rw [show ux = q from hx]
    unfold appA at ha
    split at ha
    · rename_i heq; cases heq
    · rename_i heq
      cases heq
      simp only [lenS, Option.some.injEq] at hn
      subst hn
      cases hm : Nat.beq m 0 with
      | true =>
        simp only [hm, cond_true, Option.some.injEq, Prod.mk.injEq] at ha
        obtain ⟨rfl, rfl⟩ := ha
        have := beq_eq hm
        subst this
        obtain ⟨i, z, hu, hi, hzz, hsz', rfl, rfl⟩ := elemT_spec ht
        have hus : us = [] := List.eq_nil_of_length_eq_zero (by simpa using hul)
        subst hus
        refine ⟨ρ, .slice none 0 0, w, Rho.le.refl ρ, ?_, rfl, hh⟩
        rw [append_plain hu hi hzz ht2 hd2 _ _ _ 0 uy hlen (by omega) hb ty w (.inl (Nat.le_refl _)), if_pos (Nat.le_refl _)]
        have := hfc w rfl
        rw [← hsz'] at this
        simp [this]
      | false =>
        simp only [hm, cond_false] at ha
        split at ha
        · rename_i hnone
          cases hf : few nm with
          | false => rw [hf] at ha; cases ha
          | true =>
            rw [hf] at ha
            simp only [cond_true, Option.some.injEq, Prod.mk.injEq] at ha
            obtain ⟨rfl, rfl⟩ := ha
            have hm0 := beq_ff hm
            have := grow (a := none) (cap := 0) (us0 := []) (xs := []) (by omega) rfl (by simp) hnone hf (fun w' _ => by simp [Builtin.firstCells])
            rw [Nat.zero_add] at this
            exact this
        · cases ha
    · cases ha
  | s i k off n' bn c sz' =>
    simp only [lenS, Option.some.injEq] at hn
    subst hn
    obtain ⟨r, ad, cap, hrr, rfl, hcap, hcc, hat, hnb, hbc⟩ := hx
    simp only [appA] at ha
    cases hm : Nat.beq m 0 with
    | true =>
      simp only [hm, cond_true, Option.some.injEq, Prod.mk.injEq] at ha
      obtain ⟨rfl, rfl⟩ := ha
      have := beq_eq hm
      subst this
      have hus : us = [] := List.eq_nil_of_length_eq_zero (by simpa using hul)
      subst hus
      exact ⟨ρ, _, w, Rho.le.refl ρ, append_room ht hb ht2 hd2 hlen (by omega) hle47 (hfc w rfl) (by simp [storeCells]) ty, ⟨r, ad, cap, hrr, rfl, by omega, hcc, by simpa using hat, by omega, hbc⟩, hh⟩
    | false =>
      have hm0 := beq_ff hm
      simp only [hm, cond_false] at ha
      split at ha
      · rename_i cells ver min ho
        cases hg : (Nat.beq sz sz' && Nat.ble (off + n' * sz) (llen cells) && few i && few nm) with
        | false => rw [hg] at ha; cases ha
        | true =>
        rw [hg, cond_true] at ha
        simp only [Bool.and_eq_true] at hg
        obtain ⟨⟨⟨hg1, hg2⟩, hfi⟩, hfnm⟩ := hg
        have := beq_eq hg1
        subst this
        have hlc := ble_le hg2
        rw [llen_eq] at hlc
        have hmv := (hh.obj i _ ho).1
        split at ha
        · -- room is not known
          cases hk : Nat.beq k ver with
          | false => rw [hk] at ha; simp at ha
          | true =>
          rw [hk] at ha
          have := beq_eq hk
          subst this
          obtain ⟨r', hr', hver⟩ := (hh.obj i _ ho).2 k hmv (Nat.le_refl _)
          rw [hrr] at hr'
          cases hr'
          cases hfits : (true && Nat.ble (n' + m) bn && Nat.ble (off + n' * sz + llen ys) (llen cells)) with
          | true =>
            rw [hfits] at ha
            simp only [cond_true, Option.some.injEq, Prod.mk.injEq] at ha
            obtain ⟨rfl, rfl⟩ := ha
            simp only [Bool.true_and, Bool.and_eq_true] at hfits
            have hf1 := ble_le hfits.1
            have hl4 := ble_le hfits.2
            rw [llen_eq, llen_eq] at hl4
            have hroom : n' + m ≤ cap := Nat.le_trans hf1 hbc
            rcases hat with h0 | ⟨hlo, rfl, hLL, hhi, hex, hbL⟩
            · omega
            obtain ⟨w', hrun, hh'⟩ := hh.store (P := P) hfi ho hrr (off := off + n' * sz) (vs := ys) (us := us) (by omega) hl4 hys h1
            have hL : r.L = cells.length := hver.last (Nat.beq_refl k)
            refine ⟨ρ, _, w', Rho.le.refl ρ, append_room ht hb ht2 hd2 hlen hroom hle47 (hfc w rfl) ?_ ty, ⟨r, _, cap, hrr, rfl, hroom, .inl rfl, .inr ⟨hlo, rfl, ?_, hhi, hex, hbL⟩, hf1, hbc⟩, hh'⟩
            · rw [show (r.at off).add (n' * sz) = r.at (off + n' * sz) by simp only [Rec.at, Addr.add_lit]; congr 1; omega]
              exact hrun
            · rw [Nat.add_mul]; omega
          | false =>
          rw [hfits] at ha
          simp only [cond_false, cond_true, Option.some.injEq, Prod.mk.injEq] at ha
          obtain ⟨rfl, rfl⟩ := ha
          have hL : r.L = cells.length := hver.last (Nat.beq_refl k)
          have hcl : (cells.take (off + n' * sz) ++ ys).length = off + (n' + m) * sz := by
            rw [List.length_append, List.length_take, Nat.min_eq_left hlc, hyl, Nat.add_mul]; omega
          rw [lapp_eq, ltake_eq, llen_eq]
          -- what the elder versions keep
          have keepOld : ∀ l r', ρ i l = some r' → l ≤ k → (bif Nat.beq (off + n' * sz) cells.length then min else k + 1) ≤ l → min ≤ l ∧ off + n' * sz = cells.length := by
            intro l r' _ hl hle
            cases he : Nat.beq (off + n' * sz) cells.length with
            | true => rw [he, cond_true] at hle; exact ⟨hle, beq_eq he⟩
            | false => rw [he, cond_false] at hle; omega
          have minle : min ≤ (bif Nat.beq (off + n' * sz) cells.length then min else k + 1) := by
            cases Nat.beq (off + n' * sz) cells.length with
            | true => exact Nat.le_refl _
            | false => simp only [cond_false]; omega
          have minle' : (bif Nat.beq (off + n' * sz) cells.length then min else k + 1) ≤ k + 1 := by
            cases Nat.beq (off + n' * sz) cells.length with
            | true => simp only [cond_true]; omega
            | false => exact Nat.le_refl _
          by_cases hroom : n' + m ≤ cap
          · -- in place
            rcases hat with h0 | ⟨hlo, rfl, hLL, hhi, hex, hbL⟩
            · omega
            obtain ⟨⟨cur, ty', fr, hw, hfr, hcur, hc⟩, hvlo, hvhi, hvlen, _⟩ := hver
            have hcapsz : (n' + m) * sz ≤ cap * sz := Nat.mul_le_mul_right _ hroom
            rw [Nat.add_mul] at hcapsz
            obtain ⟨w', hrun, hb', hk', he', hs'⟩ := run_storeCells (P := P) (b := r.b) (off := r.base + (off - r.lo) + n' * sz) us 0 cur.toList w (by simpa using hw) (by simp only [Array.length_toList]; omega) (by simpa using hfr) (hys.ones h1)
            have hlast : Live h i k := live_self ho hmv (Nat.le_refl _)
            obtain ⟨hle, hh'⟩ := hh.ver (w' := w') (i := i) (k := k + 1) (r := ⟨r.b, r.base + (off - r.lo), off, r.hi, off + (n' + m) * sz⟩)
              (o := .c (cells.take (off + n' * sz) ++ ys) (k + 1) (bif Nat.beq (off + n' * sz) cells.length then min else k + 1)) hfi he'
              (fun o' ho' => by rw [ho] at ho'; cases ho'; exact ⟨Nat.lt_succ_self _, minle⟩) rfl
              (fun j l r1 hr1 hl1 _ hne => hk' _ (hh.sep _ _ _ _ _ _ hl1 hlast hr1 hrr hne))
              (fun j hj => hk' _ (ne_of_base hj (hh.new _ _ _ hlast hrr)))
              (show Z.m r.b = none from hh.new _ _ r hlast hrr)
              (fun j l r1 hr1 hl1 hne => show r1.b ≠ r.b from hh.sep _ _ _ _ _ r hl1 hlast hr1 hrr hne)
              (fun l r1 hr1 hl1 _ hbb => by
                have hal := hh.al _ _ _ _ _ hl1 hlast hr1 hrr hbb
                show r1.base + off = r.base + (off - r.lo) + r1.lo
                omega)
              (by
                refine ⟨minle', fun l hl1 hl2 => ?_⟩
                by_cases hlk : l = k + 1
                · subst hlk
                  refine ⟨_, Rho.add_self _ _ _ _, ⟨⟨List.toArray (put cur.toList (r.base + (off - r.lo) + n' * sz + 0) us), ty', fr, hb', by simpa [put_length] using hfr, ?_, ?_⟩, ?_, ?_, ?_, ?_⟩⟩
                  · simp only [List.size_toArray, put_length, Array.length_toList]; omega
                  · intro j x hjl hj hx
                    simp only at hjl hj
                    simp only [List.getElem?_toArray]
                    rw [put_get' (by simp only [Array.length_toList]; omega)]
                    rw [List.getElem?_append] at hx
                    have htl : (cells.take (off + n' * sz)).length = off + n' * sz := by rw [List.length_take, Nat.min_eq_left hlc]
                    rw [htl] at hx
                    by_cases hj1 : j < off + n' * sz
                    · rw [if_pos hj1, List.getElem?_take, if_pos hj1] at hx
                      obtain ⟨u, hu, hvu⟩ := hc j x (by omega) (by omega) hx
                      refine ⟨u, ?_, hvu.mono (Rho.le_add ?_)⟩
                      · rw [if_neg (by omega)]
                        rw [show r.base + (off - r.lo) + (j - off) = r.base + (j - r.lo) by omega]
                        simpa using hu
                      · cases hkk : ρ i (k + 1) with
                        | none => rfl
                        | some r2 => obtain ⟨o2, ho2, hle2⟩ := hh.dom _ _ _ hkk; rw [ho] at ho2; cases ho2; simp only [O.ver] at hle2; omega
                    · rw [if_neg hj1] at hx
                      obtain ⟨u, hu, hvu⟩ := hys.get _ _ hx
                      refine ⟨u, ?_, hvu.mono (Rho.le_add ?_)⟩
                      · rw [if_pos (by rw [Nat.add_mul] at hj; omega), ← hu]
                        congr 1
                        omega
                      · cases hkk : ρ i (k + 1) with
                        | none => rfl
                        | some r2 => obtain ⟨o2, ho2, hle2⟩ := hh.dom _ _ _ hkk; rw [ho] at ho2; cases ho2; simp only [O.ver] at hle2; omega
                  · show off ≤ off + (n' + m) * sz; omega
                  · show off + (n' + m) * sz ≤ r.hi; rw [Nat.add_mul]; omega
                  · show off + (n' + m) * sz ≤ _; rw [hcl]; exact Nat.le_refl _
                  · intro _; show off + (n' + m) * sz = _; rw [hcl]
                · have hlk' : l ≤ k := by omega
                  obtain ⟨r1, hr1⟩ : ∃ r1, ρ i l = some r1 := by
                    have hml : min ≤ l := Nat.le_trans minle hl1
                    obtain ⟨r1, hr1, _⟩ := (hh.obj i _ ho).2 l hml hlk'
                    exact ⟨r1, hr1⟩
                  obtain ⟨hml, hec⟩ := keepOld l r1 hr1 hlk' hl1
                  obtain ⟨r1', hr1', hv1⟩ := (hh.obj i _ ho).2 l hml hlk'
                  rw [hr1] at hr1'
                  cases hr1'
                  obtain ⟨⟨cur1, ty1, fr1, hw1, hfr1, hcur1, hc1⟩, hlo1, hhi1, hlen1, _⟩ := hv1
                  have hle' : ρ.le (ρ.add i (k + 1) ⟨r.b, r.base + (off - r.lo), off, r.hi, off + (n' + m) * sz⟩) := Rho.le_add (by
                    cases hkk : ρ i (k + 1) with
                    | none => rfl
                    | some r2 => obtain ⟨o2, ho2, hle2⟩ := hh.dom _ _ _ hkk; rw [ho] at ho2; cases ho2; simp only [O.ver] at hle2; omega)
                  refine ⟨r1, hle' _ _ _ hr1, ?_⟩
                  have hcells : ∀ j, j < r1.L → (cells.take (off + n' * sz) ++ ys)[j]? = cells[j]? := fun j hj => by
                    rw [hec, List.take_length, List.getElem?_append_left (by omega)]
                  by_cases hbb : r1.b = r.b
                  · have hal := hh.al _ _ _ _ _ (live_self ho hml hlk') hlast hr1 hrr hbb
                    rw [hbb, hw] at hw1
                    cases hw1
                    refine ⟨⟨List.toArray (put cur.toList (r.base + (off - r.lo) + n' * sz + 0) us), ty', fr, by rw [hbb]; exact hb', by simpa [put_length] using hfr, ?_, fun j x hjl hj hx => ?_⟩, hlo1, hhi1, by rw [hcl, Nat.add_mul]; omega, fun hbq => absurd (beq_eq hbq) hlk⟩
                    · simp only [List.size_toArray, put_length, Array.length_toList]; exact hcur1
                    · rw [hcells j hj] at hx
                      obtain ⟨u, hu, hvu⟩ := hc1 j x hjl hj hx
                      refine ⟨u, ?_, hvu.mono hle'⟩
                      simp only [List.getElem?_toArray]
                      rw [put_get' (by simp only [Array.length_toList]; omega), if_neg (by omega)]
                      simpa using hu
                  · refine ⟨⟨cur1, ty1, fr1, (hk' _ hbb).trans hw1, hfr1, hcur1, fun j x hjl hj hx => ?_⟩, hlo1, hhi1, by rw [hcl, Nat.add_mul]; omega, fun hbq => absurd (beq_eq hbq) hlk⟩
                    rw [hcells j hj] at hx
                    obtain ⟨u, hu, hvu⟩ := hc1 j x hjl hj hx
                    exact ⟨u, hu, hvu.mono hle'⟩)
            refine ⟨_, _, w', hle, append_room ht hb ht2 hd2 hlen hroom hle47 (hfc w rfl) (by simpa [Rec.at, Addr.add_lit] using hrun) ty, ⟨_, _, cap, Rho.add_self _ _ _ _, rfl, hroom, .inl rfl, .inr ⟨Nat.le_refl _, ?_, Nat.le_refl _, hhi, fun _ => hex rfl, Nat.le_refl _⟩, Nat.le_refl _, hroom⟩, hh'⟩
            simp [Rec.at]
          · -- it grows
            have hread : ∃ us0, VRs ρ ((cells.drop off).take (n' * sz)) us0 ∧ us0.length = n' * sz ∧ ∀ w' : World, w'.heap = w.heap → (Builtin.firstCells sz n' (.slice (some ad) n' cap)).run P w' = .ok us0.toArray w' := by
              by_cases hn0 : n' = 0
              · subst hn0
                exact ⟨[], by simp [VRs], by simp, fun w' _ => by simp [Builtin.firstCells, loadCells, loadCellsFrom]⟩
              · have hr := readS_run (P := P) hh (x := .s i k off n' bn none sz) (u := .slice (some ad) n' cap) ⟨r, ad, cap, hrr, rfl, hcap, hcc, hat, hnb, hbc⟩ (sz := sz) (n := n') (xs := (cells.drop off).take (n' * sz)) (by
                  have : Nat.beq n' 0 = false := by cases n' with | zero => exact absurd rfl hn0 | succ => rfl
                  simp only [readS, this, cond_false, ho]
                  rw [Nat.beq_refl, Nat.ble_eq_true_of_le hmv, Nat.ble_eq_true_of_le (Nat.le_refl k), llen_eq, Nat.ble_eq_true_of_le hlc]
                  simp [ltake_eq, ldrop_eq]) rfl
                obtain ⟨us0, h1, h2, h3, _⟩ := hr
                exact ⟨us0, h1, h2, h3⟩
            obtain ⟨us0, hv0, hl0, hf0⟩ := hread
            obtain ⟨c', rest, hc', hrl, hrun⟩ := append_grow ht hz hb ht2 hd2 hlen (by omega) hsz hf0 hfc ty
            have hd : HR Z ρ h w.drew := hh.same rfl rfl
            have hpush : ∀ j, j < w.heap.size → ({ w.drew with heap := w.drew.heap.push (.cells (List.toArray (us0 ++ us ++ rest)) e) } : World).heap[j]? = w.heap[j]? := fun j hj => by
              simp [Array.getElem?_push, Nat.ne_of_lt hj, drew_heap]
            obtain ⟨hle, hh'⟩ := hd.ver (w' := { w.drew with heap := w.drew.heap.push (.cells (List.toArray (us0 ++ us ++ rest)) e) }) (i := i) (k := k + 1) (r := ⟨w.heap.size, 0, off, off + c' * sz, off + (n' + m) * sz⟩)
              (o := .c (cells.take (off + n' * sz) ++ ys) (k + 1) (bif Nat.beq (off + n' * sz) cells.length then min else k + 1)) hfi rfl
              (fun o' ho' => by rw [ho] at ho'; cases ho'; exact ⟨Nat.lt_succ_self _, minle⟩) rfl
              (fun j l r1 hr1 hl1 _ hne => hpush _ (hh.lt hl1 hr1))
              (fun j hj => hpush _ (hh.base_lt hj))
              hh.fresh
              (fun j l r1 hr1 hl1 hne => Nat.ne_of_lt (hh.lt hl1 hr1))
              (fun l r1 hr1 hl1 _ hbb => absurd hbb (Nat.ne_of_lt (hh.lt hl1 hr1)))
              (by
                have hle' : ρ.le (ρ.add i (k + 1) ⟨w.heap.size, 0, off, off + c' * sz, off + (n' + m) * sz⟩) := Rho.le_add (by
                  cases hkk : ρ i (k + 1) with
                  | none => rfl
                  | some r2 => obtain ⟨o2, ho2, hle2⟩ := hh.dom _ _ _ hkk; rw [ho] at ho2; cases ho2; simp only [O.ver] at hle2; omega)
                refine ⟨minle', fun l hl1 hl2 => ?_⟩
                by_cases hlk : l = k + 1
                · subst hlk
                  have hcs : (n' + m) * sz ≤ c' * sz := Nat.mul_le_mul_right _ hc'
                  have hrest : (n' + m) * sz + rest.length = c' * sz := by rw [hrl, ← Nat.add_mul]; congr 1; omega
                  have hnm := Nat.add_mul n' m sz
                  refine ⟨_, Rho.add_self _ _ _ _, ⟨⟨List.toArray (us0 ++ us ++ rest), e, (0, 0), by simp [drew_heap], okFr_none _, ?_, fun j x hjl hj hx => ?_⟩, ?_, ?_, ?_, ?_⟩⟩
                  · simp only [List.size_toArray, List.length_append]; omega
                  · simp only at hjl hj
                    have hx' : ((cells.drop off).take (n' * sz) ++ ys)[j - off]? = some x := by
                      rw [← hx, List.getElem?_append, List.getElem?_append]
                      have htl : (cells.take (off + n' * sz)).length = off + n' * sz := by rw [List.length_take, Nat.min_eq_left hlc]
                      have htl' : ((cells.drop off).take (n' * sz)).length = n' * sz := by rw [List.length_take, List.length_drop]; omega
                      rw [htl, htl']
                      by_cases hj1 : j < off + n' * sz
                      · rw [if_pos hj1, if_pos (by omega), List.getElem?_take, if_pos (by omega), List.getElem?_take, if_pos hj1, List.getElem?_drop]
                        congr 1; omega
                      · rw [if_neg hj1, if_neg (by omega)]
                        congr 1; omega
                    obtain ⟨u, hu, hvu⟩ := (hv0.append hys).get _ _ hx'
                    refine ⟨u, ?_, hvu.mono hle'⟩
                    simp only [Nat.zero_add, List.getElem?_toArray]
                    rw [List.getElem?_append_left (by simp only [List.length_append]; omega)]
                    exact hu
                  · show off ≤ off + (n' + m) * sz; omega
                  · show off + (n' + m) * sz ≤ off + c' * sz; omega
                  · show off + (n' + m) * sz ≤ _; rw [hcl]; exact Nat.le_refl _
                  · intro _; show off + (n' + m) * sz = _; rw [hcl]
                · have hlk' : l ≤ k := by omega
                  obtain ⟨r1, hr1⟩ : ∃ r1, ρ i l = some r1 := by
                    have hml : min ≤ l := Nat.le_trans minle hl1
                    obtain ⟨r1, hr1, _⟩ := (hh.obj i _ ho).2 l hml hlk'
                    exact ⟨r1, hr1⟩
                  obtain ⟨hml, hec⟩ := keepOld l r1 hr1 hlk' hl1
                  obtain ⟨r1', hr1', hv1⟩ := (hh.obj i _ ho).2 l hml hlk'
                  rw [hr1] at hr1'
                  cases hr1'
                  have hlt := hh.lt (live_self ho hml hlk') hr1
                  obtain ⟨⟨cur1, ty1, fr1, hw1, hfr1, hcur1, hc1⟩, hlo1, hhi1, hlen1, _⟩ := hv1
                  refine ⟨r1, hle' _ _ _ hr1, ⟨⟨cur1, ty1, fr1, (hpush _ hlt).trans hw1, hfr1, hcur1, fun j x hjl hj hx => ?_⟩, hlo1, hhi1, by rw [hcl, Nat.add_mul]; omega, fun hbq => absurd (beq_eq hbq) hlk⟩⟩
                  rw [hec, List.take_length, List.getElem?_append_left (by omega)] at hx
                  obtain ⟨u, hu, hvu⟩ := hc1 j x hjl hj hx
                  exact ⟨u, hu, hvu.mono hle'⟩)
            refine ⟨_, _, _, hle, hrun, ⟨_, _, c', Rho.add_self _ _ _ _, rfl, hc', .inl rfl, .inr ⟨Nat.le_refl _, by simp [Rec.at], Nat.le_refl _, Nat.le_refl _, fun _ => rfl, Nat.le_refl _⟩, Nat.le_refl _, hc'⟩, hh'⟩
        · -- room is known
          rename_i cap'
          have hce : cap' = cap := by
            rcases hcc with h | h
            · cases h
            · cases h; rfl
          subst hce
          cases hfit : Nat.ble (n' + m) cap' with
          | true =>
            have hroom := ble_le hfit
            simp only [hfit, cond_true] at ha
            cases hg : (Nat.beq k ver && Nat.ble (off + n' * sz + llen ys) (llen cells)) with
            | false => rw [hg] at ha; cases ha
            | true =>
            rw [hg] at ha
            simp only [cond_true, Option.some.injEq, Prod.mk.injEq] at ha
            obtain ⟨rfl, rfl⟩ := ha
            simp only [Bool.and_eq_true] at hg
            obtain ⟨hg3, hg4⟩ := hg
            have := beq_eq hg3
            subst this
            have hl4 := ble_le hg4
            rw [llen_eq, llen_eq] at hl4
            rcases hat with h0 | ⟨hlo, rfl, hLL, hhi, hex, hbL⟩
            · omega
            obtain ⟨w', hrun, hh'⟩ := hh.store (P := P) hfi ho hrr (off := off + n' * sz) (vs := ys) (us := us) (by omega) hl4 hys h1
            obtain ⟨r', hr', hver⟩ := (hh.obj i _ ho).2 k hmv (Nat.le_refl _)
            rw [hrr] at hr'
            cases hr'
            have hL : r.L = cells.length := hver.last (Nat.beq_refl k)
            have hbnd : n' + m ≤ (bif Nat.ble (n' + m) bn then bn else n' + m) ∧ (bif Nat.ble (n' + m) bn then bn else n' + m) ≤ cap' ∧ off + (bif Nat.ble (n' + m) bn then bn else n' + m) * sz ≤ r.L := by
              cases hbb : Nat.ble (n' + m) bn with
              | true => exact ⟨ble_le hbb, hbc, hbL⟩
              | false => exact ⟨Nat.le_refl _, hroom, by rw [cond_false, Nat.add_mul]; omega⟩
            refine ⟨ρ, _, w', Rho.le.refl ρ, append_room ht hb ht2 hd2 hlen hroom hle47 (hfc w rfl) ?_ ty, ⟨r, _, cap', hrr, rfl, hroom, .inr rfl, .inr ⟨hlo, rfl, ?_, hhi, (fun h => by cases h), hbnd.2.2⟩, hbnd.1, hbnd.2.1⟩, hh'⟩
            · rw [show (r.at off).add (n' * sz) = r.at (off + n' * sz) by simp only [Rec.at, Addr.add_lit]; congr 1; omega]
              exact hrun
            · rw [Nat.add_mul]; omega
          | false =>
            have hgt := ble_ff hfit
            simp only [hfit, cond_false] at ha
            split at ha
            · rename_i hnone
              split at ha
              · rename_i xs hxs
                simp only [Option.some.injEq, Prod.mk.injEq] at ha
                obtain ⟨rfl, rfl⟩ := ha
                obtain ⟨us0, hv0, hl0, hf0, _⟩ := readS_run (P := P) hh (x := .s i k off n' bn (some cap') sz) (u := .slice (some ad) n' cap') ⟨r, ad, cap', hrr, rfl, hcap, hcc, hat, hnb, hbc⟩ hxs rfl
                exact grow hgt hv0 hl0 hnone hfnm hf0
              · cases ha
            · cases ha
      · cases ha
  | _ => simp [lenS] at hn
end
end Go.Ax
