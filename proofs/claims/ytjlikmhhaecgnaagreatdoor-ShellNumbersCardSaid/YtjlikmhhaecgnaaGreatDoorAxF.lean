/- Operations under names: what handles rows. -/
import Derived.Test.YtjlikmhhaecgnaaGreatDoorAxE
import Derived.Test.YtjlikmhhaecgnaaGreatDoorSxH
namespace Go.Ax
set_option linter.unusedVariables false
open Go.Sx
section
variable {P : Program} {Z : Base} {ρ : Rho} {h : H} {w : World} {n : Nat} {f : F} {a : Act}

noncomputable def bytesV (b : ByteArray) : List V := List.rec [] (fun x _ ih => V.f (.int .u8 x.toNat) :: ih) b.data.toList
theorem bytesV_eq (b : ByteArray) : bytesV b = (bvs b.data.toList).map V.f := by
  unfold bytesV
  induction b.data.toList with
  | nil => rfl
  | cons x xs ih => simp only [List.map_cons, ← ih]
/-- What is read of: how many, and the cells. -/
noncomputable def srcA (h : H) (y : V) (sz : Nat) : Option (Nat × List V) :=
  match y with
  | .f (.string b) => bif Nat.beq sz 1 then some (b.size, bytesV b) else none
  | y => match lenS y, readS h y sz with | some m, some xs => some (m, xs) | _, _ => none
theorem firstCells_bytes (b : ByteArray) (m : Nat) (w : World) : (Builtin.firstCells 1 m (.string b)).run P w = .ok (List.toArray ((bvs b.data.toList).take m)) w := by
  have : (b.extract 0 m).data.toList = b.data.toList.take m := by simp [ByteArray.data_extract]
  simp only [Builtin.firstCells, Sem.run_pure]
  congr 1
  apply Array.ext'
  simp
theorem readS_pre {m k : Nat} (hh : HR Z ρ h w) {y : V} {u : Value} (hy : VR ρ y u) {sz : Nat} {xs : List V} (hr : readS h y sz = some xs) (hn : lenS y = some m) (hk : k ≤ m) :
    ∃ us, VRs ρ (xs.take (k * sz)) us ∧ us.length = k * sz ∧ ∀ w' : World, w'.heap = w.heap → (Builtin.firstCells sz k u).run P w' = .ok us.toArray w' := by
  cases y with
  | s i k' off n' bn c sz' =>
    simp only [lenS, Option.some.injEq] at hn
    subst hn
    obtain ⟨r, ad, cap, hrr, rfl, hcap, _, hat, _, _⟩ := hy
    simp only [readS] at hr
    cases h0 : Nat.beq n' 0 with
    | true =>
      have := beq_eq h0
      subst this
      simp only [h0, cond_true, Option.some.injEq] at hr
      subst hr
      have : k = 0 := Nat.le_zero.1 hk
      subst this
      exact ⟨[], by simp [VRs], by simp, fun w' _ => by simp [Builtin.firstCells, loadCells, loadCellsFrom]⟩
    | false =>
      have hn0 := beq_ff h0
      simp only [h0, cond_false] at hr
      split at hr
      · rename_i cells ver min ho
        cases hb : (Nat.beq sz sz' && Nat.ble min k' && Nat.ble k' ver && Nat.ble (off + n' * sz) (llen cells)) with
        | false => rw [hb] at hr; cases hr
        | true =>
          rw [hb] at hr
          simp only [cond_true, Option.some.injEq] at hr
          simp only [Bool.and_eq_true] at hb
          obtain ⟨⟨⟨h1, h2⟩, h3⟩, h4⟩ := hb
          have := beq_eq h1
          subst this
          subst hr
          have hm : k * sz ≤ n' * sz := Nat.mul_le_mul_right _ hk
          rcases hat with h | ⟨hlo, rfl, hL, _⟩
          · omega
          · obtain ⟨us, hv, hl, hc⟩ := hh.cells ho (ble_le h2) (ble_le h3) hrr hlo (n := k * sz) (by omega)
            refine ⟨us, by rw [ltake_eq, ldrop_eq, List.take_take, Nat.min_eq_left hm]; exact hv, hl, fun w' hw' => ?_⟩
            simp only [Builtin.firstCells]
            refine run_loadCells hl fun j v hj => ?_
            have := hc j v hj
            simpa [World.cell?, hw'] using this
      · cases hr
  | f v =>
    rw [show u = v from hy]
    simp only [readS] at hr
    split at hr
    · rename_i heq; cases heq
    · rename_i heq
      cases heq
      simp only [Option.some.injEq] at hr
      subst hr
      simp only [lenS, Option.some.injEq] at hn
      subst hn
      have : k = 0 := Nat.le_zero.1 hk
      subst this
      exact ⟨[], by simp [VRs], by simp, fun w' _ => by simp [Builtin.firstCells]⟩
    · cases hr
  | _ => simp [readS] at hr
theorem srcA_run (hh : HR Z ρ h w) {y : V} {u : Value} (hy : VR ρ y u) {sz m : Nat} {xs : List V} (hs : srcA h y sz = some (m, xs)) :
    (∀ w, (Builtin.lenOf u).run P w = .ok m w) ∧ ∀ k, k ≤ m → ∃ us, VRs ρ (xs.take (k * sz)) us ∧ us.length = k * sz ∧ ∀ w' : World, w'.heap = w.heap → (Builtin.firstCells sz k u).run P w' = .ok us.toArray w' := by
  unfold srcA at hs
  split at hs
  · rename_i b
    rw [show u = .string b from hy]
    cases hb : Nat.beq sz 1 with
    | false => rw [hb] at hs; cases hs
    | true =>
      rw [hb, cond_true] at hs
      simp only [Option.some.injEq, Prod.mk.injEq] at hs
      obtain ⟨rfl, rfl⟩ := hs
      have := beq_eq hb
      subst this
      refine ⟨fun w => rfl, fun k hk => ⟨(bvs b.data.toList).take k, ?_, ?_, fun w' _ => firstCells_bytes b k w'⟩⟩
      · rw [bytesV_eq, Nat.mul_one, ← List.map_take]
        exact VRs.flat _
      · have hk' : k ≤ b.data.toList.length := hk
        simp only [Nat.mul_one, List.length_take, List.length_map]
        omega
  · split at hs
    · rename_i m' xs' hn hr
      simp only [Option.some.injEq, Prod.mk.injEq] at hs
      obtain ⟨rfl, rfl⟩ := hs
      exact ⟨fun w => lenS_run hy hn w, fun k hk => readS_pre hh hy hr hn hk⟩
    · cases hs
noncomputable def lenL (x : V) : Option Nat :=
  match x with
  | .s _ _ _ n _ _ _ => some n
  | .f (.slice none 0 0) => some 0
  | _ => none
theorem lenL_spec {x : V} {u : Value} (hx : VR ρ x u) {n : Nat} (hl : lenL x = some n) : ∃ base cap, u = .slice base n cap := by
  cases x with
  | s i k off n' bn c sz' => obtain ⟨r, ad, cap, _, rfl, _⟩ := hx; simp [lenL] at hl; subst hl; exact ⟨_, _, rfl⟩
  | f q =>
    rw [show u = q from hx]
    unfold lenL at hl
    split at hl
    · rename_i heq; cases heq
    · rename_i heq; cases heq; cases hl; exact ⟨_, _, rfl⟩
    · cases hl
  | _ => simp [lenL] at hl

/-- append, as a call. -/
def okD2 (d : Option TypeDesc) : Bool := match d with | some .string => true | some (.slice _) => true | _ => false
theorem okD2_spec {d : Option TypeDesc} (h : okD2 d = true) : ∃ d2, d = some d2 ∧ (d2 = .string ∨ ∃ e2, d2 = .slice e2) := by
  unfold okD2 at h
  split at h
  · exact ⟨_, rfl, .inl rfl⟩
  · exact ⟨_, rfl, .inr ⟨_, rfl⟩⟩
  · cases h
noncomputable def appendA (P : Program) (h : H) (nm : Nat) (t t2 : TypeId) (x y : V) : Option (V × H) :=
  match elemT P t with
  | some (_, sz, bytes, zs) =>
    match srcA h y sz, lenS x with
    | some (m, ys), some n =>
      bif Nat.beq (llen zs) sz && Nat.blt 0 sz && Nat.blt 0 bytes && okD2 (P.underlying t2) && vones ys && Nat.ble ((n + m) * bytes) 1099511627776 && Nat.beq (llen ys) (m * sz) then appA h nm x m ys sz else none
    | _, _ => none
  | none => none
theorem appendA_run (hh : HR Z ρ h w) {t t2 : TypeId} {x y v : V} {ux uy : Value} (hx : VR ρ x ux) (hy : VR ρ y uy) {nm : Nat} {h' : H} (ha : appendA P h nm t t2 x y = some (v, h')) (ty : TypeId) :
    ∃ ρ' u w', ρ.le ρ' ∧ (Builtin.append_ #[t, t2] ty #[ux, uy]).run P w = .ok u w' ∧ VR ρ' v u ∧ HR Z ρ' h' w' := by
  unfold appendA at ha
  split at ha
  · rename_i e sz bytes zs ht
    split at ha
    · rename_i m ys n hsrc hlen
      cases hb : (Nat.beq (llen zs) sz && Nat.blt 0 sz && Nat.blt 0 bytes && okD2 (P.underlying t2) && vones ys && Nat.ble ((n + m) * bytes) 1099511627776 && Nat.beq (llen ys) (m * sz)) with
      | false => rw [hb] at ha; cases ha
      | true =>
      rw [hb, cond_true] at ha
      simp only [Bool.and_eq_true, Nat.blt_eq] at hb
      obtain ⟨⟨⟨⟨⟨⟨h1, h2⟩, h3⟩, h4⟩, h5⟩, h6⟩, h7⟩ := hb
      obtain ⟨d2, hd, hd2⟩ := okD2_spec h4
      have e1 := beq_eq h1
      rw [llen_eq] at e1
      have e7 := beq_eq h7
      rw [llen_eq] at e7
      obtain ⟨hlo, hrd⟩ := srcA_run (P := P) hh hy hsrc
      obtain ⟨us, hv, hl, hf⟩ := hrd m (Nat.le_refl m)
      rw [← e7, List.take_length] at hv
      exact appA_run hh ht e1 h2 h3 hd hd2 hx hv e7 hlo hf h5 hlen (by have := ble_le h6; omega) ha ty
    · cases ha
  · cases ha

/-- copy. -/
noncomputable def copyA (P : Program) (h : H) (t : TypeId) (x y : V) : Option (V × H) :=
  match elemT P t with
  | some (_, sz, _, _) =>
    match srcA h y sz, lenL x with
    | some (m, ys), some n =>
      bif Nat.beq (Nat.min m n) 0 then some (.f (.int .i64 0), h) else
      match x with
      | .s i k off _ _ _ sz' =>
        (match h.get i with
        | some (.c cells ver _) => bif Nat.beq sz sz' && Nat.beq k ver && few i && Nat.ble (off + Nat.min m n * sz) (llen cells) && vones (ltake ys (Nat.min m n * sz)) && Nat.beq (llen (ltake ys (Nat.min m n * sz))) (Nat.min m n * sz) then
            some (.f (.int .i64 (Nat.min m n : Nat)), h.set i (.c (lput cells off (ltake ys (Nat.min m n * sz))) ver ver)) else none
        | _ => none)
      | _ => none
    | _, _ => none
  | none => none
theorem copyA_run (hh : HR Z ρ h w) {t : TypeId} {ts : Array TypeId} {x y v : V} {ux uy : Value} (hx : VR ρ x ux) (hy : VR ρ y uy) {h' : H} (ht0 : ts[0]? = some t) (ha : copyA P h t x y = some (v, h')) (ty : TypeId) :
    ∃ u w', (Builtin.copy_ ts ty #[ux, uy]).run P w = .ok u w' ∧ VR ρ v u ∧ HR Z ρ h' w' := by
  unfold copyA at ha
  split at ha
  · rename_i e sz bytes zs ht
    obtain ⟨i, z, hu, hi, hzz, rfl, rfl, rfl⟩ := elemT_spec ht
    have hsz : ∀ w, (sizeOf e).run P w = .ok i.size w := fun w => by simp [sizeOf, typeInfo, hi]
    split at ha
    · rename_i m ys n hsrc hlen
      obtain ⟨hlo, hrd⟩ := srcA_run (P := P) hh hy hsrc
      obtain ⟨us, hv, hl, hf⟩ := hrd (Nat.min m n) (Nat.min_le_left _ _)
      have hslice := lenL_spec hx hlen
      obtain ⟨base, cap, rfl⟩ := hslice
      cases h0 : Nat.beq (Nat.min m n) 0 with
      | true =>
        rw [h0, cond_true] at ha
        simp only [Option.some.injEq, Prod.mk.injEq] at ha
        obtain ⟨rfl, rfl⟩ := ha
        have e0 := beq_eq h0
        rw [e0] at hf hl
        have : us = [] := List.eq_nil_of_length_eq_zero (by simpa using hl)
        subst this
        refine ⟨_, w, ?_, rfl, hh⟩
        simp only [Builtin.copy_, ht0]
        simp [run_underlying hu, hlo, hsz, e0, hf w rfl, storeCells, goInt]
        cases base <;> simp
      | false =>
        rw [h0, cond_false] at ha
        split at ha
        · rename_i i' k off n' bn c sz'
          obtain ⟨r, ad, cap', hrr, heq, hcap, hcc, hat, _, _⟩ := hx
          cases heq
          split at ha
          · rename_i cells ver min ho
            cases hb : (Nat.beq i.size sz' && Nat.beq k ver && few i' && Nat.ble (off + Nat.min m n * i.size) (llen cells) && vones (ltake ys (Nat.min m n * i.size)) && Nat.beq (llen (ltake ys (Nat.min m n * i.size))) (Nat.min m n * i.size)) with
            | false => rw [hb] at ha; cases ha
            | true =>
            rw [hb, cond_true] at ha
            simp only [Option.some.injEq, Prod.mk.injEq] at ha
            obtain ⟨rfl, rfl⟩ := ha
            simp only [Bool.and_eq_true] at hb
            obtain ⟨⟨⟨⟨⟨h1, h2⟩, h3⟩, h4⟩, h5⟩, h6⟩ := hb
            have e2 := beq_eq h2
            subst e2
            have e4 := ble_le h4
            rw [llen_eq] at e4
            have e6 := beq_eq h6
            rw [llen_eq, ltake_eq] at e6
            rw [ltake_eq] at h5
            have hmn : Nat.min m n ≤ n := Nat.min_le_right m n
            have hne := beq_ff h0
            rcases hat with hz | ⟨hlo', rfl, _⟩
            · omega
            obtain ⟨w', hrun, hh'⟩ := hh.store (P := P) h3 ho hrr hlo' (by omega) hv h5
            refine ⟨_, w', ?_, rfl, by rw [ltake_eq]; exact hh'⟩
            simp only [Builtin.copy_, ht0]
            simp [run_underlying hu, hlo, hsz, hf w rfl, goInt, hrun]
          · cases ha
        · cases ha
    · cases ha
  · cases ha

/-! Texts and bytes. -/
noncomputable def u8of (x : V) : Option Nat := match x with | .f (.int .u8 (.ofNat m)) => bif Nat.blt m 256 then some m else none | _ => none
theorem u8of_spec {x : V} {m : Nat} (h : u8of x = some m) : x = .f (bv (UInt8.ofNat m)) := by
  unfold u8of at h
  split at h
  · rename_i m'
    cases hm : Nat.blt m' 256 with
    | false => rw [hm] at h; cases h
    | true =>
      rw [hm, cond_true] at h
      cases h
      have : m < 256 := by simpa [Nat.blt_eq] using hm
      simp [bv, Nat.mod_eq_of_lt this]
  · cases h
noncomputable def u8s (xs : List V) : Option (List UInt8) :=
  List.rec (some []) (fun x _ ih => match u8of x, ih with | some m, some bs => some (UInt8.ofNat m :: bs) | _, _ => none) xs
theorem u8s_spec {xs : List V} : ∀ {bs : List UInt8}, u8s xs = some bs → xs = (bvs bs).map V.f := by
  induction xs with
  | nil => intro bs h; have h' : some [] = some bs := h; cases h'; rfl
  | cons x xs ih =>
    intro bs h
    have h' : (match u8of x, u8s xs with | some m, some bs => some (UInt8.ofNat m :: bs) | _, _ => none) = some bs := h
    split at h'
    · rename_i m bs' hm hbs
      cases h'
      rw [ih hbs, u8of_spec hm]
      rfl
    · cases h'
theorem s2b_run {t u e : TypeId} (ht : P.underlying t = some .string) (hu : P.underlying u = some (.slice e)) (he : P.underlying e = some (.int .u8)) (xs : List UInt8) :
    ∃ c rest w2, xs.length ≤ c ∧ List.length rest = c - xs.length ∧ (convert t u (str xs)).run P w = .ok (.slice (some ⟨w.heap.size, 0, none⟩) xs.length c) w2 ∧
      w2.heap[w.heap.size]? = some (.cells (List.toArray (bvs xs ++ rest)) e (c, c + 1)) ∧ (∀ j, j < w.heap.size → w2.heap[j]? = w.heap[j]?) ∧ w2.env = w.env := by
  have hb : (ByteArray.mk xs.toArray).size = xs.length := rfl
  have hm : Array.map (fun b : UInt8 => Value.int .u8 b.toNat) (ByteArray.mk xs.toArray).data = (bvs xs).toArray := by simp
  have hcle : xs.length ≤ (Question.appendCap xs.length 0 e).cut (w.tape w.drawn (.appendCap xs.length 0 e)) := Nat.le_add_right _ _
  have hcd : ∀ v w2, (do let a ← newRow e ((bvs xs).toArray ++ Array.replicate ((Question.appendCap xs.length 0 e).cut (w.tape w.drawn (.appendCap xs.length 0 e)) - xs.length) (.int .u8 0)); markStringish a; pure (.slice (some a) xs.length ((Question.appendCap xs.length 0 e).cut (w.tape w.drawn (.appendCap xs.length 0 e)))) : Sem Value).run P w.drew = .ok v w2 →
      (convert t u (str xs)).run P w = .ok v w2 := by
    intro v w2 h
    unfold convert
    simp only [run_underlying ht, run_underlying hu, run_underlying he, Sem.run_bind, Result.andThen, Conv.stringToBytes, hb, hm, run_choose_drew, Question.forced, Bool.false_eq_true, if_false]
    simpa only [Sem.run_bind, Result.andThen] using h
  generalize (Question.appendCap xs.length 0 e).cut (w.tape w.drawn (.appendCap xs.length 0 e)) = c at hcd hcle
  have hsz : ((bvs xs).toArray ++ Array.replicate (c - xs.length) (Value.int .u8 0)).size = c := by simp; omega
  have hcur : (bvs xs).toArray ++ Array.replicate (c - xs.length) (Value.int .u8 0) = List.toArray (bvs xs ++ List.replicate (c - xs.length) (Value.int .u8 0)) := by apply Array.ext'; simp
  rw [hcur] at hcd hsz
  generalize hcu : List.toArray (bvs xs ++ List.replicate (c - xs.length) (Value.int .u8 0)) = cur at hcd hsz
  have h1 : (w.drew.alloc (.cells cur e)).heap[w.heap.size]? = some (.cells cur e (0, 0)) := heap_alloc_new w.drew _
  have hold : ∀ j, j < w.heap.size → (w.drew.alloc (.cells cur e)).heap[j]? = w.heap[j]? := fun j hj => heap_alloc_old w.drew _ hj
  have henv : (w.drew.alloc (.cells cur e)).env = w.env := rfl
  generalize hw1 : w.drew.alloc (.cells cur e) = w1 at *
  have h2 : (w1.freeze { block := w.heap.size, off := c } 1).heap[w.heap.size]? = some (.cells cur e (c, c + 1)) := by
    simp [World.freeze, Array.getElem?_modify, h1]
  have hmark : (markStringish ⟨w.heap.size, 0, none⟩).run P w1 = .ok () (w1.freeze { block := w.heap.size, off := c } 1) := by
    have hsh : w1.shape? w.heap.size = some (e, c) := by simp [World.shape?, h1, hsz]
    simp [markStringish, shape, Sem.run, hsh, freeze]
  have hnew : (newRow e cur).run P w.drew = .ok ⟨w.heap.size, 0, none⟩ w1 := by
    rw [← hw1]; rfl
  refine ⟨c, List.replicate (c - xs.length) (.int .u8 0), w1.freeze { block := w.heap.size, off := c } 1, hcle, by simp, hcd _ _ ?_, by rw [hcu]; exact h2, fun j hj => ?_, ?_⟩
  · simp only [Sem.run_bind, hnew, Result.andThen, hmark, Sem.run_pure]
  · rw [← hold j hj]
    have hne : w.heap.size ≠ j := by omega
    simp [World.freeze, Array.getElem?_modify, hne]
  · rw [← henv]
    simp [World.freeze, World.env]

noncomputable def convA (P : Program) (h : H) (nm : Nat) (t u : TypeId) (x : V) : Option (V × H) :=
  match P.underlying t, P.underlying u with
  | some (.slice e), some .string =>
    (match P.underlying e with
    | some (.int .u8) =>
      (match readS h x 1 with
      | some xs => (match u8s xs with
        | some bs => some (.f (.string ⟨List.toArray bs⟩), h)
        | none => none)
      | none => none)
    | _ => none)
  | some .string, some (.slice e) =>
    (match P.underlying e, x with
    | some (.int .u8), .f (.string b) =>
      (match h.get nm with
      | none => bif few nm then some (.s nm 0 0 b.size b.size none 1, h.set nm (.c (bytesV b) 0 0)) else none
      | some _ => none)
    | _, _ => none)
  | _, _ => none
theorem convA_run (hh : HR Z ρ h w) {t u : TypeId} {x v : V} {y : Value} (hx : VR ρ x y) {nm : Nat} {h' : H} (ha : convA P h nm t u x = some (v, h')) :
    ∃ ρ' z w', ρ.le ρ' ∧ (convert t u y).run P w = .ok z w' ∧ VR ρ' v z ∧ HR Z ρ' h' w' := by
  unfold convA at ha
  split at ha
  · rename_i e ht hu
    split at ha
    · rename_i he
      split at ha
      · rename_i xs hr
        split at ha
        · rename_i bs hbs
          simp only [Option.some.injEq, Prod.mk.injEq] at ha
          obtain ⟨rfl, rfl⟩ := ha
          obtain ⟨m, hm⟩ : ∃ m, lenS x = some m := by
            cases x with
            | s => exact ⟨_, rfl⟩
            | f q =>
              unfold readS at hr
              split at hr
              · rename_i heq; cases heq
              · rename_i heq; cases heq; exact ⟨0, rfl⟩
              · cases hr
            | _ => simp [readS] at hr
          obtain ⟨us, hv, hl, hf, hcells⟩ := readS_run (P := P) hh hx hr hm
          rw [u8s_spec hbs] at hv
          have hus : us = bvs bs := VRs.flats (xs := (bvs bs).map V.f) (vs := bvs bs) (by
            generalize bvs bs = l
            induction l with
            | nil => rfl
            | cons v l ih => rw [List.map_cons, flats_cons, ih]) hv
          subst hus
          refine ⟨ρ, str bs, w, Rho.le.refl ρ, ?_, rfl, hh⟩
          have hlen : bs.length = m := by simpa using hl
          subst hlen
          have hsl : (y = .slice none 0 0 ∧ bs = []) ∨ ∃ ad cap, y = .slice (some ad) bs.length cap := by
            cases x with
            | s i k off n' bn c sz' => obtain ⟨r, ad, cap, _, rfl, _⟩ := hx; simp [lenS] at hm; subst hm; exact .inr ⟨_, _, rfl⟩
            | f q =>
              rw [show y = q from hx]
              unfold readS at hr
              split at hr
              · rename_i heq; cases heq
              · rename_i heq
                cases heq
                cases hr
                have hxx := u8s_spec hbs
                left
                exact ⟨rfl, by
                  have := congrArg List.length hxx
                  simp at this
                  exact List.eq_nil_of_length_eq_zero this.symm⟩
              · cases hr
            | _ => simp [readS] at hr
          rcases hsl with ⟨rfl, rfl⟩ | ⟨ad, cap, rfl⟩
          · rw [run_convert_bytes_nil w t e ht he 0 0 u hu]; rfl
          · by_cases hbs0 : bs = []
            · subst hbs0
              unfold convert
              simp [run_underlying ht, run_underlying he, run_underlying hu, Conv.bytesToString, loadCells, loadCellsFrom]
              rfl
            obtain ⟨b0, off0, spot0⟩ := ad
            have hspot : spot0 = none := by
              have hpos : 0 < bs.length := List.length_pos_iff.2 hbs0
              cases x with
              | s i k off n' bn c sz' =>
                obtain ⟨r, ad, cap', hrr, heq, hcap, _, hat, _, _⟩ := hx
                cases heq
                rcases hat with h0 | ⟨_, hat, _⟩
                · omega
                · cases hat; rfl
              | f q => rw [show q = _ from hx.symm] at hr; simp [readS] at hr
              | _ => simp [readS] at hr
            subst hspot
            refine run_convert_bytes_back w t u e ⟨b0, off0, none⟩ cap bs ht he hu fun j hj => ?_
            exact hcells _ _ _ rfl j _ (by simp [List.getElem?_eq_getElem hj])
        · cases ha
      · cases ha
    · cases ha
  · rename_i e ht hu
    split at ha
    · rename_i b he
      split at ha
      · rename_i hnone
        cases hfew : few nm with
        | false => rw [hfew] at ha; cases ha
        | true =>
        rw [hfew, cond_true] at ha
        simp only [Option.some.injEq, Prod.mk.injEq] at ha
        obtain ⟨rfl, rfl⟩ := ha
        rw [show y = .string b from hx]
        obtain ⟨⟨xs⟩⟩ := b
        obtain ⟨c, rest, w2, hc, hrl, hrun, hw2, hpush, henv⟩ := s2b_run (P := P) (w := w) ht hu he xs
        rw [bytesV_eq]
        obtain ⟨hle, hh'⟩ := hh.allocW (w' := w2) (cs := (bvs xs).map V.f) hfew hnone rest (VRs.flat _) henv hpush hw2 (.inr (by simp [hrl]; omega))
        refine ⟨_, _, w2, hle, hrun, ⟨_, _, c, Rho.add_self _ _ _ _, rfl, hc, .inl rfl, .inr ⟨Nat.le_refl _, by simp [Rec.at], ?_, ?_, (fun _ => ?_), by simp [ByteArray.size]⟩, Nat.le_refl _, hc⟩, hh'⟩
        · simp [ByteArray.size]
        · simp [hrl]; omega
        · simp [hrl]; omega
      · cases ha
    · cases ha
  · cases ha

/-! Rows made, built. -/
noncomputable def repV (zs : List V) (c : Nat) : List V := Nat.rec [] (fun _ ih => lapp zs ih) c
theorem repV_eq (zs : List Value) : ∀ c, repV (zs.map V.f) c = ((List.replicate c zs).flatten).map V.f
  | 0 => rfl
  | c + 1 => by
    show lapp (zs.map V.f) (repV (zs.map V.f) c) = _
    rw [lapp_eq, repV_eq zs c, List.replicate_succ, List.flatten_cons, List.map_append]
noncomputable def makeSA (P : Program) (h : H) (nm : Nat) (t : TypeId) (l c : V) : Option (V × H) :=
  match elemT P t with
  | some (_, sz, bytes, zs) =>
    match natF l, natF c with
    | some l, some c =>
      bif Nat.beq (llen zs) sz && Nat.ble l c && Nat.ble (bytes * c) 1099511627776 && Nat.ble c 1099511627776 then
        (match newA h nm (repV (zs.map V.f) c) with | some h' => some (.s nm 0 0 l c (some c) sz, h') | none => none)
      else none
    | _, _ => none
  | none => none
theorem makeSA_run (hh : HR Z ρ h w) {t : TypeId} {l c v : V} {ul uc : Value} (hl : VR ρ l ul) (hc : VR ρ c uc) {nm : Nat} {h' : H} (ha : makeSA P h nm t l c = some (v, h')) :
    ∃ ρ' z w', ρ.le ρ' ∧ (Instr.makeSlice t ul uc).run P w = .ok z w' ∧ VR ρ' v z ∧ HR Z ρ' h' w' := by
  unfold makeSA at ha
  split at ha
  · rename_i e sz bytes zs ht
    split at ha
    · rename_i l' c' hl' hc'
      cases hb : (Nat.beq (llen zs) sz && Nat.ble l' c' && Nat.ble (bytes * c') 1099511627776 && Nat.ble c' 1099511627776) with
      | false => rw [hb] at ha; cases ha
      | true =>
      rw [hb, cond_true] at ha
      simp only [Bool.and_eq_true] at hb
      obtain ⟨⟨⟨h1, h2⟩, h3⟩, h4⟩ := hb
      have e1 := beq_eq h1
      rw [llen_eq] at e1
      have e2 := ble_le h2
      have e3 := ble_le h3
      have e4 := ble_le h4
      split at ha
      · rename_i h1' hn
        simp only [Option.some.injEq, Prod.mk.injEq] at ha
        obtain ⟨rfl, rfl⟩ := ha
        obtain ⟨k, rfl⟩ := natF_spec hl hl'
        obtain ⟨k2, rfl⟩ := natF_spec hc hc'
        obtain ⟨i, z, hu, hi, hz, rfl, rfl, rfl⟩ := elemT_spec ht
        rw [repV_eq] at hn
        have hzs : z.cells.toList.length = i.size := e1
        have hr := run_make (P := P) w _ e i z hu hi hz k k2 (l' : Int) (c' : Int) (by omega) (by omega) (by
          have : ((i.bytes : Int) * (c' : Int)) = ((i.bytes * c' : Nat) : Int) := by simp
          omega) (by omega)
        have hmade : madeCells z.cells (c' * i.size) = List.toArray (List.replicate c' z.cells.toList).flatten := by
          have := made_take z.cells i.size c' c' (by simpa using hzs) (Nat.le_refl _)
          apply Array.ext'
          rw [← this, List.take_of_length_le (by simp [size_madeCells])]
        obtain ⟨ρ', hle, hrr, hh'⟩ := newA_run hh (VRs.flat (List.replicate c' z.cells.toList).flatten) hn e
        have hlen : (List.replicate c' z.cells.toList).flatten.length = c' * i.size := by simp [hzs]
        have hm := Nat.mul_le_mul_right i.size e2
        refine ⟨ρ', _, _, hle, hr, ⟨_, ⟨w.heap.size, 0, none⟩, c', hrr, by simp, e2, .inr rfl, .inr ⟨Nat.le_refl 0, by simp [Rec.at], ?_, ?_, (fun h => by cases h), ?_⟩, e2, Nat.le_refl _⟩, ?_⟩
        · show 0 + l' * i.size ≤ (List.replicate c' z.cells.toList).flatten.length; rw [hlen]; omega
        · show 0 + c' * i.size ≤ (List.replicate c' z.cells.toList).flatten.length; rw [hlen]; omega
        · show 0 + c' * i.size ≤ (List.replicate c' z.cells.toList).flatten.length; rw [hlen]; omega
        · simp only [Int.toNat_natCast, hmade]
          exact hh'
      · cases ha
    · cases ha
  · cases ha

/-- Parts are laid into a row. -/
noncomputable def fillV (place : Nat → Option (Nat × Nat)) (ps : List (Nat × V)) : List V → Option (List V) :=
  List.rec (fun cells => some cells) (fun p _ ih cells => match place p.1 with
    | some (off, size) => bif Nat.beq (llen p.2.cells) size && Nat.ble (off + size) (llen cells) then ih (lput cells off p.2.cells) else none
    | none => none) ps
def PR (ρ : Rho) : List (Nat × V) → List (Nat × Value) → Prop
  | [], qs => qs = []
  | p :: ps, qs => ∃ u qs', qs = (p.1, u) :: qs' ∧ VR ρ p.2 u ∧ PR ρ ps qs'
theorem foldl_put (off : Nat) : ∀ (vs : List Value) (k : Nat) (us : List Value), (vs.zipIdx k).foldl (fun (cs : Array Value) (cj : Value × Nat) => cs.setIfInBounds (off + cj.2) cj.1) (List.toArray us) = List.toArray (put us (off + k) vs)
  | [], k, us => rfl
  | v :: vs, k, us => by
    rw [List.zipIdx_cons, List.foldl_cons]
    have : (List.toArray us).setIfInBounds (off + k) v = List.toArray (us.set (off + k) v) := by simp
    rw [this, foldl_put off vs (k + 1)]
    rfl
theorem lput_rel {ρ : Rho} {cells vs : List V} {us ws : List Value} (h : VRs ρ cells us) (h' : VRs ρ vs ws) {off : Nat} (hl : off + vs.length ≤ cells.length) : VRs ρ (lput cells off vs) (put us off ws) := by
  have e1 := h.len
  have e2 := h'.len
  refine VRs.of (by rw [put_length, lput_len hl, e1]) fun j x hx => ?_
  rw [lput_get hl] at hx
  rw [put_get' (by omega)]
  split at hx
  · rename_i hj
    rw [if_pos (by omega)]
    exact h'.get _ _ hx
  · rename_i hj
    rw [if_neg (by omega)]
    exact h.get _ _ hx
theorem fillV_run {place : Nat → Option (Nat × Nat)} : ∀ {ps : List (Nat × V)} {qs : List (Nat × Value)} {cells cells' : List V} {us : List Value}, PR ρ ps qs → VRs ρ cells us → fillV place ps cells = some cells' →
    ∃ us', Instr.fill place (List.toArray us) qs = some (List.toArray us') ∧ VRs ρ cells' us'
  | [], _, cells, cells', us, e, hc, hf => by
    have hf' : some cells = some cells' := hf
    cases hf'
    rw [show _ = _ from e]
    exact ⟨us, rfl, hc⟩
  | p :: ps, _, cells, cells', us, ⟨u, qs, e, hp, hps⟩, hc, hf => by
    subst e
    have hf' : (match place p.1 with
      | some (off, size) => bif Nat.beq (llen p.2.cells) size && Nat.ble (off + size) (llen cells) then fillV place ps (lput cells off p.2.cells) else none
      | none => none) = some cells' := hf
    split at hf'
    · rename_i off size hpl
      cases hb : (Nat.beq (llen p.2.cells) size && Nat.ble (off + size) (llen cells)) with
      | false => rw [hb] at hf'; cases hf'
      | true =>
      rw [hb, cond_true] at hf'
      simp only [Bool.and_eq_true] at hb
      have e1 := beq_eq hb.1
      have e2 := ble_le hb.2
      rw [llen_eq] at e1 e2
      have hpc := hp.cells
      have e3 := hpc.len
      have e4 := hc.len
      obtain ⟨us', h1, h2⟩ := fillV_run hps (lput_rel hc hpc (off := off) (by omega)) hf'
      refine ⟨us', ?_, h2⟩
      simp only [Instr.fill, hpl]
      rw [if_neg (by
        simp only [Array.length_toList] at e3
        simp only [List.size_toArray]
        simp
        omega)]
      rw [← h1]
      congr 1
      have := foldl_put off u.cells.toList 0 us
      simp only [Nat.add_zero] at this
      rw [← this]
      rw [← Array.foldl_toList]
      simp
    · cases hf'
theorem fillV_len {place : Nat → Option (Nat × Nat)} : ∀ {ps : List (Nat × V)} {cells cells' : List V}, fillV place ps cells = some cells' → cells'.length = cells.length
  | [], cells, cells', hf => by
    have hf' : some cells = some cells' := hf
    cases hf'
    rfl
  | p :: ps, cells, cells', hf => by
    have hf' : (match place p.1 with
      | some (off, size) => bif Nat.beq (llen p.2.cells) size && Nat.ble (off + size) (llen cells) then fillV place ps (lput cells off p.2.cells) else none
      | none => none) = some cells' := hf
    split at hf'
    · rename_i off size hpl
      cases hb : (Nat.beq (llen p.2.cells) size && Nat.ble (off + size) (llen cells)) with
      | false => rw [hb] at hf'; cases hf'
      | true =>
      rw [hb, cond_true] at hf'
      simp only [Bool.and_eq_true] at hb
      have e1 := beq_eq hb.1
      have e2 := ble_le hb.2
      rw [llen_eq] at e1 e2
      rw [fillV_len hf', lput_len (by omega)]
    · cases hf'
noncomputable def partsV (f : F) (ps : List (Nat × Operand)) : List (Nat × V) := List.rec [] (fun p _ ih => (p.1, av f p.2) :: ih) ps
theorem partsV_rel (hf : FR ρ n f a) : ∀ ps : List (Nat × Operand), PR ρ (partsV f ps) (ps.map fun p => (p.1, a.eval p.2))
  | [] => rfl
  | p :: ps => ⟨_, _, rfl, hf.av p.2, partsV_rel hf ps⟩
noncomputable def buildSA (P : Program) (h : H) (nm : Nat) (t : TypeId) (len : Nat) (ps : List (Nat × V)) : Option (V × H) :=
  match elemT P t with
  | some (_, sz, _, zs) =>
    bif Nat.beq (llen zs) sz && Nat.ble (len * sz) 16777216 then
      (match fillV (fun i => some (i * sz, sz)) ps (repV (zs.map V.f) len) with
      | some cells => (match newA h nm cells with | some h' => some (.s nm 0 0 len len (some len) sz, h') | none => none)
      | none => none)
    else none
  | none => none
theorem buildSA_run (hh : HR Z ρ h w) {t : TypeId} {len : Nat} {ps : List (Nat × V)} {qs : Array (Nat × Value)} (hp : PR ρ ps qs.toList) {nm : Nat} {v : V} {h' : H} (ha : buildSA P h nm t len ps = some (v, h')) :
    ∃ ρ' z w', ρ.le ρ' ∧ (Instr.buildSlice t len qs).run P w = .ok z w' ∧ VR ρ' v z ∧ HR Z ρ' h' w' := by
  unfold buildSA at ha
  split at ha
  · rename_i e sz bytes zs ht
    cases hb : (Nat.beq (llen zs) sz && Nat.ble (len * sz) 16777216) with
    | false => rw [hb] at ha; cases ha
    | true =>
    rw [hb, cond_true] at ha
    simp only [Bool.and_eq_true] at hb
    have e1 := beq_eq hb.1
    rw [llen_eq] at e1
    have e2 := ble_le hb.2
    split at ha
    · rename_i cells hfill
      split at ha
      · rename_i h1 hn
        simp only [Option.some.injEq, Prod.mk.injEq] at ha
        obtain ⟨rfl, rfl⟩ := ha
        obtain ⟨i, z, hu, hi, hz, rfl, rfl, rfl⟩ := elemT_spec ht
        rw [repV_eq] at hfill
        obtain ⟨us', hfl, hv⟩ := fillV_run (place := fun j => some (j * i.size, i.size)) hp (VRs.flat (List.replicate len z.cells.toList).flatten) hfill
        obtain ⟨ρ', hle, hrr, hh'⟩ := newA_run hh hv hn e
        have hzs : z.cells.toList.length = i.size := e1
        have hlen : us'.length = len * i.size := by
          rw [hv.len, fillV_len hfill]
          simp [hzs]
        refine ⟨ρ', .slice (some ⟨w.heap.size, 0, none⟩) len len, _, hle, ?_, ⟨_, ⟨w.heap.size, 0, none⟩, len, hrr, rfl, Nat.le_refl _, .inr rfl, .inr ⟨Nat.le_refl 0, by simp [Rec.at], ?_, ?_, (fun h => by cases h), ?_⟩, Nat.le_refl _, Nat.le_refl _⟩, hh'⟩
        · have hmade : (Array.range (len * i.size)).map (z.cells[· % z.cells.size]!) = List.toArray (List.replicate len z.cells.toList).flatten := by
            have := made_take z.cells i.size len len (by simpa using hzs) (Nat.le_refl _)
            apply Array.ext'
            rw [← this, List.take_of_length_le (by simp [size_madeCells])]
            rfl
          have hno : ¬ (len * i.size > 2 ^ 24) := by
            rw [show (2 : Nat) ^ 24 = 16777216 from by decide]
            omega
          have hsz : (sizeOf e).run P w = .ok i.size w := by simp [sizeOf, typeInfo, hi]
          have hze : (zeroValue e).run P w = .ok z w := by simp [zeroValue, typeInfo, hi, hz]
          by_cases h0 : len * i.size = 0
          · have hnil : (List.replicate len z.cells.toList).flatten = [] := List.eq_nil_of_length_eq_zero (by simp [hzs, h0])
            rw [hnil] at hfl
            simp only [Instr.buildSlice, Sem.run_bind, run_underlying hu, Result.andThen_ok, hsz, h0, if_true]
            simp [show (Array.map (fun _ : Nat => (default : Value)) (Array.range 0)) = #[] from Array.eq_empty_of_size_eq_zero (by simp), hfl, newRow]
          · simp only [Instr.buildSlice, Sem.run_bind, run_underlying hu, Result.andThen_ok, hsz, if_neg hno, if_neg h0, hze, Sem.run_pure, hmade, hfl]
            simp [newRow]
        · show 0 + len * i.size ≤ us'.length; rw [hlen]; omega
        · show 0 + len * i.size ≤ us'.length; rw [hlen]; omega
        · show 0 + len * i.size ≤ us'.length; rw [hlen]; omega
      · cases ha
    · cases ha
  · cases ha

/-! A struct or an array out of parts. -/
noncomputable def placesA (P : Program) (fs : List Field) : Option (List (Nat × Nat)) := List.rec (some []) (fun f _ ih => match ih, sizeA P f.type with | some l, some s => some ((f.offset, s) :: l) | _, _ => none) fs
theorem placesA_run : ∀ {fs : List Field} {ps : List (Nat × Nat)}, placesA P fs = some ps → ∀ w : World, (fs.mapM (m := Sem) fun f => do pure (f.offset, ← sizeOf f.type)).run P w = .ok ps w
  | [], ps, h, w => by
    have h' : some [] = some ps := h
    cases h'
    rfl
  | f :: fs, ps, h, w => by
    have h' : (match placesA P fs, sizeA P f.type with | some l, some s => some ((f.offset, s) :: l) | _, _ => none) = some ps := h
    split at h'
    · rename_i l s hl hs
      cases h'
      rw [List.mapM_cons]
      simp only [Sem.run_bind, sizeA_run hs, Result.andThen_ok, Sem.run_pure, placesA_run hl]
    · cases h'
noncomputable def buildA (P : Program) (t : TypeId) (ps : List (Nat × V)) : Option V :=
  match zeroA P t, P.underlying t with
  | some z, some (.struct fs) =>
    (match placesA P fs.toList with
    | some pl => (match fillV (fun i => lget pl i) ps (z.cells.toList.map V.f) with | some cells => some (mkA cells) | none => none)
    | none => none)
  | some z, some (.array _ e) =>
    (match sizeA P e with
    | some s => (match fillV (fun i => some (i * s, s)) ps (z.cells.toList.map V.f) with | some cells => some (mkA cells) | none => none)
    | none => none)
  | _, _ => none
theorem buildA_run {t : TypeId} {ps : List (Nat × V)} {qs : Array (Nat × Value)} (hp : PR ρ ps qs.toList) {v : V} (ha : buildA P t ps = some v) : ∃ u, (∀ w : World, (Instr.build t qs).run P w = .ok u w) ∧ VR ρ v u := by
  unfold buildA at ha
  split at ha
  · rename_i z fs hz hu
    split at ha
    · rename_i pl hpl
      split at ha
      · rename_i cells hf
        cases ha
        obtain ⟨us', h1, h2⟩ := fillV_run hp (VRs.flat z.cells.toList) hf
        refine ⟨.agg (List.toArray us'), fun w => ?_, mkA_rel h2⟩
        have hplaces : (fs.mapM (m := Sem) fun f => do pure (f.offset, ← sizeOf f.type)).run P w = .ok (List.toArray pl) w := by
          rw [Array.mapM_eq_mapM_toList]
          simp only [Sem.run_map, placesA_run hpl, Result.andThen_ok]
        have hfun : (fun i => lget pl i) = ((List.toArray pl)[·]?) := by funext i; rw [lget_eq]; simp
        rw [hfun] at h1
        simp only [Instr.build, Sem.run_bind, zeroA_run hz, Result.andThen_ok, run_underlying hu, hplaces]
        rw [show z.cells = List.toArray z.cells.toList by simp, h1]
        rfl
      · cases ha
    · cases ha
  · rename_i z len e hz hu
    split at ha
    · rename_i s hs
      split at ha
      · rename_i cells hf
        cases ha
        obtain ⟨us', h1, h2⟩ := fillV_run hp (VRs.flat z.cells.toList) hf
        refine ⟨.agg (List.toArray us'), fun w => ?_, mkA_rel h2⟩
        simp only [Instr.build, Sem.run_bind, zeroA_run hz, Result.andThen_ok, run_underlying hu, sizeA_run hs]
        rw [show z.cells = List.toArray z.cells.toList by simp, h1]
        rfl
      · cases ha
    · cases ha
  · cases ha

theorem mkT2 {x : V} {u b : Value} (h : VR ρ x u) : VR ρ (mkT [x, .f b]) (.tuple #[u, b]) := mkT_rel (xs := [x, .f b]) (us := [u, b]) ⟨_, _, rfl, h, _, _, rfl, rfl, rfl⟩
/-! Type assertions. -/
noncomputable def assertA (P : Program) (t : TypeId) (v : V) (asserted : TypeId) (ok : Bool) : Option V :=
  match P.underlying asserted with
  | some (.interface want) => (match P.info? t with
    | some i => (match Instr.missingMethod want i.methods with
      | none => some (bif ok then mkT [.i t v, .f (.bool true)] else .i t v)
      | some _ => none)
    | none => none)
  | some _ => bif Nat.beq t asserted then some (bif ok then mkT [v, .f (.bool true)] else v) else
      (bif ok then (match zeroA P asserted with | some z => some (mkT [.f z, .f (.bool false)]) | none => none) else none)
  | none => none
theorem assertA_run {t xt asserted : TypeId} {v q : V} {u : Value} {ok : Bool} (hv : VR ρ v u) (ha : assertA P t v asserted ok = some q) : ∃ z, (∀ w : World, (Instr.typeAssert (.iface t u) xt asserted ok).run P w = .ok z w) ∧ VR ρ q z := by
  unfold assertA at ha
  split at ha
  · rename_i want hu
    split at ha
    · rename_i i hi
      split at ha
      · rename_i hm
        cases ha
        cases ok with
        | true =>
          refine ⟨.tuple #[.iface t u, .bool true], fun w => ?_, mkT2 (x := .i t v) (u := .iface t u) ⟨u, rfl, hv⟩⟩
          simp [Instr.typeAssert, run_underlying hu, typeInfo, hi, hm]
        | false =>
          refine ⟨.iface t u, fun w => ?_, ⟨u, rfl, hv⟩⟩
          simp [Instr.typeAssert, run_underlying hu, typeInfo, hi, hm]
      · cases ha
    · cases ha
  · rename_i d hne hu
    cases hb : Nat.beq t asserted with
    | true =>
      rw [hb, cond_true] at ha
      cases ha
      have := beq_eq hb
      subst this
      cases ok with
      | true =>
        refine ⟨.tuple #[u, .bool true], fun w => ?_, mkT2 hv⟩
        simp only [Instr.typeAssert, Sem.run_bind, run_underlying hu, Result.andThen_ok]
        cases d <;> first | (simp; done) | exact absurd hu (hne _)
      | false =>
        refine ⟨u, fun w => ?_, hv⟩
        simp only [Instr.typeAssert, Sem.run_bind, run_underlying hu, Result.andThen_ok]
        cases d <;> first | (simp; done) | exact absurd hu (hne _)
    | false =>
      have hne' := beq_ff hb
      rw [hb, cond_false] at ha
      cases ok with
      | false => cases ha
      | true =>
        rw [cond_true] at ha
        split at ha
        · rename_i z hz
          cases ha
          refine ⟨.tuple #[z, .bool false], fun w => ?_, mkT2 (x := .f z) (u := z) rfl⟩
          simp only [Instr.typeAssert, Sem.run_bind, run_underlying hu, Result.andThen_ok]
          cases d <;> first | (simp [hne', zeroA_run hz]; done) | exact absurd hu (hne _)
        · cases ha
  · cases ha
end
end Go.Ax
