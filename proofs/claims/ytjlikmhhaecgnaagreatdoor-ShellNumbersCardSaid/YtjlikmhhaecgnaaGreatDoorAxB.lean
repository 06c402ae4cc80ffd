/- What is read and written under names. -/
import Derived.Test.YtjlikmhhaecgnaaGreatDoorAxA
namespace Go.Ax
set_option linter.unusedVariables false
open Go.Sx

theorem env_push (w : World) (o : Obj) : ({ w with heap := w.heap.push o } : World).env = w.env := rfl
theorem live_self {h : H} {i : Nat} {o : O} (ho : h.get i = some o) {k : Nat} (h1 : o.min ≤ k) (h2 : k ≤ o.ver) : Live h i k := ⟨o, ho, h1, h2⟩

/-- What has a name is turned, its versions stay. -/
theorem HR.upd {Z : Base} {ρ : Rho} {h : H} {w w' : World} (hh : HR Z ρ h w) {i : Nat} {o o' : O} (hf : few i = true) (ho : h.get i = some o) (hv : o'.ver = o.ver) (hm : o.min ≤ o'.min)
    (he : w'.env = w.env)
    (hkeep : ∀ j l r', ρ j l = some r' → Live h j l → j ≠ i → w'.heap[r'.b]? = w.heap[r'.b]?)
    (hbase : ∀ j, Z.m j ≠ none → w'.heap[j]? = w.heap[j]?) (hOR : OR ρ i o' w') : HR Z ρ (h.set i o') w' := by
  have hlive : ∀ j l, Live (h.set i o') j l → Live h j l := by
    rintro j l ⟨o1, ho1, h1, h2⟩
    rw [T.get_set hf] at ho1
    by_cases hj : j = i
    · rw [if_pos hj] at ho1; cases ho1; subst hj; exact ⟨o, ho, Nat.le_trans hm h1, hv ▸ h2⟩
    · rw [if_neg hj] at ho1; exact ⟨o1, ho1, h1, h2⟩
  refine ⟨he.trans hh.env, fun j o hj => (hbase j (by rw [hj]; simp)).trans (hh.old j o hj), ?_, fun j l j' l' r r' hl hl' => hh.sep j l j' l' r r' (hlive _ _ hl) (hlive _ _ hl'),
    fun j l l' r r' hl hl' => hh.al j l l' r r' (hlive _ _ hl) (hlive _ _ hl'), fun j l r hl => hh.new j l r (hlive _ _ hl), ?_⟩
  · intro j o1 ho1
    rw [T.get_set hf] at ho1
    by_cases hj : j = i
    · rw [if_pos hj] at ho1; cases ho1; rw [hj]; exact hOR
    · rw [if_neg hj] at ho1
      exact (hh.obj j o1 ho1).mono (Rho.le.refl ρ) fun l r' h1 h2 hr' => hkeep j l r' hr' ⟨o1, ho1, h1, h2⟩ hj
  · intro j l r hr
    obtain ⟨o1, ho1, hlv⟩ := hh.dom j l r hr
    by_cases hj : j = i
    · subst hj
      rw [ho] at ho1
      cases ho1
      exact ⟨o', by rw [T.get_set hf, if_pos rfl], hv ▸ hlv⟩
    · exact ⟨o1, by rw [T.get_set hf, if_neg hj]; exact ho1, hlv⟩

theorem HR.base_lt {Z : Base} {ρ : Rho} {h : H} {w : World} (hh : HR Z ρ h w) {j : Nat} (hj : Z.m j ≠ none) : j < w.heap.size := by
  cases hm : Z.m j with
  | none => exact absurd hm hj
  | some o => exact frag_lt (hh.old _ _ hm)
theorem ne_of_base {Z : Base} {j b : Nat} (hj : Z.m j ≠ none) (hb : Z.m b = none) : j ≠ b := fun e => hj (e ▸ hb)
/-- Something new. -/
theorem HR.allocW {Z : Base} {ρ : Rho} {h : H} {w w' : World} (hh : HR Z ρ h w) {i : Nat} (hf : few i = true) (hn : h.get i = none) {cs : List V} {us : List Value} (rest : List Value) (hr : VRs ρ cs us) {ty : TypeId} {fr : Nat × Nat}
    (he : w'.env = w.env) (hpush : ∀ j, j < w.heap.size → w'.heap[j]? = w.heap[j]?) (hnew : w'.heap[w.heap.size]? = some (.cells (List.toArray (us ++ rest)) ty fr)) (hfr : okFr fr (us ++ rest).length) :
    ρ.le (ρ.add i 0 ⟨w.heap.size, 0, 0, us.length + rest.length, us.length⟩) ∧
      HR Z (ρ.add i 0 ⟨w.heap.size, 0, 0, us.length + rest.length, us.length⟩) (h.set i (.c cs 0 0)) w' := by
  have hnone : ρ i 0 = none := by
    cases hk : ρ i 0 with
    | none => rfl
    | some r' => obtain ⟨o', ho', _⟩ := hh.dom i 0 r' hk; rw [hn] at ho'; cases ho'
  have hle := Rho.le_add (r := ⟨w.heap.size, 0, 0, us.length + rest.length, us.length⟩) hnone
  refine hh.ver (o := .c cs 0 0) hf he (fun o' ho' => by rw [hn] at ho'; cases ho') rfl ?_ (fun j hj => hpush j (hh.base_lt hj)) hh.fresh ?_ ?_ ?_
  · intro j l r' hr' hl _ _
    exact hpush _ (hh.lt hl hr')
  · intro j l r' hr' hl _
    exact Nat.ne_of_lt (hh.lt hl hr')
  · intro l r' hr' hl _ _
    obtain ⟨o', ho', _⟩ := hl
    rw [hn] at ho'; cases ho'
  · refine ⟨Nat.le_refl 0, fun k _ hk => ?_⟩
    have : k = 0 := Nat.le_zero.1 hk
    subst this
    refine ⟨_, Rho.add_self _ _ _ _, ⟨⟨List.toArray (us ++ rest), ty, fr, hnew, by simpa using hfr, by simp, fun j x _ hj hx => ?_⟩, Nat.zero_le _, by simp, by simp [hr.len], fun _ => hr.len⟩⟩
    obtain ⟨u, hu, hv⟩ := (hr.mono hle).get j x hx
    refine ⟨u, ?_, hv⟩
    simp only [Nat.sub_zero, Nat.zero_add, List.getElem?_toArray]
    rw [List.getElem?_append_left hj]
    exact hu
theorem HR.alloc {Z : Base} {ρ : Rho} {h : H} {w : World} (hh : HR Z ρ h w) {i : Nat} (hf : few i = true) (hn : h.get i = none) {cs : List V} {us : List Value} (rest : List Value) (hr : VRs ρ cs us) (ty : TypeId) :
    ρ.le (ρ.add i 0 ⟨w.heap.size, 0, 0, us.length + rest.length, us.length⟩) ∧
      HR Z (ρ.add i 0 ⟨w.heap.size, 0, 0, us.length + rest.length, us.length⟩) (h.set i (.c cs 0 0)) { w with heap := w.heap.push (.cells (List.toArray (us ++ rest)) ty) } :=
  hh.allocW hf hn rest hr (ty := ty) (w' := { w with heap := w.heap.push (.cells (List.toArray (us ++ rest)) ty) }) (fr := (0, 0)) rfl (fun j hj => by simp [Array.getElem?_push, Nat.ne_of_lt hj]) (by simp) (okFr_none _)

/-- A cell is read. -/
theorem HR.cell {Z : Base} {ρ : Rho} {h : H} {w : World} (hh : HR Z ρ h w) {i k : Nat} {cells : List V} {ver min : Nat} {r : Rec} (ho : h.get i = some (.c cells ver min)) (h1 : min ≤ k) (h2 : k ≤ ver) (hr : ρ i k = some r) {j : Nat} {x : V}
    (hl : r.lo ≤ j) (hj : j < r.L) (hx : cells[j]? = some x) : ∃ u, w.cell? (r.at j) = some u ∧ VR ρ x u := by
  obtain ⟨r', hr', ⟨cur, ty, fr, hw, _, _, hc⟩, _⟩ := (hh.obj i _ ho).2 k h1 h2
  rw [hr] at hr'
  cases hr'
  obtain ⟨u, hu, hv⟩ := hc j x hl hj hx
  exact ⟨u, by rw [Rec.at, cell_of hw]; exact hu, hv⟩
/-- Cells in a row are read. -/
theorem HR.cells {Z : Base} {ρ : Rho} {h : H} {w : World} (hh : HR Z ρ h w) {i k : Nat} {cells : List V} {ver min : Nat} {r : Rec} (ho : h.get i = some (.c cells ver min)) (h1 : min ≤ k) (h2 : k ≤ ver) (hr : ρ i k = some r) {off n : Nat}
    (hl : r.lo ≤ off) (hn : off + n ≤ r.L) : ∃ us, VRs ρ ((cells.drop off).take n) us ∧ us.length = n ∧ ∀ j v, us[j]? = some v → w.cell? ((r.at off).add j) = some v := by
  obtain ⟨r', hr', ⟨cur, ty, fr, hw, _, hcur, hc⟩, _, hhi, hlen, _⟩ := (hh.obj i _ ho).2 k h1 h2
  rw [hr] at hr'
  cases hr'
  refine ⟨(cur.toList.drop (r.base + (off - r.lo))).take n, ?_, ?_, ?_⟩
  · refine VRs.of ?_ ?_
    · simp only [List.length_take, List.length_drop, Array.length_toList]
      omega
    · intro j x hx
      rw [List.getElem?_take] at hx
      split at hx
      · rename_i hj
        rw [List.getElem?_drop] at hx
        obtain ⟨u, hu, hv⟩ := hc (off + j) x (by omega) (by omega) hx
        refine ⟨u, ?_, hv⟩
        rw [List.getElem?_take, if_pos hj, List.getElem?_drop, Array.getElem?_toList]
        rw [show r.base + (off - r.lo) + j = r.base + (off + j - r.lo) by omega]
        exact hu
      · cases hx
  · simp only [List.length_take, List.length_drop, Array.length_toList]
    omega
  · intro j v hv
    rw [List.getElem?_take] at hv
    split at hv
    · rw [List.getElem?_drop, Array.getElem?_toList] at hv
      rw [Rec.at, Addr.add_lit, cell_of hw]
      exact hv
    · cases hv

theorem run_loadCellsFrom {P : Program} {w : World} {a : Addr} : ∀ (us : List Value) (i : Nat) (acc : Array Value), (∀ j v, us[j]? = some v → w.cell? (a.add (i + j)) = some v) → (loadCellsFrom a i us.length acc).run P w = .ok (acc ++ us.toArray) w
  | [], i, acc, _ => by simp [loadCellsFrom]
  | u :: us, i, acc, h => by
    have h0 : w.cell? (a.add i) = some u := h 0 u rfl
    have ih := run_loadCellsFrom (P := P) us (i + 1) (acc.push u) fun j v hv => by
      have := h (j + 1) v (by simpa using hv)
      rwa [show i + 1 + j = i + (j + 1) by omega]
    simp only [List.length_cons, loadCellsFrom, Sem.run_bind, run_load, h0, Result.andThen_ok]
    rw [ih]
    simp
theorem run_loadCells {P : Program} {w : World} {a : Addr} {us : List Value} {n : Nat} (hn : us.length = n) (h : ∀ j v, us[j]? = some v → w.cell? (a.add j) = some v) : (loadCells a n).run P w = .ok us.toArray w := by
  subst hn
  have := run_loadCellsFrom (P := P) us 0 #[] (a := a) (w := w) fun j v hv => by rw [Nat.zero_add]; exact h j v hv
  simpa [loadCells] using this

theorem run_storeCells {P : Program} {b off : Nat} {ty : TypeId} {fr : Nat × Nat} : ∀ (vs : List Value) (i : Nat) (cs : List Value) (w : World), w.heap[b]? = some (.cells (List.toArray cs) ty fr) → off + i + vs.length ≤ cs.length → okFr fr cs.length → ones vs = true →
    ∃ w', (storeCells ⟨b, off, none⟩ vs i).run P w = .ok () w' ∧ w'.heap[b]? = some (.cells (List.toArray (put cs (off + i) vs)) ty fr) ∧ (∀ k, k ≠ b → w'.heap[k]? = w.heap[k]?) ∧ w'.env = w.env ∧ w'.heap.size = w.heap.size
  | [], i, cs, w, hb, _, _, _ => ⟨w, by simp [storeCells], hb, fun _ _ => rfl, rfl, rfl⟩
  | v :: vs, i, cs, w, hb, hl, hf, h1 => by
    have hv1 : v.oneCell' = true := ones_mem h1 v (List.mem_cons_self ..)
    have h1' : ones vs = true := by cases v <;> first | exact h1 | cases h1
    simp only [List.length_cons] at hl
    have ho : off + i < cs.length := by omega
    obtain ⟨w', hr, hb', hk, he, hs⟩ := run_storeCells (P := P) (b := b) (off := off) vs (i + 1) (cs.set (off + i) v) (w.setCell ⟨b, off + i, none⟩ v) (setCell_at hb v) (by simp; omega) (by simpa using hf) h1'
    refine ⟨w', ?_, ?_, fun k hkb => (hk k hkb).trans (setCell_else hkb v), he.trans rfl, ?_⟩
    · simp only [storeCells, Sem.run_bind, Addr.add_lit]
      rw [run_store P w _ v _ hv1, cell_of hb]
      simp only [List.getElem?_toArray, List.getElem?_eq_getElem ho]
      rw [if_neg (by rw [frozen_of hb (by simpa using ho) (by simpa using hf)]; simp)]
      simp only [Result.andThen_ok]
      exact hr
    · simpa [put, Nat.add_assoc] using hb'
    · rw [hs]; simp [World.setCell]

theorem put_get' {cs vs : List Value} {off : Nat} (h : off + vs.length ≤ cs.length) (k : Nat) : (put cs off vs)[k]? = if off ≤ k ∧ k < off + vs.length then vs[k - off]? else cs[k]? := put_get vs cs off k h
noncomputable def lput (cs : List V) (off : Nat) (vs : List V) : List V := lapp (ltake cs off) (lapp vs (ldrop cs (off + llen vs)))
theorem lput_get {cs vs : List V} {off : Nat} (h : off + vs.length ≤ cs.length) (k : Nat) : (lput cs off vs)[k]? = if off ≤ k ∧ k < off + vs.length then vs[k - off]? else cs[k]? := by
  simp only [lput, lapp_eq, ltake_eq, ldrop_eq, llen_eq]
  rw [List.getElem?_append]
  have hlt : (cs.take off).length = off := by simp; omega
  rw [hlt]
  by_cases h1 : k < off
  · rw [if_pos h1, if_neg (by omega), List.getElem?_take, if_pos h1]
  · rw [if_neg h1, List.getElem?_append]
    by_cases h2 : k - off < vs.length
    · rw [if_pos h2, if_pos (by omega)]
    · rw [if_neg h2, if_neg (by omega), List.getElem?_drop]
      congr 1
      omega
theorem lput_len {cs vs : List V} {off : Nat} (h : off + vs.length ≤ cs.length) : (lput cs off vs).length = cs.length := by
  simp only [lput, lapp_eq, ltake_eq, ldrop_eq, llen_eq, List.length_append, List.length_take, List.length_drop]
  omega

/-- Cells in a row are written, by the last version. -/
theorem HR.store {P : Program} {Z : Base} {ρ : Rho} {h : H} {w : World} (hh : HR Z ρ h w) {i : Nat} {cells : List V} {ver min : Nat} {r : Rec} (hf : few i = true) (ho : h.get i = some (.c cells ver min)) (hr : ρ i ver = some r) {off : Nat} {vs : List V} {us : List Value}
    (hl : r.lo ≤ off) (hn : off + vs.length ≤ cells.length) (hv : VRs ρ vs us) (h1 : vones vs = true) :
    ∃ w', (storeCells (r.at off) us).run P w = .ok () w' ∧ HR Z ρ (h.set i (.c (lput cells off vs) ver ver)) w' := by
  have hmv := (hh.obj i _ ho).1
  obtain ⟨r', hr', ⟨cur, ty, fr, hw, hfr, hcur, hc⟩, hlo, hhi, hlen, hlast⟩ := (hh.obj i _ ho).2 ver hmv (Nat.le_refl _)
  rw [hr] at hr'
  cases hr'
  have hL : r.L = cells.length := hlast (Nat.beq_refl ver)
  have hul := hv.len
  obtain ⟨w', hrun, hb, hk, he, hs⟩ := run_storeCells (P := P) (b := r.b) (off := r.base + (off - r.lo)) us 0 cur.toList w (by simpa using hw) (by simp only [Array.length_toList]; omega) (by simpa using hfr) (hv.ones h1)
  refine ⟨w', hrun, hh.upd (o := .c cells ver min) hf ho rfl hmv he ?_ ?_ ?_⟩
  · intro j l r1 hr1 hl1 hne
    exact hk _ (hh.sep _ _ _ _ _ _ hl1 (live_self ho hmv (Nat.le_refl _)) hr1 hr hne)
  · intro j hj
    exact hk _ (ne_of_base hj (hh.new _ _ _ (live_self ho hmv (Nat.le_refl _)) hr))
  · refine ⟨Nat.le_refl _, fun k hk1 hk2 => ?_⟩
    have : k = ver := Nat.le_antisymm hk2 hk1
    subst this
    refine ⟨r, hr, ⟨⟨List.toArray (put cur.toList (r.base + (off - r.lo) + 0) us), ty, fr, hb, by simpa [put_length] using hfr, by simpa [put_length] using hcur, fun j x hl1 hj hx => ?_⟩, hlo, hhi, by rw [lput_len hn]; exact hlen, fun _ => by rw [lput_len hn]; exact hL⟩⟩
    rw [lput_get hn] at hx
    simp only [List.getElem?_toArray]
    rw [put_get' (by simp only [Array.length_toList]; omega)]
    split at hx
    · rename_i hjj
      obtain ⟨u, hu, hvu⟩ := hv.get _ _ hx
      refine ⟨u, ?_, hvu⟩
      rw [if_pos (by omega), ← hu]
      congr 1
      omega
    · rename_i hjj
      obtain ⟨u, hu, hvu⟩ := hc j x hl1 hj hx
      refine ⟨u, ?_, hvu⟩
      rw [if_neg (by omega)]
      simpa using hu

end Go.Ax
