/- Statements whose order Go leaves open: what needs no memory, and loads of cells that are held, are taken first; the others as they may come. -/
import Derived.Test.YtjlikmhhaecgnaaGreatDoorSxH
namespace Go.Sx
set_option linter.unusedVariables false
section
variable {P : Program} {fn : FuncId} {n : Nat} {post : Value → List HP → Prop} {s : St} {X : List HP}

def isDraw (s : St) : Bool :=
  match s.d, s.k with
  | none, .code (.region _ _ true) :: _ => true
  | _, _ => false
def drawn (s : St) (held : List (Addr × Value × Nat)) : St :=
  match s.k with
  | .code (.region _ ops true) :: k => ⟨.inRegion ops [] :: k, s.f, some ⟨ops.size, Array.replicate ops.size false, held⟩⟩
  | _ => s
/-- A region that draws its order begins. -/
theorem Ex.draw (m : Nat) (held : List (Addr × Value × Nat)) (hm : P.follows .mixedOrders = true) (hd : isDraw (xq P n m s) = true) (next : Ex P fn n post (drawn (xq P n m s) held) X) : Ex P fn n post s X := by
  refine Ex.exec m ?_
  generalize xq P n m s = s' at *
  obtain ⟨k, f, d⟩ := s'
  unfold isDraw at hd
  simp only at hd
  split at hd
  · rename_i id ops k'
    intro E a w hf hx
    have hx' : Heap E X { w with drawn := w.drawn + 1 } := hx.same rfl rfl
    have := (next E a { w with drawn := w.drawn + 1 } hf hx').2
    exact RunA.draws hm fun t => wpAny_sound _ t _ a _ (wpAny_of_U _ _ _ _ this)
  · cases hd

def okTake (ops : Array Oper) (listed : Array Bool) (held : List (Addr × Value × Nat)) (i : Nat) : Bool := Region.noSelect ops && Region.free .any ops listed i && (Region.ready .any ops listed).contains i && held.all fun e => !Nat.beq e.2.2 i
theorem okTake_spec {ops : Array Oper} {listed : Array Bool} {held : List (Addr × Value × Nat)} {i : Nat} (h : okTake ops listed held i = true) :
    Region.noSelect ops = true ∧ Region.free .any ops listed i = true ∧ (Region.ready .any ops listed).contains i = true ∧ ∀ e ∈ held, e.2.2 ≠ i := by
  simp only [okTake, Bool.and_eq_true, List.all_eq_true, Bool.not_eq_true'] at h
  obtain ⟨⟨⟨h1, h2⟩, h3⟩, h4⟩ := h
  exact ⟨h1, h2, h3, fun e he hh => by have := h4 e he; rw [hh, Nat.beq_refl] at this; cases this⟩

/-- One that needs no memory is taken. -/
def dt1 (P : Program) (n : Nat) (s : St) (i : Nat) : Option St :=
  match s.d with
  | none => none
  | some D => match D.fuel with
    | 0 => none
    | F + 1 => match s.k with
      | .inRegion ops [] :: k => match ops[i]? with
        | none => none
        | some o =>
          bif okTake ops D.listed D.held i then
            bif Region.wanted o (yieldF n ops s.f) then
              match peel P (execOp (ev s.f) o) with
              | some (.value v) => some ⟨.inRegion ops [] :: k, putO n s.f o.dst v, some ⟨F, D.listed.setIfInBounds i true, D.held⟩⟩
              | _ => none
            else some ⟨.inRegion ops [] :: k, putO n s.f o.dst undef, some ⟨F, D.listed.setIfInBounds i true, D.held⟩⟩
          else none
      | _ => none
def dts (P : Program) (n : Nat) : List Nat → St → St
  | [], s => s
  | i :: is, s => match dt1 P n s i with
    | some s' => dts P n is s'
    | none => s

theorem Ex.dt1 {i : Nat} {s' : St} (h : dt1 P n s i = some s') (he : Ex P fn n post s' X) : Ex P fn n post s X := by
  obtain ⟨k, f, d⟩ := s
  cases d with
  | none => simp [Sx.dt1] at h
  | some D =>
  obtain ⟨fuel, listed, held⟩ := D
  cases fuel with
  | zero => simp [Sx.dt1] at h
  | succ F =>
  unfold Sx.dt1 at h
  simp only at h
  split at h
  · rename_i ops k'
    split at h
    · cases h
    · rename_i o ho
      cases hok : okTake ops listed held i with
      | false => simp [hok] at h
      | true =>
      simp only [hok, cond_true] at h
      obtain ⟨h1, h2, h3, h4⟩ := okTake_spec hok
      intro E a w hf hx
      have hf' : Fr n f a := hf
      have hQ : ∀ c a' w', Qn P fn (fun v w' => ∃ X', post v X' ∧ Heap E X' w') k' (.panic c) a' w' → ∀ a'', Qn P fn (fun v w' => ∃ X', post v X' ∧ Heap E X' w') k' (.panic c) a'' w' := fun c a' w' h => by cases h.1
      cases hw : Region.wanted o (yieldF n ops f) with
      | false =>
        simp only [hw, cond_false, Option.some.injEq] at h
        subst h
        have := he E _ w (hf'.put o.dst undef) hx
        obtain ⟨hS, hh⟩ := this
        have hS' := (HS.set h4).1 hS
        exact ⟨hS', wpAnyU_take (need := []) ho h1 h2 h3 (fun c a' w' h => hQ _ _ _ h _) h4 (v := undef) (.inr ⟨by rw [hf'.yield, hw], rfl⟩) (fun _ h => by cases h) hS' hh⟩
      | true =>
        simp only [hw, cond_true] at h
        split at h
        · rename_i v hp
          simp only [Option.some.injEq] at h
          subst h
          have := he E _ w (hf'.put o.dst v) hx
          obtain ⟨hS, hh⟩ := this
          have hS' := (HS.set h4).1 hS
          exact ⟨hS', wpAnyU_take (need := []) ho h1 h2 h3 (fun c a' w' h => hQ _ _ _ h _) h4 (v := v) (.inl ⟨by rw [hf'.yield, hw], fun w _ => by rw [hf'.ev, peel_run hp]⟩) (fun _ h => by cases h) hS' hh⟩
        · cases h
  · cases h

theorem Ex.dtake (is : List Nat) (he : Ex P fn n post (dts P n is s) X) : Ex P fn n post s X := by
  induction is generalizing s with
  | nil => exact he
  | cons i is ih =>
    unfold dts at he
    split at he
    · rename_i s' h; exact Ex.dt1 h (ih he)
    · exact he

/-- A load of held cells is taken: which of them. -/
def waitsB (ops : Array Oper) (q i : Nat) : Bool :=
  match ops[q]? with
  | none => true
  | some oq => oq.after.any fun e => Region.binds .any e && Nat.beq e.on i
theorem waitsB_spec {ops : Array Oper} {q i : Nat} (h : waitsB ops q i = true) : Waits .any ops q i := by
  intro oq ho
  simp only [waitsB, ho] at h
  obtain ⟨e, he, hb⟩ := Array.any_eq_true'.1 h
  simp only [Bool.and_eq_true] at hb
  exact ⟨e, he, hb.1, Nat.eq_of_beq_eq_true hb.2⟩
def okNeed (ops : Array Oper) (listed : Array Bool) (held : List (Addr × Value × Nat)) (i : Nat) (ks : List Nat) : Bool :=
  ks.all fun k => match held[k]? with
    | some e => !listed.getD e.2.2 false && waitsB ops e.2.2 i
    | none => false
def pickH (held : List (Addr × Value × Nat)) (ks : List Nat) : List (Addr × Value) := ks.filterMap fun k => (held[k]?).map fun e => (e.1, e.2.1)
theorem okNeed_spec {ops : Array Oper} {listed : Array Bool} {held : List (Addr × Value × Nat)} {i : Nat} {ks : List Nat} (h : okNeed ops listed held i ks = true) :
    ∀ p ∈ pickH held ks, ∃ q, (p.1, p.2, q) ∈ held ∧ listed.getD q false = false ∧ Waits .any ops q i := by
  intro p hp
  simp only [pickH, List.mem_filterMap, Option.map_eq_some_iff] at hp
  obtain ⟨k, hk, e, he, rfl⟩ := hp
  simp only [okNeed, List.all_eq_true] at h
  have := h k hk
  simp only [he, Bool.and_eq_true, Bool.not_eq_true'] at this
  exact ⟨e.2.2, List.mem_of_getElem? he, this.1, waitsB_spec this.2⟩
def dlq (P : Program) (n : Nat) (s : St) (i : Nat) (ks : List Nat) (vs : List Value) : Option (List (Addr × Value × Nat) × List Addr) :=
  match s.d with
  | none => none
  | some D => match D.fuel with
    | 0 => none
    | _ + 1 => match s.k with
      | .inRegion ops [] :: _ => match ops[i]? with
        | none => none
        | some o =>
          bif okTake ops D.listed D.held i && okNeed ops D.listed D.held i ks && Region.wanted o (yieldF n ops s.f) then
            match reqs P vs (execOp (ev s.f) o) with
            | some (as, .value _) => some (D.held, as)
            | _ => none
          else none
      | _ => none
def dln (P : Program) (n : Nat) (s : St) (i : Nat) (v : Value) : St :=
  match s.d with
  | none => s
  | some D => match s.k with
    | .inRegion ops [] :: k => ⟨.inRegion ops [] :: k, putO n s.f ((ops[i]?).bind (·.dst)) v, some ⟨D.fuel - 1, D.listed.setIfInBounds i true, D.held⟩⟩
    | _ => s
def dlv (P : Program) (n : Nat) (s : St) (i : Nat) (vs : List Value) : Option Next :=
  match s.k with
  | .inRegion ops [] :: _ => match ops[i]? with
    | none => none
    | some o => (reqs P vs (execOp (ev s.f) o)).map (·.2)
  | _ => none
theorem Ex.dld (i : Nat) (ks : List Nat) (vs : List Value) {held : List (Addr × Value × Nat)} {as : List Addr} {v : Value} (h : dlq P n s i ks vs = some (held, as)) (hv : dlv P n s i vs = some (.value v)) (hl : as.length = vs.length) (hz : as.zip vs = pickH held ks)
    (he : Ex P fn n post (dln P n s i v) X) : Ex P fn n post s X := by
  obtain ⟨k, f, d⟩ := s
  cases d with
  | none => simp [dlq] at h
  | some D =>
  obtain ⟨fuel, listed, held'⟩ := D
  cases fuel with
  | zero => simp [dlq] at h
  | succ F =>
  unfold dlq at h
  simp only at h
  split at h
  · rename_i ops k'
    split at h
    · cases h
    · rename_i o ho
      cases hok : (okTake ops listed held' i && okNeed ops listed held' i ks && Region.wanted o (yieldF n ops f)) with
      | false => simp [hok] at h
      | true =>
      simp only [hok, cond_true] at h
      simp only [Bool.and_eq_true] at hok
      obtain ⟨⟨hok, hnd⟩, hw⟩ := hok
      obtain ⟨h1, h2, h3, h4⟩ := okTake_spec hok
      split at h
      · rename_i as' v' hp
        simp only [Option.some.injEq, Prod.mk.injEq] at h
        obtain ⟨rfl, rfl⟩ := h
        unfold dlv at hv
        simp only [ho, hp, Option.map_some, Option.some.injEq, Next.value.injEq] at hv
        subst hv
        intro E a w hf hx
        have hf' : Fr n f a := hf
        have := he E (a.put o.dst v') w (by simpa [dln, ho] using hf'.put o.dst v') hx
        obtain ⟨hS, hh⟩ := this
        have hS' := (HS.set h4).1 hS
        refine ⟨hS', wpAnyU_take (need := pickH held' ks) ho h1 h2 h3 (fun c a' w' h => by cases h.1) h4 (v := v') (.inl ⟨by rw [hf'.yield, hw], fun w hSw => ?_⟩) (okNeed_spec hnd) hS' hh⟩
        rw [hf'.ev]
        refine reqs_run hp fun j a' ha => ?_
        have hj : j < vs.length := by
          rw [← hl]; exact (List.getElem?_eq_some_iff.1 ha).1
        refine ⟨vs[j], List.getElem?_eq_getElem hj, ?_⟩
        have hm : (a', vs[j]) ∈ as'.zip vs := by
          refine List.mem_of_getElem? (i := j) ?_
          simp [List.getElem?_zip_eq_some, ha, hj]
        rw [hz] at hm
        exact hSw _ hm
      · cases h
  · cases h

/-- What is held is as it was. -/
def Holds (X : List HP) (held : List (Addr × Value)) : Prop := ∀ E w, Heap E X w → ∀ p ∈ held, w.cell? p.1 = some p.2
theorem Holds.nil : Holds X [] := fun _ _ _ _ h => by cases h
theorem Holds.cons {b off : Nat} {cs : List Value} {ty : TypeId} {fr : Nat × Nat} {v : Value} {held : List (Addr × Value)} (hk : Kn X b (.cells (List.toArray cs) ty fr)) (hv : cs[off]? = some v) (h : Holds X held) : Holds X ((⟨b, off, none⟩, v) :: held) := by
  intro E w hx p hp
  rcases List.mem_cons.1 hp with rfl | hp
  · rw [cell_of (hk.at hx)]; simpa using hv
  · exact h E w hx p hp
theorem Holds.consR {sz n' cap b off q : Nat} {cs : List Value} {v : Value} {held : List (Addr × Value)} (hr : Rd X sz (some ⟨b, off, none⟩) n' cap cs) (hv : cs[q]? = some v) (h : Holds X held) : Holds X ((⟨b, off + q, none⟩, v) :: held) := by
  intro E w hx p hp
  rcases List.mem_cons.1 hp with rfl | hp
  · exact lies_cells (hr.at hx) q v hv
  · exact h E w hx p hp

/-- Which may come next. -/
def liveH (held : List (Addr × Value × Nat)) (listed : Array Bool) : List (Addr × Value) := held.filterMap fun e => bif listed.getD e.2.2 false then none else some (e.1, e.2.1)
theorem liveH_spec {held : List (Addr × Value × Nat)} {listed : Array Bool} {w : World} (h : ∀ p ∈ liveH held listed, w.cell? p.1 = some p.2) : HS held listed w := by
  intro e he hl
  refine h (e.1, e.2.1) ?_
  simp only [liveH, List.mem_filterMap]
  exact ⟨e, he, by rw [hl]; rfl⟩
def dready (s : St) : Option (List (Addr × Value) × List Nat) :=
  match s.d with
  | none => none
  | some D => match s.k with
    | .inRegion ops [] :: _ => some (liveH D.held D.listed, Region.ready .any ops D.listed)
    | _ => none
def dperf (s : St) (i : Nat) : St :=
  match s.d with
  | none => s
  | some D => match s.k with
    | .inRegion ops [] :: k => ⟨.inRegion ops [i] :: k, s.f, some ⟨D.fuel - 1, D.listed, D.held⟩⟩
    | _ => s
def dfuel (s : St) : Bool := match s.d with | some D => Nat.blt 0 D.fuel | none => false
theorem Ex.dall (rs : List Nat) {held : List (Addr × Value)} (h : dready s = some (held, rs)) (hfu : dfuel s = true) (hne : rs.isEmpty = false) (hh : Holds X held) (next : ∀ i ∈ rs, Ex P fn n post (dperf s i) X) : Ex P fn n post s X := by
  obtain ⟨k, f, d⟩ := s
  cases d with
  | none => simp [dready] at h
  | some D =>
  obtain ⟨fuel, listed, held'⟩ := D
  cases fuel with
  | zero => simp [dfuel] at hfu
  | succ F =>
  unfold dready at h
  simp only at h
  split at h
  · rename_i ops k'
    simp only [Option.some.injEq, Prod.mk.injEq] at h
    obtain ⟨rfl, hr⟩ := h
    intro E a w hf hx
    refine ⟨liveH_spec (hh E w hx), wpAnyU_all hr (by intro e; subst e; cases hne) fun i hi => ?_⟩
    exact next i hi E a w hf hx
  · cases h
theorem Ex.dall1 (i : Nat) {held : List (Addr × Value)} (h : dready s = some (held, [i])) (hfu : dfuel s = true) (hh : Holds X held) (next : Ex P fn n post (dperf s i) X) : Ex P fn n post s X :=
  Ex.dall [i] h hfu rfl hh fun j hj => by rw [List.mem_singleton.1 hj]; exact next
theorem Ex.dall2 (i j : Nat) {held : List (Addr × Value)} (h : dready s = some (held, [i, j])) (hfu : dfuel s = true) (hh : Holds X held) (next : Ex P fn n post (dperf s i) X) (next' : Ex P fn n post (dperf s j) X) : Ex P fn n post s X :=
  Ex.dall [i, j] h hfu rfl hh fun k hk => by
    rcases List.mem_cons.1 hk with rfl | hk
    · exact next
    · rw [List.mem_singleton.1 hk]; exact next'
def dend (s : St) : St :=
  match s.d with
  | none => s
  | some _ => match s.k with
    | .inRegion _ [] :: k => ⟨k, s.f, none⟩
    | _ => s
theorem Ex.ddone {held : List (Addr × Value)} (h : dready s = some (held, [])) (hh : Holds X held) (next : Ex P fn n post (dend s) X) : Ex P fn n post s X := by
  obtain ⟨k, f, d⟩ := s
  cases d with
  | none => simp [dready] at h
  | some D =>
  obtain ⟨fuel, listed, held'⟩ := D
  unfold dready at h
  simp only at h
  split at h
  · rename_i ops k'
    simp only [Option.some.injEq, Prod.mk.injEq] at h
    obtain ⟨rfl, hr⟩ := h
    intro E a w hf hx
    exact ⟨liveH_spec (hh E w hx), wpAnyU_done hr ⟨rfl, (next E a w hf hx).run⟩ _⟩
  · cases h
/-- One that leaves the world alone, whatever it is, is taken. -/
def dok (n : Nat) (s : St) (i : Nat) : Bool :=
  match s.d with
  | none => false
  | some D => match D.fuel with
    | 0 => false
    | _ + 1 => match s.k with
      | .inRegion ops [] :: _ => okTake ops D.listed D.held i
      | _ => false
theorem Ex.dgen (i : Nat) {o : Oper} {v : Value} (hok : dok n s i = true) (ho : headOp n (dperf s i) = some o) (hr : ∀ w, (execOp (ev s.f) o).run P w = .ok (.value v) w)
    (he : Ex P fn n post (dln P n s i v) X) : Ex P fn n post s X := by
  obtain ⟨k, f, d⟩ := s
  cases d with
  | none => simp [dok] at hok
  | some D =>
  obtain ⟨fuel, listed, held'⟩ := D
  cases fuel with
  | zero => simp [dok] at hok
  | succ F =>
  unfold dok at hok
  simp only at hok
  split at hok
  · rename_i ops k'
    obtain ⟨ops', i', rest', k'', hk, hd, ho, hw⟩ := headOp_spec ho
    simp only [dperf, List.cons.injEq, Item.inRegion.injEq] at hk hw
    obtain ⟨⟨rfl, rfl, rfl⟩, rfl⟩ := hk
    obtain ⟨h1, h2, h3, h4⟩ := okTake_spec hok
    intro E a w hf hx
    have hf' : Fr n f a := hf
    have := he E (a.put o.dst v) w (by simpa [dln, ho] using hf'.put o.dst v) hx
    obtain ⟨hS, hh⟩ := this
    have hS' := (HS.set h4).1 hS
    exact ⟨hS', wpAnyU_take (need := []) ho h1 h2 h3 (fun c a' w' h => by cases h.1) h4 (v := v) (.inl ⟨by rw [hf'.yield, hw], fun w _ => by rw [hf'.ev]; exact hr w⟩) (fun _ h => by cases h) hS' hh⟩
  · cases hok
theorem dperf_f (s : St) (i : Nat) : (dperf s i).f = s.f := by
  unfold dperf
  split
  · rfl
  · split <;> rfl
theorem Ex.dshr (i : Nat) {k k' : IntKind} {x y : Int} (hy : 0 ≤ y) (hok : dok n s i = true) (h : binq n (dperf s i) = some (.shr, .int k x, .int k' y)) (next : Ex P fn n post (dln P n s i (.int k (x.fdiv (2 ^ min y.toNat k.bits)))) X) : Ex P fn n post s X := by
  obtain ⟨o, t, x', y', ho, hrun⟩ := binq_run (P := P) h
  have hy' : ¬ y < 0 := by omega
  refine Ex.dgen i hok ho (fun w => ?_) next
  rw [← dperf_f s i]
  refine hrun _ _ _ ?_
  simp [run_eqGuard_int, binOp, Op.shift, hy']
theorem Ex.dshl (i : Nat) {k k' : IntKind} {x y : Int} (hy : 0 ≤ y) (hok : dok n s i = true) (h : binq n (dperf s i) = some (.shl, .int k x, .int k' y)) (next : Ex P fn n post (dln P n s i (.int k (k.wrap (x * 2 ^ min y.toNat k.bits)))) X) : Ex P fn n post s X := by
  obtain ⟨o, t, x', y', ho, hrun⟩ := binq_run (P := P) h
  have hy' : ¬ y < 0 := by omega
  refine Ex.dgen i hok ho (fun w => ?_) next
  rw [← dperf_f s i]
  refine hrun _ _ _ ?_
  simp [run_eqGuard_int, binOp, Op.shift, hy']
end
attribute [irreducible] isDraw drawn dts dlq dln dlv dready dperf dfuel dend dok
end Go.Sx
