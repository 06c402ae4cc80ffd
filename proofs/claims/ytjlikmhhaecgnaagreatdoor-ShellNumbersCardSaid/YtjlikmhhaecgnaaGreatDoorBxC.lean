/- Faster runs: regions, code, calls. -/
import Derived.Test.YtjlikmhhaecgnaaGreatDoorBxB
namespace Go.Ax
set_option linter.unusedVariables false
open Go.Sx

inductive Ins where
  | p (c : Option (Ad × Bool)) (d : Option Pa) (g : F → Option V)
  | m (c : Option (Ad × Bool)) (d : Option Pa) (g : MemF)
abbrev KF := F → H → Nat → Option (F × H × Nat)
noncomputable def goP (d : Option Pa) (f : F) (h : H) (nx : Nat) (k : KF) (r : Option V) : Option (F × H × Nat) := Option.rec none (fun v => k (putP d v f) h nx) r
noncomputable def goM (d : Option Pa) (f : F) (k : KF) (r : Option (V × H × Nat)) : Option (F × H × Nat) := Option.rec none (fun p => Prod.rec (fun v q => Prod.rec (fun h nx => k (putP d v f) h nx) q) p) r
noncomputable def insB (call : CallF) (s : Ins) (nm : Nat → Nat) (nx1 : Nat → Nat) (k : KF) (f : F) (h : H) (nx : Nat) : Option (F × H × Nat) :=
  Ins.rec (fun c d g => Bool.rec (k (putP d (.f undef) f) h nx) (goP d f h nx k (g f)) (wantedB c f))
    (fun c d g => Bool.rec (k (putP d (.f undef) f) h nx) (goM d f k (g call f h (nm nx) (nx1 nx))) (wantedB c f)) s
noncomputable def opsB (call : CallF) (l : List Ins) : KF := List.rec (fun f h nx => some (f, h, nx)) (fun s _ ih f h nx => insB call s (fun n => n) (fun n => n + 1) ih f h nx) l
noncomputable def cins (P : Program) (n : Nat) (ops : Array Oper) (o : Oper) : Ins := match cpure P o with | some g => .p (cg n ops o) (cd n o.dst) g | none => .m (cg n ops o) (cd n o.dst) (cmem P o)
noncomputable def cops (P : Program) (n : Nat) (ops : Array Oper) (os : List Oper) : List Ins := List.rec [] (fun o _ ih => cins P n ops o :: ih) os

section
variable {P : Program} {Z : Base} {n : Nat}
theorem insB_run {call : CallF} (hcall : CallOK P call) {ops : Array Oper} {o : Oper} {nm nx1 : Nat → Nat} {k : KF} {r : F × H × Nat} {ρ : Rho} {f : F} {h : H} {nx : Nat} {a : Act} {w : World} (hi : insB call (cins P n ops o) nm nx1 k f h nx = some r) (hf : FR ρ n f a) (hh : HR Z ρ h w)
    {next : Act → World → Prop} {Q : Exit → Act → World → Prop} (hnext : ∀ ρ' f' h' nx' a' w', ρ.le ρ' → FR ρ' n f' a' → HR Z ρ' h' w' → k f' h' nx' = some r → next a' w') :
    (Region.wanted o (yielded ops a.tmps) = true → o.wp P a w next Q) ∧ (Region.wanted o (yielded ops a.tmps) = false → next (a.put o.dst undef) w) := by
  rw [wantedB_eq hf]
  unfold cins at hi
  split at hi
  · rename_i g hg
    have hi' : (Bool.rec (k (putP (cd n o.dst) (.f undef) f) h nx) (goP (cd n o.dst) f h nx k (g f)) (wantedB (cg n ops o) f) : Option (F × H × Nat)) = some r := hi
    cases hw : wantedB (cg n ops o) f with
    | false =>
      rw [hw] at hi'
      exact ⟨fun h => (by cases h), fun _ => hnext ρ _ _ _ _ _ (Rho.le.refl ρ) (hf.putP (v := .f undef) (u := undef) o.dst rfl) hh hi'⟩
    | true =>
      rw [hw] at hi'
      refine ⟨fun _ => ?_, fun h => (by cases h)⟩
      cases hgf : g f with
      | none => rw [hgf] at hi'; cases hi'
      | some v =>
        rw [hgf] at hi'
        obtain ⟨u, hr, hv⟩ := cpure_spec hg hf hgf
        unfold Oper.wp
        rw [hr w]
        exact hnext ρ _ _ _ _ _ (Rho.le.refl ρ) (hf.putP o.dst hv) hh hi'
  · have hi' : (Bool.rec (k (putP (cd n o.dst) (.f undef) f) h nx) (goM (cd n o.dst) f k (cmem P o call f h (nm nx) (nx1 nx))) (wantedB (cg n ops o) f) : Option (F × H × Nat)) = some r := hi
    cases hw : wantedB (cg n ops o) f with
    | false =>
      rw [hw] at hi'
      exact ⟨fun h => (by cases h), fun _ => hnext ρ _ _ _ _ _ (Rho.le.refl ρ) (hf.putP (v := .f undef) (u := undef) o.dst rfl) hh hi'⟩
    | true =>
      rw [hw] at hi'
      refine ⟨fun _ => ?_, fun h => (by cases h)⟩
      cases hgf : cmem P o call f h (nm nx) (nx1 nx) with
      | none => rw [hgf] at hi'; cases hi'
      | some q =>
        obtain ⟨v, h1, nx2⟩ := q
        rw [hgf] at hi'
        exact cmem_spec o hcall hh hf hgf fun ρ' u w' hle hv hh' => hnext ρ' _ _ _ _ _ hle ((hf.mono hle).putP o.dst hv) hh' hi'
theorem opsB_run {call : CallF} (hcall : CallOK P call) {ops : Array Oper} {Q : Exit → Act → World → Prop} {f' : F} {h' : H} {nx' : Nat} (os : List Oper) :
    ∀ (i : Nat) (ρ : Rho) (f : F) (h : H) (nx : Nat) (a : Act) (w : World), (∀ j o, os[j]? = some o → ops[i + j]? = some o) → opsB call (cops P n ops os) f h nx = some (f', h', nx') → FR ρ n f a → HR Z ρ h w →
      (∀ ρ' a' w', ρ.le ρ' → FR ρ' n f' a' → HR Z ρ' h' w' → Q .normal a' w') → wpOps P ops Q (List.range' i os.length) a w := by
  induction os with
  | nil =>
    intro i ρ f h nx a w _ ho hf hh hQ
    have ho' : some (f, h, nx) = some (f', h', nx') := ho
    simp only [Option.some.injEq, Prod.mk.injEq] at ho'
    obtain ⟨rfl, rfl, rfl⟩ := ho'
    exact hQ ρ a w (Rho.le.refl ρ) hf hh
  | cons o os ih =>
    intro i ρ f h nx a w hops ho hf hh hQ
    have ho' : insB call (cins P n ops o) (fun n => n) (fun n => n + 1) (opsB call (cops P n ops os)) f h nx = some (f', h', nx') := ho
    have h0 : ops[i]? = some o := hops 0 o rfl
    have hops' : ∀ j o', os[j]? = some o' → ops[i + 1 + j]? = some o' := fun j o' hj => by
      have := hops (j + 1) o' (by simpa using hj)
      rwa [show i + 1 + j = i + (j + 1) by omega]
    have hk := insB_run (Q := Q) hcall ho' hf hh (next := wpOps P ops Q (List.range' (i + 1) os.length)) fun ρ' f1 h1 nx1 a1 w1 hle hf1 hh1 hk => ih (i + 1) ρ' _ _ _ _ _ hops' hk hf1 hh1 fun ρ2 a' w2 hle' => hQ ρ2 a' w2 (hle.trans hle')
    rw [List.length_cons, List.range'_succ]
    simp only [wpOps, h0]
    cases hw : Region.wanted o (yielded ops a.tmps) with
    | true => rw [if_pos rfl]; left; exact hk.1 hw
    | false => rw [if_neg (by simp)]; exact hk.2 hw
end

/-! Regions whose order is open: what comes first is worked out once. -/
inductive Stp where
  | t (c : Option (Ad × Bool)) (d : Option Pa) (g : F → Option V)
  | l (q : Nat) (c : Option (Ad × Bool)) (d : Option Pa) (rd : H → V → Option V) (hd : H → V → Option (List Hd)) (x : Ad)
  | o (i : Nat) (listed : Nat → Bool) (s : Ins)
  | u (c : Option (Ad × Bool)) (d : Option Pa) (g : H → V → Option V) (x : Ad)
noncomputable def hdsB (k : List Hd → KF) (held : List Hd) (d : Option Pa) (v : V) (f : F) (h : H) (nx : Nat) (r : Option (List Hd)) : Option (F × H × Nat) := Option.rec none (fun ds => k (lapp ds held) (putP d v f) h nx) r
noncomputable def ldB (hd : H → V → Option (List Hd)) (d : Option Pa) (x : V) (k : List Hd → KF) (held : List Hd) (f : F) (h : H) (nx : Nat) (r : Option V) : Option (F × H × Nat) := Option.rec none (fun v => hdsB k held d v f h nx (hd h x)) r
noncomputable def hdOKf (h : H) (listed : Nat → Bool) (d : Hd) : Bool :=
  listed d.q ||
  (match h.get d.i with
  | some (.c cells ver _) => Nat.beq d.k ver && (match lget cells d.off with | some v => veq v d.v | none => false)
  | _ => false)
abbrev lfA (L : Array Bool) : Nat → Bool := fun q => L.getD q false
noncomputable def chkB (listed : Nat → Bool) (held : List Hd) (k : List Hd → KF) : KF := fun f h nx => bif allB (hdOKf h listed) held then k held f h nx else none
noncomputable def stpB (P : Program) (call : CallF) (base : Nat) (s : Stp) (k : List Hd → KF) (held : List Hd) (f : F) (h : H) (nx : Nat) : Option (F × H × Nat) :=
  Stp.rec (fun c d g => Bool.rec (k held (putP d (.f undef) f) h nx) (goP d f h nx (k held) (g f)) (wantedB c f))
    (fun _ c d rd hd x => Bool.rec (k held (putP d (.f undef) f) h nx) (ldB hd d (x.get f) k held f h nx (rd h (x.get f))) (wantedB c f))
    (fun i listed s => insB call s (fun _ => Nat.add base i) (fun n => n) (chkB listed held k) f h nx)
    (fun c d g x => Bool.rec (k held (putP d (.f undef) f) h nx) (goP d f h nx (k held) (g h (x.get f))) (wantedB c f)) s
noncomputable def planB (P : Program) (call : CallF) (base : Nat) (l : List Stp) : List Hd → KF := List.rec (fun _ f h nx => some (f, h, nx)) (fun s _ ih held f h nx => stpB P call base s ih held f h nx) l

/-- Nobody who comes later may turn what is held until q. -/
noncomputable def noneed (q : Nat) (l : List Stp) : Bool := List.rec true (fun s _ ih => Stp.rec (fun _ _ _ => ih) (fun _ _ _ _ _ _ => ih) (fun _ listed _ => Bool.rec false ih (listed q)) (fun _ _ _ _ => ih) s) l
noncomputable def relax (l : List Stp) (s : Stp) : Stp := match s with | .l q c d rd hd x => bif noneed q l then .u c d rd x else .l q c d rd hd x | s => s
/-- What only makes something new, and hangs on nothing. -/
noncomputable def flP (P : Program) (o : Oper) : Bool :=
  match o.guard with
  | some _ => false
  | none => bif o.after.all (fun e => !Region.binds .any e) then (match o.op with
    | .alloc t => (match zeroA P t with | some _ => true | none => false)
    | .makeMap _ none => true
    | _ => false) else false
def usesB (ops : Array Oper) (o : Oper) (t : Nat) : Bool :=
  o.op.operands.any (fun x => match x with | .tmp u => Nat.beq u t | _ => false) || (match o.dst with | some d => Nat.beq d t | none => false) ||
  (match o.guard with | some (g, _) => (match (ops[g]?).bind (·.dst) with | some d => Nat.beq d t | none => false) | none => false)
noncomputable def sepB (P : Program) (ops : Array Oper) (listed : Array Bool) (o : Oper) (i : Nat) : Bool :=
  (List.range ops.size).all fun j => Nat.beq j i || listed.getD j false || (match ops[j]? with | some oj => !flP P oj || (match oj.dst with | none => true | some t => !usesB ops o t) | none => true)
noncomputable def starB (P : Program) (ops : Array Oper) (listed : Array Bool) (i : Nat) : Array Bool :=
  ((List.range ops.size).map fun j => listed.getD j false || (!Nat.beq j i && (match ops[j]? with | some oj => flP P oj | none => false))).toArray
/-- Until when a load's cells are held. -/
noncomputable def untilB (ops : Array Oper) (S : List Nat) : Nat := match S.reverse.find? (fun m => match ops[m]? with | some o => isEff o | none => false) with | some q => q | none => ops.size
/-- What only reads: how, which cells, of what. -/
noncomputable def b2sT (P : Program) (t u : TypeId) : Bool := match P.underlying t, P.underlying u with
  | some (.slice e), some .string => (match P.underlying e with | some (.int .u8) => true | _ => false)
  | _, _ => false
noncomputable def b2sF (h : H) (x : V) : Option V := match readS h x 1 with | some xs => (match u8s xs with | some bs => some (.f (.string ⟨List.toArray bs⟩)) | none => none) | none => none
noncomputable def b2sH (q : Nat) (h : H) (x : V) : Option (List Hd) := match x with
  | .s i k off n _ _ _ => bif Nat.beq n 0 then some [] else (match h.get i with | some (.c cells _ _) => hdsOf i k q (ltake (ldrop cells off) n) off | _ => none)
  | _ => some []
noncomputable def cread (P : Program) (o : Oper) : Option ((H → V → Option V) × (Nat → H → V → Option (List Hd)) × Operand) :=
  match o.op with
  | .load t x => some (ldF P t, fun q h v => cellsAt P h t v q, x)
  | .convert t u x => bif b2sT P t u then some (b2sF, b2sH, x) else none
  | _ => none
/-- One that may be taken. -/
noncomputable def takeB (P : Program) (n : Nat) (ops : Array Oper) (listed : Array Bool) (i : Nat) : Option Stp :=
  match ops[i]? with
  | none => none
  | some o =>
    bif Region.noSelect ops && Region.free .any ops listed i && sepB P ops listed o i then
      match cread P o with
      | some (rd, hd, x) => bif okBehind ops listed i (untilB ops (behindL ops listed i)) (behindL ops listed i) then some (.l (untilB ops (behindL ops listed i)) (cg n ops o) (cd n o.dst) rd (hd (untilB ops (behindL ops listed i))) (ca x)) else none
      | none => (match cpure P o with | some g => some (.t (cg n ops o) (cd n o.dst) g) | none => none)
    else none
noncomputable def flI (P : Program) (ops : Array Oper) (i : Nat) : Bool := match ops[i]? with | some o => flP P o | none => false
noncomputable def pickB (P : Program) (ops : Array Oper) (l : List Nat) : Option Nat := match l.filter (fun i => !flI P ops i) with | [] => l.head? | [i] => some i | _ => none
noncomputable def cplanF (P : Program) (n : Nat) (ops : Array Oper) (fuel : Nat) : Array Bool → Option (List Stp) :=
  Nat.rec (fun listed => match Region.ready .any ops listed with | [] => some [] | _ => none)
    (fun _ ih listed => match Region.ready .any ops listed with
      | [] => some []
      | r :: rs => match firstA (takeB P n ops listed) (r :: rs) with
        | some (i, s) => (match ih (listed.setIfInBounds i true) with | some l => some (relax l s :: l) | none => none)
        | none => match pickB P ops (r :: rs) with
          | some i => (match ops[i]? with
            | some o => bif (r :: rs).contains i && sepB P ops listed o i && (Region.ready .any ops (starB P ops listed i)).all (fun k => Nat.beq k i) then
                (match ih (listed.setIfInBounds i true) with | some l => some (.o i (lfA (listed.setIfInBounds i true)) (cins P n ops o) :: l) | none => none)
              else none
            | none => none)
          | none => none) fuel
noncomputable def flAll (P : Program) (ops : Array Oper) : Bool := Region.noSelect ops && (List.range ops.size).all fun j => match ops[j]? with | some o => !flP P o || sepB P ops (Array.replicate ops.size false) o j | none => true
noncomputable def cplan (P : Program) (n : Nat) (ops : Array Oper) : Option (List Stp) := bif flAll P ops then cplanF P n ops ops.size (Array.replicate ops.size false) else none

def QOK (ops : Array Oper) (q : Nat) : Prop := ops.size ≤ q ∨ ∃ o, ops[q]? = some o ∧ isEff o = true
theorem untilB_ok (ops : Array Oper) (S : List Nat) : QOK ops (untilB ops S) := by
  unfold untilB
  cases h : S.reverse.find? (fun m => match ops[m]? with | some o => isEff o | none => false) with
  | none => exact .inl (Nat.le_refl _)
  | some q =>
    have := List.find?_some h
    show QOK ops q
    cases ho : ops[q]? with
    | none => rw [ho] at this; cases this
    | some o => rw [ho] at this; exact .inr ⟨o, ho, this⟩
theorem QOK.ne {ops : Array Oper} {q i : Nat} {o : Oper} (hq : QOK ops q) (ho : ops[i]? = some o) (hs : isEff o = false) : q ≠ i := by
  rintro rfl
  rcases hq with h | ⟨o', ho', hs'⟩
  · have := (Array.getElem?_eq_some_iff.1 ho).1; omega
  · rw [ho] at ho'; cases ho'; rw [hs] at hs'; cases hs'

section
variable {P : Program} {Z : Base} {n : Nat}
/-- What is held is on the list, or needs no looking after. -/
def Cov (ρ : Rho) (held : List Hd) (plan : List Stp) (es : List (Addr × Value × Nat)) : Prop := ∀ e ∈ es, (∃ d ∈ held, HdR ρ d e) ∨ noneed e.2.2 plan = true
theorem HdR.mono {ρ ρ' : Rho} (h : ρ.le ρ') {d : Hd} {e : Addr × Value × Nat} : HdR ρ d e → HdR ρ' d e := fun ⟨r, a, b, c, d, g⟩ => ⟨r, h _ _ _ a, b, c, d.mono h, g⟩
theorem noneed_tl {q : Nat} {s : Stp} {l : List Stp} (h : noneed q (s :: l) = true) : noneed q l = true := by
  cases s with
  | o i listed s =>
    have h' : (Bool.rec false (noneed q l) (listed q) : Bool) = true := h
    rw [rec_if] at h'
    split at h'
    · exact h'
    · cases h'
  | _ => exact h
theorem noneed_o {q i : Nat} {listed : Nat → Bool} {s : Ins} {l : List Stp} (h : noneed q (.o i listed s :: l) = true) : listed q = true := by
  have h' : (Bool.rec false (noneed q l) (listed q) : Bool) = true := h
  rw [rec_if] at h'
  split at h'
  · rename_i h1; exact h1
  · cases h'
theorem Cov.tl {ρ : Rho} {held : List Hd} {s : Stp} {l : List Stp} {es : List (Addr × Value × Nat)} (h : Cov ρ held (s :: l) es) : Cov ρ held l es := fun e he => (h e he).imp id noneed_tl
theorem Cov.mono {ρ ρ' : Rho} {held : List Hd} {l : List Stp} {es : List (Addr × Value × Nat)} (h : Cov ρ held l es) (hr : ρ.le ρ') : Cov ρ' held l es := fun e he => (h e he).imp (fun ⟨d, hd, h⟩ => ⟨d, hd, h.mono hr⟩) id
theorem heldOK_cov {ρ : Rho} {h : H} {w : World} {i : Nat} {listed : Array Bool} {s : Ins} {l : List Stp} {ds : List Hd} {es : List (Addr × Value × Nat)} (hh : HR Z ρ h w) (hc : Cov ρ ds (.o i (lfA listed) s :: l) es) (hk : allB (hdOK h listed) ds = true) : HS es listed w := by
  intro e he hl
  rcases hc e he with ⟨d, hd, hr⟩ | hn
  · exact heldOK_spec (ds := [d]) (es := [e]) hh ⟨e, [], rfl, hr, rfl⟩ (by
      show (bif hdOK h listed d then true else false) = true
      rw [allB_mem hk d hd]; rfl) e (List.mem_singleton.2 rfl) hl
  · have hl2 : lfA listed e.2.2 = false := hl
    rw [noneed_o hn] at hl2; cases hl2
theorem ldHeld0 {P : Program} {ρ : Rho} {h : H} {w : World} (hh : HR Z ρ h w) {t : TypeId} {x v : V} {u : Value} (q : Nat) (hx : VR ρ x u) (hl : ldA P h t x = some v) :
    ∃ (es : List (Addr × Value × Nat)) (y : Value), (∀ e ∈ es, w.cell? e.1 = some e.2.1) ∧ (∀ e ∈ es, e.2.2 = q) ∧ (∀ w' : World, (∀ p ∈ es.map (fun e => (e.1, e.2.1)), w'.cell? p.1 = some p.2) → (Instr.loadAt t u).run P w' = .ok y w') ∧ VR ρ v y ∧ ∀ ds, cellsAt P h t x q = some ds → HdsR ρ ds es := by
  unfold ldA at hl
  split at hl
  · rename_i i k off
    obtain ⟨r, hr, hlo, rfl⟩ := hx
    split at hl
    · rename_i cells ver min ho
      cases hk : Nat.beq k ver with
      | false => rw [hk] at hl; cases hl
      | true =>
      rw [hk, cond_true] at hl
      have := beq_eq hk
      subst this
      have hmv := (hh.obj i _ ho).1
      obtain ⟨r', hr', hver⟩ := (hh.obj i _ ho).2 k hmv (Nat.le_refl _)
      rw [hr] at hr'
      cases hr'
      have hL : r.L = cells.length := hver.last (Nat.beq_refl k)
      have hat : ∀ j, (r.at off).add j = r.at (off + j) := fun j => by simp only [Rec.at, Addr.add_lit]; congr 1; omega
      split at hl
      · rename_i ha
        split at hl
        · rename_i s hs
          cases hb : Nat.ble (off + s) (llen cells) with
          | false => rw [hb] at hl; cases hl
          | true =>
          rw [hb, cond_true] at hl
          cases hl
          have hle := ble_le hb
          rw [llen_eq] at hle
          obtain ⟨us, hv, hul, hcell⟩ := hh.cells ho hmv (Nat.le_refl k) hr hlo (n := s) (by omega)
          refine ⟨esOf r q us off, .agg us.toArray, fun e he => ?_, fun e he => ?_, fun w' hw' => ?_, by rw [ltake_eq, ldrop_eq]; exact mkA_rel hv, fun ds hc => ?_⟩
          · obtain ⟨j, h1, h2, _⟩ := esOf_mem he
            rw [h2, ← hat]
            exact hcell j _ h1
          · exact (esOf_mem he).choose_spec.2.2
          · simp only [Instr.loadAt, Instr.sureAddr, loadVar, Sem.run_bind, Sem.run_pure, Result.andThen_ok, isAggA_run ha, if_true]
            have hrl : (loadCells (r.at off) s).run P w' = .ok us.toArray w' := run_loadCells hul fun j v hv' => by
              rw [hat]
              exact hw' _ (List.mem_map.2 ⟨_, esOf_of (q := q) hv', rfl⟩)
            simp [sizeA_run hs, hrl]
          · simp only [cellsAt, ho, ha, hs] at hc
            rw [ltake_eq, ldrop_eq] at hc
            exact hdsOf_rel hr hlo hc hv
        · cases hl
      · rename_i ha
        have hl2 := hl
        rw [lget_eq] at hl2
        have hlt : off < cells.length := (List.getElem?_eq_some_iff.1 hl2).1
        obtain ⟨y, hy, hv⟩ := hh.cell ho hmv (Nat.le_refl k) hr hlo (by omega) hl2
        refine ⟨esOf r q [y] off, y, fun e he => ?_, fun e he => ?_, fun w' hw' => ?_, hv, fun ds hc => ?_⟩
        · simp only [esOf, List.mem_singleton] at he
          subst he
          exact hy
        · simp only [esOf, List.mem_singleton] at he
          subst he
          rfl
        · have hc' : w'.cell? (r.at off) = some y := hw' (r.at off, y) (by simp [esOf])
          simp only [Instr.loadAt, Instr.sureAddr, loadVar, Sem.run_bind, Sem.run_pure, Result.andThen_ok, isAggA_run ha]
          simp [run_load, hc']
        · simp only [cellsAt, ho, ha, hl] at hc
          exact hdsOf_rel hr hlo hc ⟨y, [], rfl, hv, rfl⟩
      · cases hl
    · cases hl
  · cases hl
/-- What only reads. -/
structure RdOK (P : Program) (o : Oper) (rd : H → V → Option V) (hd : Nat → H → V → Option (List Hd)) (x : Operand) : Prop where
  eff : isEff o = false
  nofl : flP P o = false
  arg : x ∈ o.op.operands
  run : ∀ {Z : Base} {ρ : Rho} {h : H} {w : World} {xv v : V} {a : Act} (q : Nat), HR Z ρ h w → VR ρ xv (a.eval x) → rd h xv = some v →
    ∃ (es : List (Addr × Value × Nat)) (y : Value), (∀ e ∈ es, w.cell? e.1 = some e.2.1) ∧ (∀ e ∈ es, e.2.2 = q) ∧ (∀ w' : World, (∀ p ∈ es.map (fun e => (e.1, e.2.1)), w'.cell? p.1 = some p.2) → (execOp a.eval o).run P w' = .ok (.value y) w') ∧ VR ρ v y ∧ ∀ ds, hd q h xv = some ds → HdsR ρ ds es
theorem b2sT_spec {t u : TypeId} (h : b2sT P t u = true) : ∃ e, P.underlying t = some (.slice e) ∧ P.underlying u = some .string ∧ P.underlying e = some (.int .u8) := by
  unfold b2sT at h
  split at h
  · rename_i e ht hu
    split at h
    · rename_i he; exact ⟨e, ht, hu, he⟩
    · cases h
  · cases h
theorem cread_spec {o : Oper} {rd : H → V → Option V} {hd : Nat → H → V → Option (List Hd)} {x : Operand} (h : cread P o = some (rd, hd, x)) : RdOK P o rd hd x := by
  unfold cread at h
  generalize hop : o.op = op0 at h
  split at h
  · rename_i t y
    cases h
    refine ⟨by unfold isEff; rw [hop], ?_, by rw [hop]; simp [Op.operands], fun {Z ρ h w xv v a} q hh hx hl => ?_⟩
    · unfold flP
      rw [hop]
      split
      · rfl
      · cases o.after.all (fun e => !Region.binds .any e) <;> rfl
    · obtain ⟨es, z, h1, h2, h3, h4, h5⟩ := ldHeld0 (P := P) hh q hx (ldF_spec hl)
      exact ⟨es, z, h1, h2, fun w' hw' => load_val hop (h3 w' hw'), h4, h5⟩
  · rename_i t u y
    cases hb : b2sT P t u with
    | false => rw [hb] at h; cases h
    | true =>
    rw [hb, cond_true] at h
    cases h
    obtain ⟨e, ht, hu, he⟩ := b2sT_spec hb
    refine ⟨by unfold isEff; rw [hop], ?_, by rw [hop]; simp [Op.operands], fun {Z ρ h w xv v a} q hh hx hl => ?_⟩
    · unfold flP
      rw [hop]
      split
      · rfl
      · cases o.after.all (fun e => !Region.binds .any e) <;> rfl
    · unfold b2sF at hl
      split at hl
      · rename_i xs hr
        split at hl
        · rename_i bs hbs
          cases hl
          have hex : ∀ {w' : World}, (convert t u (a.eval x)).run P w' = .ok (str bs) w' → (execOp a.eval o).run P w' = .ok (.value (str bs)) w' := fun hc => by
            simp only [execOp, hop]
            exact run_val hc
          have hxx := u8s_spec hbs
          cases xv with
          | s i k off n' bn c sz' =>
            obtain ⟨r, ad, cap, hrr, hax, hcap, hcc, hat, hnb, hbc⟩ := hx
            obtain ⟨us, hv, hl, hf, hcells⟩ := readS_run (P := P) hh (x := .s i k off n' bn c sz') ⟨r, ad, cap, hrr, hax, hcap, hcc, hat, hnb, hbc⟩ hr rfl
            rw [hxx] at hv
            have hus : us = bvs bs := VRs.flats (xs := (bvs bs).map V.f) (vs := bvs bs) (by
              generalize bvs bs = l
              induction l with
              | nil => rfl
              | cons v l ih => rw [List.map_cons, flats_cons, ih]) hv
            subst hus
            have hlen : bs.length = n' := by simpa using hl
            by_cases hn0 : n' = 0
            · have hbs0 : bs = [] := List.eq_nil_of_length_eq_zero (hlen.trans hn0)
              subst hbs0
              refine ⟨[], str [], (fun e he => by cases he), (fun e he => by cases he), fun w' _ => hex ?_, rfl, fun ds hds => ?_⟩
              · rw [hax]
                subst hn0
                unfold convert
                simp [run_underlying ht, run_underlying he, run_underlying hu, Conv.bytesToString, loadCells, loadCellsFrom]
                rfl
              · unfold b2sH at hds
                rw [hn0] at hds
                cases hds
                rfl
            · have hb0 : Nat.beq n' 0 = false := beq_0 hn0
              simp only [readS, hb0, cond_false] at hr
              split at hr
              · rename_i cells ver mn ho
                cases hg : (Nat.beq 1 sz' && Nat.ble mn k && Nat.ble k ver && Nat.ble (off + n' * 1) (llen cells)) with
                | false => rw [hg] at hr; cases hr
                | true =>
                rw [hg] at hr
                simp only [cond_true, Option.some.injEq] at hr
                rcases hat with h0 | ⟨hlo, hadr, hL, _⟩
                · omega
                · have hat' : ∀ j, ad.add j = r.at (off + j) := fun j => by rw [hadr]; simp only [Rec.at, Addr.add_lit]; congr 1; omega
                  refine ⟨esOf r q (bvs bs) off, str bs, fun e he => ?_, fun e he => (esOf_mem he).choose_spec.2.2, fun w' hw' => hex ?_, rfl, fun ds hds => ?_⟩
                  · obtain ⟨j, h1, h2, _⟩ := esOf_mem he
                    rw [h2, ← hat']
                    exact hcells ad n' cap hax j _ h1
                  · rw [hax, ← hlen]
                    have hsp : ad = ⟨ad.block, ad.off, none⟩ := by rw [hadr]; rfl
                    rw [hsp]
                    refine run_convert_bytes_back w' t u e ⟨ad.block, ad.off, none⟩ cap bs ht he hu fun j hj => ?_
                    rw [← hsp, hat']
                    exact hw' (r.at (off + j), bv bs[j]) (List.mem_map.2 ⟨_, esOf_of (q := q) (us := bvs bs) (o := off) (j := j) (u := bv bs[j]) (by simp [List.getElem?_eq_getElem hj]), rfl⟩)
                  · unfold b2sH at hds
                    simp only [hb0, cond_false, ho] at hds
                    rw [Nat.mul_one] at hr
                    rw [hr, hxx] at hds
                    exact hdsOf_rel hrr hlo hds hv
              · cases hr
          | f g =>
            rw [show a.eval x = g from hx] at hex
            simp only [readS] at hr
            split at hr
            · rename_i heq; cases heq
            · rename_i heq
              cases heq
              cases hr
              have hbs0 : bs = [] := by
                have := congrArg List.length hxx
                simp at this
                exact List.eq_nil_of_length_eq_zero this.symm
              subst hbs0
              refine ⟨[], str [], (fun e he => by cases he), (fun e he => by cases he), fun w' _ => hex ?_, rfl, fun ds hds => (by cases hds; rfl)⟩
              rw [run_convert_bytes_nil w' t e ht he 0 0 u hu]; rfl
            · cases hr
          | _ => simp [readS] at hr
        · cases hl
      · cases hl
  · cases h
theorem flAll_sel {ops : Array Oper} (h : flAll P ops = true) : Region.noSelect ops = true := by unfold flAll at h; simp only [Bool.and_eq_true] at h; exact h.1
/-! What may come early. -/
structure Flt (P : Program) (o : Oper) (mk : Nat → Value) (ob : Obj) : Prop where
  run : ∀ (a : Act) (w : World), (execOp a.eval o).run P w = .ok (.value (mk w.heap.size)) { w with heap := w.heap.push ob }
  guard : o.guard = none
  adopt : ∀ {call : CallF} {Z : Base} {ρ : Rho} {f : F} {h : H} {w : World} {nm nx nx' b : Nat} {v : V} {h' : H}, cmem P o call f h nm nx = some (v, h', nx') → HR Z ρ h w → w.heap[b]? = some ob → Z.m b = none → (∀ j l r, Live h j l → ρ j l = some r → r.b ≠ b) → ∃ ρ', ρ.le ρ' ∧ HR Z ρ' h' w ∧ VR ρ' v (mk b)
  pure : cpure P o = none
  after : ∀ e ∈ o.after, Region.binds .any e = false
theorem HR.adopt {Z : Base} {ρ : Rho} {h : H} {w : World} (hh : HR Z ρ h w) {nm b : Nat} {o : O} {r : Rec} (hf : few nm = true) (hn : h.get nm = none) (hv : o.ver = 0) (hb : r.b = b) (hz : Z.m b = none)
    (hne : ∀ j l r', Live h j l → ρ j l = some r' → r'.b ≠ b) (ho : OR (ρ.add nm 0 r) nm o w) : ρ.le (ρ.add nm 0 r) ∧ HR Z (ρ.add nm 0 r) (h.set nm o) w := by
  refine hh.ver (o := o) hf rfl (fun o' ho' => by rw [hn] at ho'; cases ho') hv (fun j l r' _ _ _ _ => rfl) (fun j _ => rfl) (hb ▸ hz) (fun j l r' hr' hl _ => hb ▸ hne j l r' hl hr') ?_ ho
  intro l r' hr' hl _ _
  obtain ⟨o', ho', _⟩ := hl
  rw [hn] at ho'; cases ho'
theorem flP_spec {o : Oper} (h : flP P o = true) : ∃ mk ob, Flt P o mk ob := by
  unfold flP at h
  generalize hg : o.guard = g at h
  cases g with
  | some _ => cases h
  | none =>
  simp only at h
  cases haf : o.after.all (fun e => !Region.binds .any e) with
  | false => rw [haf] at h; cases h
  | true =>
  rw [haf, cond_true] at h
  have hafter : ∀ e ∈ o.after, Region.binds .any e = false := fun e he => by
    have := Array.all_eq_true_iff_forall_mem.1 haf e he
    simpa using this
  generalize hop : o.op = op0 at h
  split at h
  · rename_i t
    split at h
    · rename_i z hz
      refine ⟨fun b => .pointer (some ⟨b, 0, none⟩), .cells z.cells t, ⟨fun a w => ?_, hg, ?_, by unfold cpure; rw [hop]; simp [isMem, hop], hafter⟩⟩
      · simp only [execOp, hop]
        refine run_val ?_
        simp only [Instr.alloc, Sem.run_bind, zeroA_run hz, Result.andThen_ok, newVar_run, Sem.run_pure]
      · intro call Z ρ f h w nm nx nx' b v h' hc hh hb hz0 hne
        have hc' : oneA P call f h nm nx o = some (v, h', nx') := by unfold cmem at hc; rw [hop] at hc; exact hc
        unfold oneA at hc'
        have hcal : calleeA P f o = none := by unfold calleeA; rw [hop]
        rw [hcal] at hc'
        simp only at hc'
        unfold opA at hc'
        rw [hop] at hc'
        simp only [hz] at hc'
        unfold newA at hc'
        cases hn : h.get nm with
        | some _ => rw [hn] at hc'; cases hc'
        | none =>
        rw [hn] at hc'
        cases hf : few nm with
        | false => rw [hf] at hc'; cases hc'
        | true =>
        rw [hf] at hc'
        simp only [cond_true, Option.some.injEq, Prod.mk.injEq] at hc'
        obtain ⟨rfl, rfl, rfl⟩ := hc'
        obtain ⟨hle, hh'⟩ := hh.adopt (nm := nm) (b := b) (o := .c (z.cells.toList.map V.f) 0 0) (r := ⟨b, 0, 0, z.cells.size, z.cells.size⟩) hf hn rfl rfl hz0 hne (by
          refine ⟨Nat.le_refl 0, fun k _ hk => ?_⟩
          have : k = 0 := Nat.le_zero.1 hk
          subst this
          refine ⟨_, Rho.add_self _ _ _ _, ⟨⟨z.cells, t, (0, 0), hb, okFr_none _, by simp, fun j x _ hj hx => ?_⟩, Nat.zero_le _, Nat.le_refl _, by simp, fun _ => by simp⟩⟩
          simp only [List.getElem?_map, Array.getElem?_toList] at hx
          cases hu : z.cells[j]? with
          | none => rw [hu] at hx; cases hx
          | some u =>
            rw [hu] at hx
            cases hx
            exact ⟨u, by simpa using hu, rfl⟩)
        exact ⟨_, hle, hh', ⟨_, Rho.add_self _ _ _ _, Nat.le_refl 0, rfl⟩⟩
    · cases h
  · rename_i t
    refine ⟨fun b => .map (some b), .map #[] 0, ⟨fun a w => ?_, hg, ?_, by unfold cpure; rw [hop]; simp [isMem, hop], hafter⟩⟩
    · simp only [execOp, hop]
      refine run_val ?_
      simp [Instr.makeMap]
    · intro call Z ρ f h w nm nx nx' b v h' hc hh hb hz0 hne
      have hc' : oneA P call f h nm nx o = some (v, h', nx') := by unfold cmem at hc; rw [hop] at hc; exact hc
      unfold oneA at hc'
      have hcal : calleeA P f o = none := by unfold calleeA; rw [hop]
      rw [hcal] at hc'
      simp only at hc'
      unfold opA at hc'
      rw [hop] at hc'
      simp only [Option.map_none] at hc'
      unfold makeMA at hc'
      cases hn : h.get nm with
      | some _ => rw [hn] at hc'; cases hc'
      | none =>
      rw [hn] at hc'
      cases hf : few nm with
      | false => rw [hf] at hc'; cases hc'
      | true =>
      rw [hf] at hc'
      simp only [cond_true, Option.some.injEq, Prod.mk.injEq] at hc'
      obtain ⟨rfl, rfl, rfl⟩ := hc'
      obtain ⟨hle, hh'⟩ := hh.adopt (nm := nm) (b := b) (o := .m [] 0) (r := ⟨b, 0, 0, 0, 0⟩) hf hn rfl rfl hz0 hne ⟨_, #[], Rho.add_self _ _ _ _, hb, rfl⟩
      exact ⟨_, hle, hh', ⟨_, Rho.add_self _ _ _ _, rfl⟩⟩
  · cases h
theorem HR.weak {Z Z' : Base} {ρ : Rho} {h : H} {w : World} (hh : HR Z' ρ h w) (he : Z'.E = Z.E) (hs : Sub Z.m Z'.m) : HR Z ρ h w :=
  ⟨hh.env.trans he, hs.trans hh.old, hh.obj, hh.sep, hh.al, (fun i k r hl hr => by
    cases hm : Z.m r.b with
    | none => rfl
    | some o => have := hh.new i k r hl hr; rw [hs _ _ hm] at this; cases this), hh.dom⟩
/-- Nothing that has a name lies in this new block. -/
theorem HR.push {Z : Base} {ρ : Rho} {h : H} {w : World} (hh : HR Z ρ h w) (ob : Obj) : HR ⟨Z.E, fun k => if k = w.heap.size then some ob else Z.m k⟩ ρ h { w with heap := w.heap.push ob } := by
  have hp : ∀ j, j < w.heap.size → ({ w with heap := w.heap.push ob } : World).heap[j]? = w.heap[j]? := fun j hj => by simp [Array.getElem?_push, Nat.ne_of_lt hj]
  refine ⟨hh.env, fun k o hk => ?_, fun i o ho => ?_, hh.sep, hh.al, fun i k r hl hr => ?_, hh.dom⟩
  · show ({ w with heap := w.heap.push ob } : World).heap[k]? = some o
    by_cases h1 : k = w.heap.size
    · simp [h1] at hk; subst hk; simp [h1]
    · simp [h1] at hk
      rw [hp k (hh.base_lt (by rw [hk]; simp))]
      exact hh.old _ _ hk
  · exact (hh.obj i o ho).mono (Rho.le.refl ρ) fun k r h1 h2 hr => hp _ (hh.lt ⟨o, ho, h1, h2⟩ hr)
  · show (if r.b = w.heap.size then some ob else Z.m r.b) = none
    rw [if_neg (Nat.ne_of_lt (hh.lt hl hr))]
    exact hh.new i k r hl hr

abbrev EarlyF := Nat → Option (Nat × Obj)
structure Early (P : Program) (ops : Array Oper) (n : Nat) (Z Z' : Base) (L LR : Array Bool) (a0 a : Act) (E : EarlyF) : Prop where
  zE : Z'.E = Z.E
  zs : Sub Z.m Z'.m
  zin : ∀ j b ob, E j = some (b, ob) → Z'.m b = some ob ∧ Z.m b = none
  inj : ∀ j j' b ob ob', E j = some (b, ob) → E j' = some (b, ob') → j = j'
  op : ∀ j b ob, E j = some (b, ob) → ∃ o mk, ops[j]? = some o ∧ flP P o = true ∧ Flt P o mk ob ∧ ∀ t, o.dst = some t → t < n → a.tmps.getD t undef = mk b
  d : a.defers = a0.defers
  s : a.tmps.size = a0.tmps.size
  t : ∀ t, (∀ j b ob o, E j = some (b, ob) → ops[j]? = some o → o.dst ≠ some t) → a.tmps.getD t undef = a0.tmps.getD t undef
  l : ∀ k, k < ops.size → (LR.getD k false = true ↔ (L.getD k false = true ∨ (E k).isSome = true))
  ls : LR.size = ops.size
  un : ∀ k, (E k).isSome = true → L.getD k false = false
theorem Early.start {ops : Array Oper} {L : Array Bool} {a : Act} (hL : L.size = ops.size) : Early P ops n Z Z L L a a (fun _ => none) :=
  ⟨rfl, Sub.refl _, fun _ _ _ h => (by cases h), fun _ _ _ _ _ h => (by cases h), fun _ _ _ h => (by cases h), rfl, rfl, fun _ _ => rfl, fun _ _ => by simp, hL, fun _ h => (by cases h)⟩
theorem put_getD (a : Act) (d : Option Nat) (u : Value) (t : Nat) : (a.put d u).tmps.getD t undef = if d = some t ∧ t < a.tmps.size then u else a.tmps.getD t undef := by
  cases d with
  | none => simp [Act.put]
  | some d =>
    simp only [Act.put, Option.some.injEq, Array.getD_eq_getD_getElem?, Array.getElem?_setIfInBounds]
    by_cases h : d = t
    · subst h
      by_cases h2 : d < a.tmps.size
      · simp [h2]
      · simp [h2]
    · simp [h]
theorem put_size (a : Act) (d : Option Nat) (u : Value) : (a.put d u).tmps.size = a.tmps.size := by cases d <;> simp [Act.put]
theorem put_defers (a : Act) (d : Option Nat) (u : Value) : (a.put d u).defers = a.defers := by cases d <;> rfl
theorem sepB_spec {ops : Array Oper} {L : Array Bool} {o : Oper} {i : Nat} (h : sepB P ops L o i = true) {j : Nat} {oj : Oper} (hj : ops[j]? = some oj) (hf : flP P oj = true) (hne : j ≠ i) (hL : L.getD j false = false) {t : Nat} (ht : oj.dst = some t) : usesB ops o t = false := by
  unfold sepB at h
  have h1 := List.all_eq_true.1 h j (List.mem_range.2 (Array.getElem?_eq_some_iff.1 hj).1)
  simp only [hj, hf, ht, hL, Bool.or_eq_true, Bool.not_eq_true', Bool.or_false, Bool.true_eq_false, false_or] at h1
  rcases h1 with h1 | h1
  · exact absurd (beq_eq h1) hne
  · simpa using h1
theorem Early.uses {ops : Array Oper} {Z' : Base} {L LR : Array Bool} {a0 a : Act} {E : EarlyF} (he : Early P ops n Z Z' L LR a0 a E) {o : Oper} {i : Nat} (hs : sepB P ops L o i = true) (hEi : E i = none) {t : Nat} (hu : usesB ops o t = true) : a.tmps.getD t undef = a0.tmps.getD t undef ∧ ∀ j b ob oj, E j = some (b, ob) → ops[j]? = some oj → oj.dst ≠ some t := by
  have key : ∀ j b ob oj, E j = some (b, ob) → ops[j]? = some oj → oj.dst ≠ some t := by
    intro j b ob oj hj hoj hd
    obtain ⟨o', mk, ho', hf, _, _⟩ := he.op j b ob hj
    rw [hoj] at ho'
    cases ho'
    have hne : j ≠ i := fun e => by rw [e, hEi] at hj; cases hj
    rw [sepB_spec hs hoj hf hne (he.un j (by rw [hj]; rfl)) hd] at hu
    cases hu
  exact ⟨he.t t key, key⟩
theorem Early.eval {ops : Array Oper} {Z' : Base} {L LR : Array Bool} {a0 a : Act} {E : EarlyF} (he : Early P ops n Z Z' L LR a0 a E) {o : Oper} {i : Nat} (hs : sepB P ops L o i = true) (hEi : E i = none) (hsel : ∀ cs b, o.op ≠ .select cs b) : execOp a.eval o = execOp a0.eval o :=
  execOp_congr o hsel fun x hx => by
    cases x with
    | tmp t =>
      refine (he.uses hs hEi (t := t) ?_).1
      unfold usesB
      have : o.op.operands.any (fun x => match x with | .tmp u => Nat.beq u t | _ => false) = true := Array.any_eq_true'.2 ⟨.tmp t, hx, Nat.beq_refl t⟩
      rw [this]; rfl
    | _ => rfl
theorem Early.wanted {ops : Array Oper} {Z' : Base} {L LR : Array Bool} {a0 a : Act} {E : EarlyF} (he : Early P ops n Z Z' L LR a0 a E) {o : Oper} {i : Nat} (hs : sepB P ops L o i = true) (hEi : E i = none) : Region.wanted o (yielded ops a.tmps) = Region.wanted o (yielded ops a0.tmps) := by
  unfold Region.wanted
  cases hg : o.guard with
  | none => rfl
  | some gw =>
    obtain ⟨g, want⟩ := gw
    simp only
    unfold yielded
    cases hd : (ops[g]?).bind (·.dst) with
    | none => rfl
    | some d =>
      have hu : usesB ops o d = true := by
        unfold usesB
        rw [hg]
        simp only [hd, Nat.beq_refl, Bool.or_true]
      have h1 := (he.uses hs hEi hu).1
      simp only [Option.bind_some]
      have : a.tmps[d]? = a0.tmps[d]? := by
        by_cases hlt : d < a.tmps.size
        · have hlt0 : d < a0.tmps.size := by rw [← he.s]; exact hlt
          rw [Array.getElem?_eq_getElem hlt, Array.getElem?_eq_getElem hlt0]
          simpa [Array.getD, hlt, hlt0] using h1
        · rw [Array.getElem?_eq_none (Nat.le_of_not_lt hlt), Array.getElem?_eq_none (by rw [← he.s]; exact Nat.le_of_not_lt hlt)]
      rw [this]
theorem getD_set_self {L : Array Bool} {i : Nat} (h : i < L.size) : (L.setIfInBounds i true).getD i false = true := by simp [Array.getD_eq_getD_getElem?, h]
/-- An operation has come up, here as there. -/
theorem Early.step {ops : Array Oper} {Z' : Base} {L LR : Array Bool} {a0 a : Act} {E : EarlyF} (he : Early P ops n Z Z' L LR a0 a E) {o : Oper} {i : Nat} (hoi : ops[i]? = some o) (hL : L.size = ops.size) (hs : sepB P ops L o i = true) (hEi : E i = none) (u : Value) :
    Early P ops n Z Z' (L.setIfInBounds i true) (LR.setIfInBounds i true) (a0.put o.dst u) (a.put o.dst u) E := by
  have hi : i < ops.size := (Array.getElem?_eq_some_iff.1 hoi).1
  refine ⟨he.zE, he.zs, he.zin, he.inj, fun j b ob hj => ?_, by rw [put_defers, put_defers, he.d], by rw [put_size, put_size, he.s], fun t ht => ?_, fun k hk => ?_, by simpa using he.ls, fun k hk => ?_⟩
  · obtain ⟨oj, mk, hoj, hf, hfl, ht⟩ := he.op j b ob hj
    refine ⟨oj, mk, hoj, hf, hfl, fun t hd hn => ?_⟩
    rw [put_getD, if_neg]
    · exact ht t hd hn
    · rintro ⟨h1, _⟩
      have hu : usesB ops o t = true := by
        unfold usesB
        rw [h1]
        simp [Nat.beq_refl]
      exact (he.uses hs hEi hu).2 j b ob oj hj hoj hd
  · rw [put_getD, put_getD, he.s, he.t t ht]
  · by_cases hki : i = k
    · subst hki
      rw [getD_set_self (by rw [he.ls]; exact hi), getD_set_self (by rw [hL]; exact hi)]
      simp
    · rw [getD_set_ne false hki, getD_set_ne false hki]
      exact he.l k hk
  · have hki : i ≠ k := fun e => by rw [← e, hEi] at hk; cases hk
    rw [getD_set_ne false hki]
    exact he.un k hk
/-- Something new has come early. -/
theorem Early.early {ops : Array Oper} {Z' : Base} {L LR : Array Bool} {a0 a : Act} {E : EarlyF} {ρ : Rho} {h : H} {w : World} (he : Early P ops n Z Z' L LR a0 a E) (hh : HR Z' ρ h w) {o : Oper} {j : Nat} {mk : Nat → Value} {ob : Obj} (hoj : ops[j]? = some o) (hf : flP P o = true) (hfl : Flt P o mk ob) (hEj : E j = none) (hLj : L.getD j false = false)
    (hall : flAll P ops = true) (hn : a.tmps.size = n) :
    Early P ops n Z ⟨Z'.E, fun k => if k = w.heap.size then some ob else Z'.m k⟩ L (LR.setIfInBounds j true) a0 (a.put o.dst (mk w.heap.size)) (fun k => if k = j then some (w.heap.size, ob) else E k) := by
  have hj : j < ops.size := (Array.getElem?_eq_some_iff.1 hoj).1
  have hlt : ∀ {k : Nat} {x : Obj}, Z'.m k = some x → k < w.heap.size := fun hk => hh.base_lt (by rw [hk]; simp)
  have hZ0 : Z.m w.heap.size = none := by
    cases hz : Z.m w.heap.size with
    | none => rfl
    | some x => have := hlt (he.zs _ _ hz); omega
  have hdist : ∀ k b x ok t, E k = some (b, x) → ops[k]? = some ok → ok.dst = some t → o.dst ≠ some t := by
    intro k b x ok t hk hok hd hd'
    obtain ⟨ok', _, hok', hfk, _, _⟩ := he.op k b x hk
    rw [hok] at hok'
    cases hok'
    unfold flAll at hall
    simp only [Bool.and_eq_true] at hall
    have h1 := List.all_eq_true.1 hall.2 j (List.mem_range.2 hj)
    simp only [hoj, hf, Bool.not_true, Bool.false_or] at h1
    have hkj : k ≠ j := fun e => by rw [e, hEj] at hk; cases hk
    have := sepB_spec h1 hok hfk hkj (by simp [Array.getD_eq_getD_getElem?, Array.getElem?_replicate]; split <;> rfl) hd
    unfold usesB at this
    rw [hd'] at this
    simp [Nat.beq_refl] at this
  refine ⟨he.zE, fun k x hk => ?_, fun k b x hk => ?_, fun k k' b x x' hk hk' => ?_, fun k b x hk => ?_, by rw [put_defers, he.d], by rw [put_size, he.s], fun t ht => ?_, fun k hk => ?_, by simpa using he.ls, fun k hk => ?_⟩
  · show (if k = w.heap.size then some ob else Z'.m k) = some x
    rw [if_neg (Nat.ne_of_lt (hlt (he.zs _ _ hk)))]
    exact he.zs _ _ hk
  · show (if b = w.heap.size then some ob else Z'.m b) = some x ∧ _
    by_cases hkj : k = j
    · simp only [hkj, if_pos, Option.some.injEq, Prod.mk.injEq] at hk
      obtain ⟨rfl, rfl⟩ := hk
      exact ⟨if_pos rfl, hZ0⟩
    · simp only [hkj, if_false] at hk
      obtain ⟨h1, h2⟩ := he.zin k b x hk
      rw [if_neg (Nat.ne_of_lt (hlt h1))]
      exact ⟨h1, h2⟩
  · by_cases hkj : k = j <;> by_cases hkj' : k' = j
    · rw [hkj, hkj']
    · simp only [hkj, if_pos, Option.some.injEq, Prod.mk.injEq] at hk
      simp only [hkj', if_false] at hk'
      have := hlt (he.zin k' b x' hk').1
      omega
    · simp only [hkj', if_pos, Option.some.injEq, Prod.mk.injEq] at hk'
      simp only [hkj, if_false] at hk
      have := hlt (he.zin k b x hk).1
      omega
    · simp only [hkj, if_false] at hk
      simp only [hkj', if_false] at hk'
      exact he.inj k k' b x x' hk hk'
  · by_cases hkj : k = j
    · simp only [hkj, if_pos, Option.some.injEq, Prod.mk.injEq] at hk
      obtain ⟨rfl, rfl⟩ := hk
      refine ⟨o, mk, by rw [hkj]; exact hoj, hf, hfl, fun t hd hn' => ?_⟩
      rw [put_getD, if_pos ⟨hd, hn ▸ hn'⟩]
    · simp only [hkj, if_false] at hk
      obtain ⟨ok, mk', hok, hfk, hflk, htk⟩ := he.op k b x hk
      refine ⟨ok, mk', hok, hfk, hflk, fun t hd hn' => ?_⟩
      rw [put_getD, if_neg fun hx => hdist k b x ok t hk hok hd hx.1]
      exact htk t hd hn'
  · rw [put_getD, if_neg]
    · refine he.t t fun k b x ok hk hok => ht k b x ok ?_ hok
      have hkj : k ≠ j := fun e => by rw [e, hEj] at hk; cases hk
      rw [if_neg hkj]; exact hk
    · rintro ⟨h1, _⟩
      exact ht j w.heap.size ob o (if_pos rfl) hoj h1
  · by_cases hkj : j = k
    · subst hkj
      rw [getD_set_self (by rw [he.ls]; exact hj)]
      simp
    · rw [getD_set_ne false hkj, he.l k hk, if_neg (Ne.symm hkj)]
  · by_cases hkj : k = j
    · rw [hkj]; exact hLj
    · rw [if_neg hkj] at hk; exact he.un k hk
/-- What has come early takes its place. -/
theorem Early.adopt {ops : Array Oper} {Z' : Base} {L LR : Array Bool} {a0 a : Act} {E : EarlyF} (he : Early P ops n Z Z' L LR a0 a E) {o : Oper} {i b : Nat} {ob : Obj} {mk : Nat → Value} (hoi : ops[i]? = some o) (hL : L.size = ops.size) (hEi : E i = some (b, ob)) (hfl : Flt P o mk ob) (hu : ∀ t, o.dst = some t → t < n → a.tmps.getD t undef = mk b) (hn : a.tmps.size = n) :
    Early P ops n Z ⟨Z'.E, fun k => if k = b then none else Z'.m k⟩ (L.setIfInBounds i true) LR (a0.put o.dst (mk b)) a (fun k => if k = i then none else E k) := by
  have hi : i < ops.size := (Array.getElem?_eq_some_iff.1 hoi).1
  have hz := he.zin i b ob hEi
  refine ⟨he.zE, fun k x hk => ?_, fun k c x hk => ?_, fun k k' c x x' hk hk' => ?_, fun k c x hk => ?_, by rw [put_defers, he.d], by rw [put_size, he.s], fun t ht => ?_, fun k hk => ?_, he.ls, fun k hk => ?_⟩
  · show (if k = b then none else Z'.m k) = some x
    have : k ≠ b := fun e => by rw [e, hz.2] at hk; cases hk
    rw [if_neg this]; exact he.zs _ _ hk
  · by_cases hki : k = i
    · simp [hki] at hk
    · simp only [hki, if_false] at hk
      obtain ⟨h1, h2⟩ := he.zin k c x hk
      refine ⟨?_, h2⟩
      show (if c = b then none else Z'.m c) = some x
      have : c ≠ b := fun e => by subst e; exact hki (he.inj k i c x ob hk hEi)
      rw [if_neg this]; exact h1
  · by_cases hki : k = i
    · simp [hki] at hk
    · by_cases hki' : k' = i
      · simp [hki'] at hk'
      · simp only [hki, if_false] at hk
        simp only [hki', if_false] at hk'
        exact he.inj k k' c x x' hk hk'
  · by_cases hki : k = i
    · simp [hki] at hk
    · simp only [hki, if_false] at hk
      exact he.op k c x hk
  · rw [put_getD]
    by_cases hd : o.dst = some t ∧ t < a0.tmps.size
    · rw [if_pos hd]
      exact hu t hd.1 (by rw [← he.s, hn] at hd; exact hd.2)
    · rw [if_neg hd]
      by_cases hdt : o.dst = some t
      · have hge : ¬ t < a0.tmps.size := fun h => hd ⟨hdt, h⟩
        rw [Array.getD_eq_getD_getElem?, Array.getD_eq_getD_getElem?, Array.getElem?_eq_none (by rw [he.s]; exact Nat.le_of_not_lt hge), Array.getElem?_eq_none (Nat.le_of_not_lt hge)]
      · refine he.t t fun k c x ok hk hok => ?_
        by_cases hki : k = i
        · subst hki
          rw [hoi] at hok
          cases hok
          exact hdt
        · exact ht k c x ok (by rw [if_neg hki]; exact hk) hok
  · rw [he.l k hk]
    by_cases hki : i = k
    · subst hki
      rw [getD_set_self (by rw [hL]; exact hi), hEi]
      simp
    · rw [getD_set_ne false hki, if_neg (Ne.symm hki)]
  · by_cases hki : k = i
    · simp [hki] at hk
    · rw [if_neg hki] at hk
      rw [getD_set_ne false (Ne.symm hki)]
      exact he.un k hk
theorem getD_tf {L : Array Bool} {k : Nat} : L.getD k true = false ↔ (k < L.size ∧ L.getD k false = false) := by
  by_cases h : k < L.size
  · simp [Array.getD, h]
  · simp [Array.getD, h]
def cnt (L : Array Bool) : Nat := L.toList.count false
theorem cnt_set {L : Array Bool} {i : Nat} (h : L.getD i true = false) : cnt (L.setIfInBounds i true) + 1 ≤ cnt L := by
  obtain ⟨hi, hf⟩ := getD_tf.1 h
  have hf' : L.toList[i]? = some false := by
    rw [Array.getElem?_toList, Array.getElem?_eq_getElem hi]
    simpa [Array.getD, hi] using hf
  unfold cnt
  rw [Array.toList_setIfInBounds]
  have hl : i < L.toList.length := by simpa using hi
  have e : L.toList[i] = false := by
    have := List.getElem?_eq_getElem hl
    rw [this] at hf'
    exact Option.some.inj hf'
  have hm : false ∈ L.toList := e ▸ List.getElem_mem hl
  have hp := List.count_pos_iff.2 hm
  have hc := List.count_set (l := L.toList) (a := true) (b := false) hl
  rw [hc, e]
  simp
  exact Nat.le_of_eq (Nat.sub_add_cancel (by simpa using hp))
theorem Early.ready {ops : Array Oper} {Z' : Base} {L LR : Array Bool} {a0 a : Act} {E : EarlyF} (he : Early P ops n Z Z' L LR a0 a E) (hL : L.size = ops.size) {i : Nat} (hEi : E i = none) (hr : i ∈ Region.ready .any ops L) : i ∈ Region.ready .any ops LR := by
  obtain ⟨h0, o, ho, hall⟩ := mem_ready.1 hr
  have hi : i < ops.size := (Array.getElem?_eq_some_iff.1 ho).1
  refine mem_ready.2 ⟨getD_tf.2 ⟨by rw [he.ls]; exact hi, ?_⟩, o, ho, fun e hea hb => ?_⟩
  · cases hk : LR.getD i false with
    | false => rfl
    | true =>
      rcases (he.l i hi).1 hk with h | h
      · rw [(getD_tf.1 h0).2] at h; cases h
      · rw [hEi] at h; cases h
  · have := hall e hea hb
    have hlt : e.on < ops.size := by
      rcases Nat.lt_or_ge e.on L.size with h | h
      · omega
      · rw [Array.getD_eq_getD_getElem?, Array.getElem?_eq_none h] at this; cases this
    exact (he.l _ hlt).2 (.inl this)
theorem Early.behind {ops : Array Oper} {Z' : Base} {L LR : Array Bool} {a0 a : Act} {E : EarlyF} (he : Early P ops n Z Z' L LR a0 a E) {i q : Nat} (hb : Behind .any ops L i q) : Behind .any ops LR i q := by
  rcases hb with h | ⟨S, hq, hu, hall⟩
  · exact .inl h
  · refine .inr ⟨S, hq, fun m hm => ?_, hall⟩
    have hL := hu m hm
    by_cases hms : m < ops.size
    · cases hk : LR.getD m false with
      | false => rfl
      | true =>
        rcases (he.l m hms).1 hk with h | h
        · rw [hL] at h; cases h
        · obtain ⟨⟨b, ob⟩, hE⟩ := Option.isSome_iff_exists.1 h
          obtain ⟨o, mk, ho, hf, hfl, _⟩ := he.op m b ob hE
          obtain ⟨e, hea, heb, _⟩ := hall m hm o ho
          rw [hfl.after e hea] at heb
          cases heb
    · rw [Array.getD_eq_getD_getElem?, Array.getElem?_eq_none (by rw [he.ls]; omega)]; rfl
theorem put_eq {a a0 : Act} (hs : a.tmps.size = a0.tmps.size) {d : Option Nat} {u v : Value} (h : a0.put d v = a0.put d u) : a.put d v = a.put d u := by
  cases d with
  | none => rfl
  | some t =>
    by_cases ht : t < a0.tmps.size
    · have h1 := congrArg (fun x => x.tmps.getD t undef) h
      simp only [put_getD] at h1
      rw [if_pos ⟨trivial, ht⟩, if_pos ⟨trivial, ht⟩] at h1
      rw [h1]
    · simp [Act.put, Array.setIfInBounds, hs, ht]
theorem wp_change {o : Oper} {a a0 : Act} {w : World} {Q : Exit → Act → World → Prop} (hs : a.tmps.size = a0.tmps.size) (he : execOp a.eval o = execOp a0.eval o) {K : Value → World → Prop} (hQ : ∀ c a w, ¬ Q (.panic c) a w)
    (h : o.wp P a0 w (fun a' w' => ∃ u, a' = a0.put o.dst u ∧ K u w') Q) : o.wp P a w (fun a' w' => ∃ u, a' = a.put o.dst u ∧ K u w') Q := by
  unfold Oper.wp at h ⊢
  rw [he]
  generalize (execOp a0.eval o).run P w = res at h
  have conv : ∀ v w', (∃ u, a0.put o.dst v = a0.put o.dst u ∧ K u w') → ∃ u, a.put o.dst v = a.put o.dst u ∧ K u w' := fun v w' ⟨u, e, hk⟩ => ⟨u, put_eq hs e, hk⟩
  cases res with
  | ok nx w' =>
    cases nx <;> simp only [Oper.upon] at h ⊢ <;>
      first
        | exact conv _ _ h
        | exact Calls.mono h (fun e w'' he => by cases e <;> first | exact conv _ _ he | exact absurd he (hQ _ _ _) | exact he)
        | exact Rows.mono h (fun _ _ he => conv _ _ he)
        | (obtain ⟨u, e, _⟩ := h
           have := congrArg Act.defers e
           rw [put_defers, put_defers] at this
           simp at this)
  | halt x w' => cases x <;> simp only [Oper.upon] at h ⊢ <;> first | exact absurd h (hQ _ _ _) | exact h
/-- One instruction, where something has come early. -/
theorem insB_early {call : CallF} (hcall : CallOK P call) {ops : Array Oper} {o : Oper} {nm nx1 : Nat → Nat} {kk : KF} {r : F × H × Nat} {ρ : Rho} {f : F} {h : H} {nx : Nat} {a0 a : Act} {w : World} {Z' : Base} (hi : insB call (cins P n ops o) nm nx1 kk f h nx = some r) (hf : FR ρ n f a0) (hh : HR Z' ρ h w)
    (hs : a.tmps.size = a0.tmps.size) (he : execOp a.eval o = execOp a0.eval o) (hw : Region.wanted o (yielded ops a.tmps) = Region.wanted o (yielded ops a0.tmps))
    {next : Act → World → Prop} {Q : Exit → Act → World → Prop} (hQp : ∀ c a w, ¬ Q (.panic c) a w) (hnext : ∀ ρ' f' h' nx' u w', ρ.le ρ' → FR ρ' n f' (a0.put o.dst u) → HR Z' ρ' h' w' → kk f' h' nx' = some r → next (a.put o.dst u) w') :
    (Region.wanted o (yielded ops a.tmps) = true → o.wp P a w next Q) ∧ (Region.wanted o (yielded ops a.tmps) = false → next (a.put o.dst undef) w) := by
  rw [hw, wantedB_eq hf]
  have fin : ∀ {K : Value → World → Prop}, o.wp P a0 w (fun a' w' => ∃ u, a' = a0.put o.dst u ∧ K u w') Q → (∀ u w', K u w' → next (a.put o.dst u) w') → o.wp P a w next Q := fun {K} h1 h2 => Oper.wp_mono (fun a' w' ⟨u, e, hk⟩ => by rw [e]; exact h2 u w' hk) (wp_change hs he hQp h1)
  unfold cins at hi
  split at hi
  · rename_i g hg
    have hi' : (Bool.rec (kk (putP (cd n o.dst) (.f undef) f) h nx) (goP (cd n o.dst) f h nx kk (g f)) (wantedB (cg n ops o) f) : Option (F × H × Nat)) = some r := hi
    cases hw : wantedB (cg n ops o) f with
    | false =>
      rw [hw] at hi'
      exact ⟨fun h => (by cases h), fun _ => hnext ρ _ _ _ _ _ (Rho.le.refl ρ) (hf.putP (v := .f undef) (u := undef) o.dst rfl) hh hi'⟩
    | true =>
      rw [hw] at hi'
      refine ⟨fun _ => ?_, fun h => (by cases h)⟩
      cases hgf : g f with
      | none => rw [hgf] at hi'; cases hi'
      | some v =>
        rw [hgf] at hi'
        obtain ⟨u, hr, hv⟩ := cpure_spec hg hf hgf
        unfold Oper.wp
        rw [he, hr w]
        exact hnext ρ _ _ _ _ _ (Rho.le.refl ρ) (hf.putP o.dst hv) hh hi'
  · have hi' : (Bool.rec (kk (putP (cd n o.dst) (.f undef) f) h nx) (goM (cd n o.dst) f kk (cmem P o call f h (nm nx) (nx1 nx))) (wantedB (cg n ops o) f) : Option (F × H × Nat)) = some r := hi
    cases hw : wantedB (cg n ops o) f with
    | false =>
      rw [hw] at hi'
      exact ⟨fun h => (by cases h), fun _ => hnext ρ _ _ _ _ _ (Rho.le.refl ρ) (hf.putP (v := .f undef) (u := undef) o.dst rfl) hh hi'⟩
    | true =>
      rw [hw] at hi'
      refine ⟨fun _ => ?_, fun h => (by cases h)⟩
      cases hgf : cmem P o call f h (nm nx) (nx1 nx) with
      | none => rw [hgf] at hi'; cases hi'
      | some q =>
        obtain ⟨v, h1, nx2⟩ := q
        rw [hgf] at hi'
        exact fin (K := fun u w' => ∃ ρ', ρ.le ρ' ∧ VR ρ' v u ∧ HR Z' ρ' h1 w') (cmem_spec o hcall hh hf hgf fun ρ' u w' hle hv hh' => ⟨u, rfl, ρ', hle, hv, hh'⟩) fun u w' ⟨ρ', hle, hv, hh'⟩ => hnext ρ' _ _ _ _ _ hle ((hf.mono hle).putP o.dst hv) hh' hi'
theorem HS.lists {held : List (Addr × Value × Nat)} {LR : Array Bool} {j : Nat} {w w' : World} (h : HS held LR w) (hw : ∀ ad v, w.cell? ad = some v → w'.cell? ad = some v) : HS held (LR.setIfInBounds j true) w' := fun e he hl => by
  refine hw _ _ (h e he ?_)
  cases hk : LR.getD e.2.2 false with
  | false => rfl
  | true => rw [getD_set_true hk] at hl; cases hl
theorem cell_push {w : World} {ob : Obj} {ad : Addr} {v : Value} (h : w.cell? ad = some v) : ({ w with heap := w.heap.push ob } : World).cell? ad = some v := by
  unfold World.cell? at h ⊢
  have hlt : ad.block < w.heap.size := by
    rcases Nat.lt_or_ge ad.block w.heap.size with h1 | h1
    · exact h1
    · rw [Array.getElem?_eq_none h1] at h; cases h
  rw [show ({ w with heap := w.heap.push ob } : World).heap[ad.block]? = w.heap[ad.block]? by simp [Array.getElem?_push, Nat.ne_of_lt hlt]]
  exact h
theorem starB_get {ops : Array Oper} {L : Array Bool} {i k : Nat} (hk : k < ops.size) : (starB P ops L i).getD k false = (L.getD k false || (!Nat.beq k i && (match ops[k]? with | some oj => flP P oj | none => false))) := by
  unfold starB
  simp [Array.getD_eq_getD_getElem?, hk]
theorem starB_size {ops : Array Oper} {L : Array Bool} {i : Nat} : (starB P ops L i).size = ops.size := by simp [starB]
theorem planB_run {call : CallF} (hcall : CallOK P call) {ops : Array Oper} (hall : flAll P ops = true) {base : Nat} {Q : Exit → Act → World → Prop} (hQp : ∀ c a w, ¬ Q (.panic c) a w) {f' : F} {h' : H} {nx' : Nat} (k : Nat) :
    ∀ (fuel : Nat) (L LR : Array Bool) (plan : List Stp) (held : List Hd) (es : List (Addr × Value × Nat)) (ρ : Rho) (f : F) (h : H) (nx : Nat) (a0 a : Act) (w : World) (Z' : Base) (E : EarlyF), cplanF P n ops k L = some plan → planB P call base plan held f h nx = some (f', h', nx') → L.size = ops.size → FR ρ n f a0 → HR Z' ρ h w → Early P ops n Z Z' L LR a0 a E → Cov ρ held plan es → HS es LR w →
      (∀ e ∈ es, QOK ops e.2.2) → cnt LR ≤ fuel →
      (∀ ρ' a' w', ρ.le ρ' → FR ρ' n f' a' → HR Z ρ' h' w' → Q .normal a' w') → wpAnyU P .any ops Q es fuel LR a w := by
  have done : ∀ (fuel : Nat) (L LR : Array Bool) (es : List (Addr × Value × Nat)) (ρ : Rho) (f : F) (h : H) (nx : Nat) (a0 a : Act) (w : World) (Z' : Base) (E : EarlyF), Region.ready .any ops L = [] → some (f, h, nx) = some (f', h', nx') → L.size = ops.size → FR ρ n f a0 → HR Z' ρ h w → Early P ops n Z Z' L LR a0 a E →
      (∀ ρ' a' w', ρ.le ρ' → FR ρ' n f' a' → HR Z ρ' h' w' → Q .normal a' w') → wpAnyU P .any ops Q es fuel LR a w := by
    intro fuel L LR es ρ f h nx a0 a w Z' E hr hd hL hf hh he hQ
    simp only [Option.some.injEq, Prod.mk.injEq] at hd
    obtain ⟨rfl, rfl, rfl⟩ := hd
    have hE : ∀ j, E j = none := by
      intro j
      cases hj : E j with
      | none => rfl
      | some bo =>
        obtain ⟨b, ob⟩ := bo
        obtain ⟨o, mk, ho, _, hfl, _⟩ := he.op j b ob hj
        have : j ∈ Region.ready .any ops L := mem_ready.2 ⟨getD_tf.2 ⟨by rw [hL]; exact (Array.getElem?_eq_some_iff.1 ho).1, he.un j (by rw [hj]; rfl)⟩, o, ho, fun e hea heb => by rw [hfl.after e hea] at heb; cases heb⟩
        rw [hr] at this; cases this
    have hrr : Region.ready .any ops LR = [] := by
      refine List.eq_nil_iff_forall_not_mem.2 fun i hi => ?_
      obtain ⟨h0, o, ho, hdep⟩ := mem_ready.1 hi
      have hlt : i < ops.size := (Array.getElem?_eq_some_iff.1 ho).1
      have hi' : i ∈ Region.ready .any ops L := by
        refine mem_ready.2 ⟨getD_tf.2 ⟨by rw [hL]; exact hlt, ?_⟩, o, ho, fun e hea heb => ?_⟩
        · cases hk : L.getD i false with
          | false => rfl
          | true => have := (he.l i hlt).2 (.inl hk); rw [(getD_tf.1 h0).2] at this; cases this
        · have h1 := hdep e hea heb
          have hlt2 : e.on < ops.size := by
            rcases Nat.lt_or_ge e.on LR.size with h | h
            · rw [he.ls] at h; exact h
            · rw [Array.getD_eq_getD_getElem?, Array.getElem?_eq_none h] at h1; cases h1
          rcases (he.l _ hlt2).1 h1 with h2 | h2
          · exact h2
          · rw [hE] at h2; cases h2
      rw [hr] at hi'; cases hi'
    refine wpAnyU_done hrr (hQ ρ a w (Rho.le.refl ρ) ?_ (hh.weak he.zE he.zs)) _
    refine ⟨he.d.trans hf.d, he.s.trans hf.s, hf.few, fun t => ?_⟩
    rw [he.t t fun j b ob o hj => by rw [hE j] at hj; cases hj]
    exact hf.t t
  induction k with
  | zero =>
    intro fuel L LR plan held es ρ f h nx a0 a w Z' E hc hd hL hf hh he _ _ _ _ hQ
    have hc' : (match Region.ready .any ops L with | [] => some [] | _ => none) = some plan := hc
    split at hc'
    · rename_i hr
      cases hc'
      exact done fuel L LR es ρ f h nx a0 a w Z' E hr hd hL hf hh he hQ
    · cases hc'
  | succ k ih =>
    intro fuel
    induction fuel using Nat.strongRecOn with
    | _ fuel ihf =>
    intro L LR plan held es ρ f h nx a0 a w Z' E hc hd hL hf hh he hhd hS hqs hcnt hQ
    have hc' : (match Region.ready .any ops L with
      | [] => some []
      | r :: rs => match firstA (takeB P n ops L) (r :: rs) with
        | some (i, s) => (match cplanF P n ops k (L.setIfInBounds i true) with | some l => some (relax l s :: l) | none => none)
        | none => match pickB P ops (r :: rs) with
          | some i => (match ops[i]? with
            | some o => bif (r :: rs).contains i && sepB P ops L o i && (Region.ready .any ops (starB P ops L i)).all (fun k => Nat.beq k i) then
                (match cplanF P n ops k (L.setIfInBounds i true) with | some l => some (.o i (lfA (L.setIfInBounds i true)) (cins P n ops o) :: l) | none => none)
              else none
            | none => none)
          | none => none) = some plan := hc
    have pos : ∀ {i : Nat}, LR.getD i true = false → ∃ fuel', fuel = fuel' + 1 ∧ cnt (LR.setIfInBounds i true) ≤ fuel' := fun {i} hi => by
      have := cnt_set hi
      exact ⟨fuel - 1, by omega, by omega⟩
    have hn : a.tmps.size = n := he.s.trans hf.s
    split at hc'
    · rename_i hr
      cases hc'
      exact done fuel L LR es ρ f h nx a0 a w Z' E hr hd hL hf hh he hQ
    · rename_i r rs hr
      split at hc'
      · rename_i i s hfirst
        obtain ⟨hmem, htake⟩ := firstA_spec hfirst
        rw [← hr] at hmem
        split at hc'
        · rename_i l hl
          cases hc'
          unfold takeB at htake
          split at htake
          · cases htake
          · rename_i o hoi
            cases hok : (Region.noSelect ops && Region.free .any ops L i && sepB P ops L o i) with
            | false => rw [hok] at htake; cases htake
            | true =>
            rw [hok, cond_true] at htake
            simp only [Bool.and_eq_true] at hok
            obtain ⟨⟨hns, hfree⟩, hsep⟩ := hok
            have hfs := Region.free_spec hoi hfree
            have hsel := Region.noSelect_spec hns
            have hsz' : (L.setIfInBounds i true).size = ops.size := by simpa using hL
            have hwe := wantedB_eq hf ops o
            have htl := hhd.tl
            -- it has not come early
            have hEi : ∀ (hfl : flP P o = true → False), E i = none := fun hfl => by
              cases hE : E i with
              | none => rfl
              | some bo =>
                obtain ⟨o', _, ho', hf', _⟩ := he.op i bo.1 bo.2 hE
                rw [hoi] at ho'
                cases ho'
                exact (hfl hf').elim
            have hnfl : flP P o = true → False := fun hfl => by
              split at htake
              · rename_i rd hdd x hcr
                rw [(cread_spec hcr).nofl] at hfl; cases hfl
              · obtain ⟨mk, ob, hF⟩ := flP_spec hfl
                rw [hF.pure] at htake; cases htake
            have hEn := hEi hnfl
            have heval := he.eval hsep hEn (hsel i o · · hoi)
            have hwant := he.wanted hsep hEn
            have hrdy := he.ready hL hEn hmem
            obtain ⟨fuel', rfl, hcnt'⟩ := pos (mem_ready.1 hrdy).1
            have hfs' : ∀ j oj, ops[j]? = some oj → j ≠ i → LR.getD j true = false → (∀ e ∈ oj.after, Region.binds .any e = true → e.on ≠ i) → o.apart ops oj = true := fun j oj hj hji hlr hno => by
              refine hfs j oj hj hji ?_ hno
              have hlt : j < ops.size := (Array.getElem?_eq_some_iff.1 hj).1
              refine getD_tf.2 ⟨by rw [hL]; exact hlt, ?_⟩
              cases hk : L.getD j false with
              | false => rfl
              | true => have := (he.l j hlt).2 (.inl hk); rw [(getD_tf.1 hlr).2] at this; cases this
            split at htake
            · rename_i rd hdd x hcr
              have hR := cread_spec hcr
              have hst := hR.eff
              have hq : ∀ e ∈ es, e.2.2 ≠ i := fun e he => (hqs e he).ne hoi hst
              cases hb : okBehind ops L i (untilB ops (behindL ops L i)) (behindL ops L i) with
              | false => rw [hb] at htake; cases htake
              | true =>
              rw [hb, cond_true] at htake
              cases htake
              have hqok := untilB_ok ops (behindL ops L i)
              have hbe := he.behind (okBehind_spec hb)
              revert hd hqok hbe
              generalize untilB ops (behindL ops L i) = q
              intro hd hqok hbe
              have hax : a.eval x = a0.eval x := by
                cases x with
                | tmp t' =>
                  refine (he.uses hsep hEn (t := t') ?_).1
                  unfold usesB
                  have : o.op.operands.any (fun x => match x with | .tmp u => Nat.beq u t' | _ => false) = true := Array.any_eq_true'.2 ⟨.tmp t', hR.arg, Nat.beq_refl t'⟩
                  rw [this]; rfl
                | _ => rfl
              have skip : ∀ {hw : wantedB (cg n ops o) f = false}, planB P call base l held (putP (cd n o.dst) (.f undef) f) h nx = some (f', h', nx') → wpAnyU P .any ops Q es (fuel' + 1) LR a w := fun {hw} hd' => by
                refine wpAnyU_first2 (need := []) (v := undef) hoi hsel (fun c a w h => absurd h (hQp _ _ _)) hq fuel' LR a w hfs' hrdy (.inr ⟨by rw [hwant, hwe, hw], rfl⟩) he.ls (fun _ h => by cases h) hS ?_
                exact ih _ _ _ _ held es ρ _ _ _ _ _ _ Z' E hl hd' hsz' (hf.putP (v := .f undef) (u := undef) o.dst rfl) hh (he.step hoi hL hsep hEn undef) htl ((HS.set hq).2 hS) hqs hcnt' hQ
              have take : ∀ {v : V} {y : Value} {es1 : List (Addr × Value × Nat)} {held' : List Hd} {hw : wantedB (cg n ops o) f = true}, (∀ e ∈ es1, w.cell? e.1 = some e.2.1) → (∀ e ∈ es1, e.2.2 = q) → (∀ w' : World, (∀ p ∈ es1.map (fun e => (e.1, e.2.1)), w'.cell? p.1 = some p.2) → (execOp a.eval o).run P w' = .ok (.value y) w') → VR ρ v y →
                  Cov ρ held' l (es1 ++ es) → planB P call base l held' (putP (cd n o.dst) v f) h nx = some (f', h', nx') → wpAnyU P .any ops Q es (fuel' + 1) LR a w := fun {v y es1 held' hw} hnow hqs1 hrun hv hcov hd3 => by
                have hwt : Region.wanted o (yielded ops a.tmps) = true := by rw [hwant, hwe, hw]
                have hqi : ∀ e ∈ es1 ++ es, e.2.2 ≠ i := fun e he => by
                  rcases List.mem_append.1 he with he | he
                  · rw [hqs1 e he]; exact hqok.ne hoi hst
                  · exact hq e he
                have hqs' : ∀ e ∈ es1 ++ es, QOK ops e.2.2 := fun e he => by
                  rcases List.mem_append.1 he with he | he
                  · rw [hqs1 e he]; exact hqok
                  · exact hqs e he
                have hS1 : HS (es1 ++ es) LR w := fun e he hl => by
                  rcases List.mem_append.1 he with he | he
                  · exact hnow e he
                  · exact hS e he hl
                refine wpAnyU_more (held' := es1) _ _ _ _ ?_
                refine wpAnyU_first2 (need := es1.map fun e => (e.1, e.2.1)) (v := y) hoi hsel (fun c a w h => absurd h (hQp _ _ _)) hqi fuel' LR a w hfs' hrdy (.inl ⟨hwt, fun w' hw' => hrun w' hw'⟩) he.ls ?_ hS1 ?_
                · intro p hp
                  obtain ⟨e, he, rfl⟩ := List.mem_map.1 hp
                  refine ⟨q, ?_, hbe⟩
                  have : e = (e.1, e.2.1, q) := by rw [← hqs1 e he]
                  rw [← this]
                  exact List.mem_append_left _ he
                · exact ih _ _ _ _ _ _ ρ _ _ _ _ _ _ Z' E hl hd3 hsz' (hf.putP o.dst hv) hh (he.step hoi hL hsep hEn y) hcov ((HS.set hqi).2 hS1) hqs' hcnt' hQ
              cases hn : noneed q l with
              | true =>
                have hd' : (Bool.rec (planB P call base l held (putP (cd n o.dst) (.f undef) f) h nx) (goP (cd n o.dst) f h nx (planB P call base l held) (rd h ((ca x).get f))) (wantedB (cg n ops o) f) : Option (F × H × Nat)) = some (f', h', nx') := by
                  have := hd
                  simp only [relax, hn, cond_true] at this
                  exact this
                cases hw : wantedB (cg n ops o) f with
                | false => rw [hw] at hd'; exact skip (hw := hw) hd'
                | true =>
                  rw [hw] at hd'
                  cases hld : rd h ((ca x).get f) with
                  | none => rw [hld] at hd'; cases hd'
                  | some v =>
                  rw [hld] at hd'
                  obtain ⟨es1, y, hnow, hqs1, hrun, hv, _⟩ := hR.run (a := a) q hh (by rw [hax]; exact ca_rel hf x) hld
                  refine take (hw := hw) hnow hqs1 hrun hv (fun e he => ?_) hd'
                  rcases List.mem_append.1 he with he | he
                  · exact .inr (by rw [hqs1 e he]; exact hn)
                  · exact htl e he
              | false =>
                have hd' : (Bool.rec (planB P call base l held (putP (cd n o.dst) (.f undef) f) h nx) (ldB (hdd q) (cd n o.dst) ((ca x).get f) (planB P call base l) held f h nx (rd h ((ca x).get f))) (wantedB (cg n ops o) f) : Option (F × H × Nat)) = some (f', h', nx') := by
                  have := hd
                  simp only [relax, hn, cond_false] at this
                  exact this
                cases hw : wantedB (cg n ops o) f with
                | false => rw [hw] at hd'; exact skip (hw := hw) hd'
                | true =>
                  rw [hw] at hd'
                  cases hld : rd h ((ca x).get f) with
                  | none => rw [hld] at hd'; cases hd'
                  | some v =>
                  rw [hld] at hd'
                  have hd2 : hdsB (planB P call base l) held (cd n o.dst) v f h nx (hdd q h ((ca x).get f)) = some (f', h', nx') := hd'
                  cases hcells : hdd q h ((ca x).get f) with
                  | none => rw [hcells] at hd2; cases hd2
                  | some ds =>
                  rw [hcells] at hd2
                  have hd3 : planB P call base l (lapp ds held) (putP (cd n o.dst) v f) h nx = some (f', h', nx') := hd2
                  rw [lapp_eq] at hd3
                  obtain ⟨es1, y, hnow, hqs1, hrun, hv, hes⟩ := hR.run (a := a) q hh (by rw [hax]; exact ca_rel hf x) hld
                  have hes1 := hes _ hcells
                  refine take (hw := hw) hnow hqs1 hrun hv (fun e he => ?_) hd3
                  rcases List.mem_append.1 he with he | he
                  · obtain ⟨d, hd, hr⟩ := hes1.mem e he
                    exact .inl ⟨d, List.mem_append_left _ hd, hr⟩
                  · rcases htl e he with ⟨d, hd, hr⟩ | hn
                    · exact .inl ⟨d, List.mem_append_right _ hd, hr⟩
                    · exact .inr hn
            · split at htake
              · rename_i g hg
                cases htake
                have hst := cpure_eff hg
                have hq : ∀ e ∈ es, e.2.2 ≠ i := fun e he => (hqs e he).ne hoi hst
                have hd' : (Bool.rec (planB P call base l held (putP (cd n o.dst) (.f undef) f) h nx) (goP (cd n o.dst) f h nx (planB P call base l held) (g f)) (wantedB (cg n ops o) f) : Option (F × H × Nat)) = some (f', h', nx') := hd
                cases hw : wantedB (cg n ops o) f with
                | false =>
                  rw [hw] at hd'
                  refine wpAnyU_first2 (need := []) (v := undef) hoi hsel (fun c a w h => absurd h (hQp _ _ _)) hq fuel' LR a w hfs' hrdy (.inr ⟨by rw [hwant, hwe, hw], rfl⟩) he.ls (fun _ h => by cases h) hS ?_
                  exact ih _ _ _ _ held es ρ _ _ _ _ _ _ Z' E hl hd' hsz' (hf.putP (v := .f undef) (u := undef) o.dst rfl) hh (he.step hoi hL hsep hEn undef) htl ((HS.set hq).2 hS) hqs hcnt' hQ
                | true =>
                  rw [hw] at hd'
                  have hwt : Region.wanted o (yielded ops a.tmps) = true := by rw [hwant, hwe, hw]
                  cases hgf : g f with
                  | none => rw [hgf] at hd'; cases hd'
                  | some v =>
                  rw [hgf] at hd'
                  obtain ⟨u, hall', hv⟩ := cpure_spec hg hf hgf
                  refine wpAnyU_first2 (need := []) (v := u) hoi hsel (fun c a w h => absurd h (hQp _ _ _)) hq fuel' LR a w hfs' hrdy (.inl ⟨hwt, fun w' _ => by rw [heval]; exact hall' w'⟩) he.ls (fun _ h => by cases h) hS ?_
                  exact ih _ _ _ _ held es ρ _ _ _ _ _ _ Z' E hl hd' hsz' (hf.putP o.dst hv) hh (he.step hoi hL hsep hEn u) htl ((HS.set hq).2 hS) hqs hcnt' hQ
              · cases htake
        · cases hc'
      · split at hc'
        · rename_i i hpick
          split at hc'
          · rename_i o hoi
            cases hok : ((r :: rs).contains i && sepB P ops L o i && (Region.ready .any ops (starB P ops L i)).all (fun k => Nat.beq k i)) with
            | false => rw [hok] at hc'; cases hc'
            | true =>
            rw [hok, cond_true] at hc'
            simp only [Bool.and_eq_true] at hok
            obtain ⟨⟨hcon, hsep⟩, hstar⟩ := hok
            have hmem : i ∈ Region.ready .any ops L := by rw [hr]; simpa using hcon
            split at hc'
            · rename_i l hl
              cases hc'
              have hd' : insB call (cins P n ops o) (fun _ => Nat.add base i) (fun n => n) (chkB (lfA (L.setIfInBounds i true)) held (planB P call base l)) f h nx = some (f', h', nx') := hd
              have hsz' : (L.setIfInBounds i true).size = ops.size := by simpa using hL
              have hi : i < ops.size := (Array.getElem?_eq_some_iff.1 hoi).1
              have chk : ∀ {h1 : H} {f1 : F} {nx1 : Nat}, chkB (lfA (L.setIfInBounds i true)) held (planB P call base l) f1 h1 nx1 = some (f', h', nx') → allB (hdOK h1 (L.setIfInBounds i true)) held = true ∧ planB P call base l held f1 h1 nx1 = some (f', h', nx') := fun {h1 f1 nx1} hk => by
                have hk' : (bif allB (hdOK h1 (L.setIfInBounds i true)) held then planB P call base l held f1 h1 nx1 else none) = some (f', h', nx') := hk
                cases hk2 : allB (hdOK h1 (L.setIfInBounds i true)) held with
                | false => rw [hk2] at hk'; cases hk'
                | true => rw [hk2, cond_true] at hk'; exact ⟨rfl, hk'⟩
              have toLR : ∀ {es : List (Addr × Value × Nat)} {LR' : Array Bool} {w : World}, (∀ k, (L.setIfInBounds i true).getD k false = true → LR'.getD k false = true) → HS es (L.setIfInBounds i true) w → HS es LR' w := fun hle h e he hl => h e he (by
                cases hk : (L.setIfInBounds i true).getD e.2.2 false with
                | false => rfl
                | true => rw [hle _ hk] at hl; cases hl)
              have leLR : ∀ k, L.getD k false = true → LR.getD k false = true := fun k hk => by
                have hlt : k < ops.size := by
                  rcases Nat.lt_or_ge k L.size with h | h
                  · rw [hL] at h; exact h
                  · rw [Array.getD_eq_getD_getElem?, Array.getElem?_eq_none h] at hk; cases hk
                exact (he.l k hlt).2 (.inl hk)
              cases hEi : E i with
              | some bo =>
                -- it has come early: it takes its place
                obtain ⟨b, ob⟩ := bo
                obtain ⟨o', mk, ho', hflp, hfl, hu⟩ := he.op i b ob hEi
                rw [hoi] at ho'
                cases ho'
                have hz := he.zin i b ob hEi
                have hcp : cins P n ops o = .m (cg n ops o) (cd n o.dst) (cmem P o) := by unfold cins; rw [hfl.pure]
                rw [hcp] at hd'
                have hcg : cg n ops o = none := by unfold cg; rw [hfl.guard]
                have hd2 : goM (cd n o.dst) f (chkB (lfA (L.setIfInBounds i true)) held (planB P call base l)) (cmem P o call f h (Nat.add base i) nx) = some (f', h', nx') := by
                  have hd3 : (Bool.rec (chkB (lfA (L.setIfInBounds i true)) held (planB P call base l) (putP (cd n o.dst) (.f undef) f) h nx) (goM (cd n o.dst) f (chkB (lfA (L.setIfInBounds i true)) held (planB P call base l)) (cmem P o call f h (Nat.add base i) nx)) (wantedB (cg n ops o) f) : Option (F × H × Nat)) = some (f', h', nx') := hd'
                  rw [hcg] at hd3
                  exact hd3
                cases hgf : cmem P o call f h (Nat.add base i) nx with
                | none => rw [hgf] at hd2; cases hd2
                | some p =>
                obtain ⟨v, h1, nx2⟩ := p
                rw [hgf] at hd2
                obtain ⟨hk1, hk2⟩ := chk (show chkB (lfA (L.setIfInBounds i true)) held (planB P call base l) (putP (cd n o.dst) v f) h1 nx2 = some (f', h', nx') from hd2)
                have hh2 : HR ⟨Z'.E, fun k => if k = b then none else Z'.m k⟩ ρ h w := hh.weak rfl (fun k x hk => by
                  simp only at hk
                  split at hk
                  · cases hk
                  · exact hk)
                obtain ⟨ρ', hle, hh3, hv⟩ := hfl.adopt hgf hh2 (hh.old _ _ hz.1) (if_pos rfl) (fun j l r hlv hr hb => by
                  have := hh.new j l r hlv hr
                  rw [hb, hz.1] at this
                  cases this)
                have he2 := he.adopt hoi hL hEi hfl hu hn
                have hhd' := hhd.mono hle
                have hle2 : ∀ k, (L.setIfInBounds i true).getD k false = true → LR.getD k false = true := fun k hk => by
                  by_cases hki : i = k
                  · subst hki; exact (he.l i hi).2 (.inr (by rw [hEi]; rfl))
                  · rw [getD_set_ne false hki] at hk; exact leLR k hk
                exact ih fuel _ _ _ held es ρ' _ _ _ _ _ _ _ _ hl hk2 hsz' ((hf.mono hle).putP o.dst hv) hh3 he2 hhd'.tl hS hqs hcnt fun ρ2 a' w2 hle' => hQ ρ2 a' w2 (hle.trans hle')
              | none =>
                have hrdy := he.ready hL hEi hmem
                obtain ⟨fuel', rfl, hcnt'⟩ := pos (mem_ready.1 hrdy).1
                refine wpAnyU_all rfl (fun hnil => by rw [hnil] at hrdy; cases hrdy) fun j hj => ?_
                by_cases hji : j = i
                · -- its turn
                  subst hji
                  have hnosel : ∀ cs b, o.op ≠ .select cs b := fun cs b => Region.noSelect_spec (flAll_sel hall) j o cs b hoi
                  have heval := he.eval hsep hEi hnosel
                  have hwant := he.wanted hsep hEi
                  have hk := insB_early (Q := Q) hcall hd' hf hh he.s heval hwant hQp (next := fun a' w' => HS es (LR.setIfInBounds j true) w' ∧ wpAnyU P .any ops Q es fuel' (LR.setIfInBounds j true) a' w') fun ρ' f1 h1 nx1 u w1 hle hf1 hh1 hk => by
                    obtain ⟨hk1, hk2⟩ := chk hk
                    have hhd' := hhd.mono hle
                    have hS' := heldOK_cov hh1 hhd' hk1
                    have he2 := he.step hoi hL hsep hEi u
                    have hS2 : HS es (LR.setIfInBounds j true) w1 := toLR (fun k hk => by
                      by_cases hki : j = k
                      · subst hki; exact getD_set_self (by rw [he.ls]; exact hi)
                      · rw [getD_set_ne false hki] at hk ⊢; exact leLR k hk) hS'
                    exact ⟨hS2, ih fuel' _ _ _ held es ρ' _ _ _ _ _ _ Z' E hl hk2 hsz' hf1 hh1 he2 hhd'.tl hS2 hqs hcnt' fun ρ2 a' w2 hle' => hQ ρ2 a' w2 (hle.trans hle')⟩
                  unfold wpOp
                  rw [hoi]
                  simp only
                  cases hw : Region.wanted o (yielded ops a.tmps) with
                  | true => rw [if_pos rfl]; left; exact hk.1 hw
                  | false => rw [if_neg (by simp)]; exact hk.2 hw
                · -- something new comes early
                  obtain ⟨h0, oj, hoj, hdep⟩ := mem_ready.1 hj
                  have hjlt : j < ops.size := (Array.getElem?_eq_some_iff.1 hoj).1
                  have hLj : L.getD j false = false := by
                    cases hk : L.getD j false with
                    | false => rfl
                    | true => have := leLR j hk; rw [(getD_tf.1 h0).2] at this; cases this
                  have hEj : E j = none := by
                    cases hE : E j with
                    | none => rfl
                    | some bo => have := (he.l j hjlt).2 (.inr (by rw [hE]; rfl)); rw [(getD_tf.1 h0).2] at this; cases this
                  have hflj : flP P oj = true := by
                    cases hfl : flP P oj with
                    | true => rfl
                    | false =>
                      have hin : j ∈ Region.ready .any ops (starB P ops L i) := by
                        refine mem_ready.2 ⟨getD_tf.2 ⟨by rw [starB_size]; exact hjlt, by rw [starB_get hjlt, hLj, hoj]; simp [hfl]⟩, oj, hoj, fun e hea heb => ?_⟩
                        have h1 := hdep e hea heb
                        have hlt2 : e.on < ops.size := by
                          rcases Nat.lt_or_ge e.on LR.size with h | h
                          · rw [he.ls] at h; exact h
                          · rw [Array.getD_eq_getD_getElem?, Array.getElem?_eq_none h] at h1; cases h1
                        rw [starB_get hlt2]
                        rcases (he.l _ hlt2).1 h1 with h2 | h2
                        · rw [h2]; rfl
                        · obtain ⟨⟨b, ob⟩, hE⟩ := Option.isSome_iff_exists.1 h2
                          obtain ⟨o', _, ho', hf', _⟩ := he.op _ b ob hE
                          have hne : e.on ≠ i := fun he => by rw [he, hEi] at hE; cases hE
                          rw [ho', beq_ne hne]
                          simp [hf']
                      have := List.all_eq_true.1 hstar j hin
                      exact absurd (beq_eq this) hji
                  obtain ⟨mk, ob, hfl⟩ := flP_spec hflj
                  have hwj : Region.wanted oj (yielded ops a.tmps) = true := by unfold Region.wanted; rw [hfl.guard]
                  unfold wpOp
                  rw [hoj]
                  simp only
                  rw [if_pos hwj]
                  left
                  unfold Oper.wp
                  rw [hfl.run, Oper.upon_value]
                  have hS2 : HS es (LR.setIfInBounds j true) { w with heap := w.heap.push ob } := Go.Ax.HS.lists hS fun ad v hc => cell_push hc
                  have hcnt2 : cnt (LR.setIfInBounds j true) ≤ fuel' := by
                    have := cnt_set h0
                    have h2 := hcnt
                    omega
                  exact ⟨hS2, ihf fuel' (Nat.lt_succ_self _) L (LR.setIfInBounds j true) _ held es ρ f h nx a0 _ _ _ _ hc hd hL hf (hh.push ob) (he.early hh hoj hflj hfl hEj hLj hall hn) hhd hS2 hqs hcnt2 hQ⟩
            · cases hc'
          · cases hc'
        · cases hc'
end
end Go.Ax
