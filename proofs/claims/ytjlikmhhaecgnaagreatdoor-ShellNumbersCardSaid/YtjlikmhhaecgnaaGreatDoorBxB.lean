/- Faster runs: operations as closures. -/
import Derived.Test.YtjlikmhhaecgnaaGreatDoorBxA
namespace Go.Ax
set_option linter.unusedVariables false
open Go.Sx

/-- What touches no memory. -/
def PureOK (P : Program) (o : Oper) (g : F → Option V) : Prop :=
  ∀ {ρ : Rho} {n : Nat} {f : F} {a : Act} {v : V}, FR ρ n f a → g f = some v → ∃ u, (∀ w : World, (execOp a.eval o).run P w = .ok (.value u) w) ∧ VR ρ v u
abbrev MemF := CallF → F → H → Nat → Nat → Option (V × H × Nat)
/-- All else: nm: the name for what is new. -/
def MemOK (P : Program) (o : Oper) (g : MemF) : Prop :=
  ∀ {call : CallF} {Z : Base} {ρ : Rho} {n : Nat} {f : F} {h : H} {a : Act} {w : World} {nm nx nx' : Nat} {v : V} {h' : H} {next : Act → World → Prop} {Q : Exit → Act → World → Prop}, CallOK P call → HR Z ρ h w → FR ρ n f a → g call f h nm nx = some (v, h', nx') →
    (∀ ρ' u w', ρ.le ρ' → VR ρ' v u → HR Z ρ' h' w' → next (a.put o.dst u) w') → o.wp P a w next Q
theorem MemOK.gen (P : Program) (o : Oper) : MemOK P o (fun call f h nm nx => oneA P call f h nm nx o) := fun hcall hh hf ho hnext => oneA_wp hcall hh hf ho hnext
theorem PureOK.gen (P : Program) (o : Oper) : PureOK P o (fun f => pureA P f o) := fun hf hp => pureA_run hf hp
theorem PureOK.mem {P : Program} {o : Oper} {g : F → Option V} (hg : PureOK P o g) : MemOK P o (fun _ f h _ nx => match g f with | some v => some (v, h, nx) | none => none) := by
  intro call Z ρ n f h a w nm nx nx' v h' next Q hcall hh hf ho hnext
  simp only at ho
  split at ho
  · rename_i v' hv
    cases ho
    obtain ⟨u, hr, hvr⟩ := hg hf hv
    unfold Oper.wp
    rw [hr w]
    exact hnext ρ u w (Rho.le.refl ρ) hvr hh
  · cases ho

/-! Fast ways. -/
noncomputable def gMove (x : Ad) (f : F) : Option V := some (x.get f)
noncomputable def orA (r : Option Value) (alt : Option V) : Option V := Option.rec alt (fun v => some (.f v)) r
noncomputable def int2 (q : IQ) (x y : V) (alt : Option V) : Option V := onI x (fun k a => onI y (fun k' b => orA (q k a k' b) alt) alt) alt
noncomputable def gBin (P : Program) (o : Oper) (q : IQ) (x y : Ad) (f : F) : Option V := int2 q (x.get f) (y.get f) (pureA P f o)
noncomputable def gPick (c x y : Ad) (f : F) : Option V := onB (c.get f) (fun b => Bool.rec (some (y.get f)) (some (x.get f)) b) none
noncomputable def gNil (P : Program) (o : Oper) (x : Ad) (f : F) : Option V := onP (x.get f) (fun i k off => some (.p i k off)) (pureA P f o)
noncomputable def gFa (P : Program) (o : Oper) (d : Nat) (x : Ad) (f : F) : Option V := onP (x.get f) (fun i k off => some (.p i k (Nat.add off d))) (pureA P f o)
noncomputable def ixN {R : Type} (v : V) (k : Nat → R) (z : R) : R := onI v (fun _ n => Int.rec (fun m => k m) (fun _ => z) n) z
noncomputable def gIxS (P : Program) (o : Oper) (s : Nat) (x y : Ad) (f : F) : Option V :=
  onS (x.get f) (fun i k off n _ _ sz => ixN (y.get f) (fun j => Bool.rec none (Bool.rec none (some (.p i k (Nat.add off (Nat.mul j sz)))) (Nat.ble (Nat.succ j) n)) (Nat.beq s sz)) none) (pureA P f o)
noncomputable def gIxR (P : Program) (o : Oper) (s len : Nat) (x y : Ad) (f : F) : Option V :=
  onP (x.get f) (fun i k off => ixN (y.get f) (fun j => Bool.rec none (some (.p i k (Nat.add off (Nat.mul j s)))) (Nat.ble (Nat.succ j) len)) none) (pureA P f o)
noncomputable def gExt (P : Program) (o : Oper) (x : Ad) (j : Nat) (f : F) : Option V :=
  match x.get f with
  | .t xs => lget xs j
  | .f (.tuple vs) => (match lget vs.toList j with | some v => some (.f v) | none => none)
  | _ => pureA P f o
noncomputable def gCvI (P : Program) (o : Oper) (k : IntKind) (x : Ad) (f : F) : Option V := onI (x.get f) (fun _ n => some (.f (.int k (wrapF k n)))) (pureA P f o)
noncomputable def gNot (P : Program) (o : Oper) (x : Ad) (f : F) : Option V := onB (x.get f) (fun b => some (.f (.bool (Bool.rec true false b)))) (pureA P f o)
noncomputable def gLen (P : Program) (o : Oper) (x : Ad) (f : F) : Option V := onS (x.get f) (fun _ _ _ n _ _ _ => some (.f (.int .i64 (.ofNat n)))) (pureA P f o)
noncomputable def gGen (P : Program) (o : Oper) (f : F) : Option V := pureA P f o
/-- A slice of a slice. -/
noncomputable def slS (s : Nat) (x : V) (lo hi mx : Option V) : Option V :=
  match x with
  | .s i k off n b c sz =>
    (match bndA 0 lo, bndA n hi, mx with
    | some l, some hh, none => bif Nat.beq s sz && Nat.ble l hh && Nat.ble hh b then some (.s i k (off + l * s) (hh - l) (b - l) (match c with | some c => some (c - l) | none => none) s) else none
    | some l, some hh, some m => (match natF m with
      | some m => bif Nat.beq s sz && Nat.ble l hh && Nat.ble hh m && Nat.ble m b then some (.s i k (off + l * s) (hh - l) (m - l) (some (m - l)) s) else none
      | none => none)
    | _, _, _ => none)
  | _ => none
noncomputable def gSl (P : Program) (o : Oper) (s : Nat) (x : Ad) (lo hi mx : Option Ad) (f : F) : Option V :=
  onS (x.get f) (fun i k off n b c sz => bif mx.isSome && hi.isNone then none else slS s (.s i k off n b c sz) (lo.map (·.get f)) (hi.map (·.get f)) (mx.map (·.get f))) (pureA P f o)

section
variable {P : Program} {ρ : Rho} {n : Nat} {f : F} {a : Act}
theorem ixN_cases {R : Type} (v : V) (k : Nat → R) (z : R) : (∃ d m, v = .f (.int d (.ofNat m)) ∧ ixN v k z = k m) ∨ ixN v k z = z := by
  cases v with
  | f u =>
    cases u with
    | int d n => cases n with
      | ofNat m => exact .inl ⟨d, m, rfl, rfl⟩
      | negSucc m => exact .inr rfl
    | _ => exact .inr rfl
  | _ => exact .inr rfl
/-- Of which slices, with cells how large? -/
noncomputable def ixT (P : Program) (t : TypeId) : Option (Option Nat × Nat) :=
  match P.underlying t with
  | some (.slice e) => (match sizeA P e with | some s => some (none, s) | none => none)
  | some (.array len e) => (match sizeA P e with | some s => some (some len, s) | none => none)
  | _ => none
noncomputable def faT (P : Program) (s : TypeId) (j : Nat) : Option Nat :=
  match fieldOf P s j with
  | some fd => (match sizeA P fd.type with | some z => (bif Nat.beq z 0 then none else some fd.offset) | none => none)
  | none => none
noncomputable def intT (P : Program) (t : TypeId) : Option IntKind := match P.underlying t with | some (.int k) => some k | _ => none
noncomputable def gIx (P : Program) (o : Oper) (t : TypeId) (x y : Ad) : F → Option V :=
  match ixT P t with
  | some (none, s) => gIxS P o s x y
  | some (some len, s) => gIxR P o s len x y
  | none => gGen P o
noncomputable def gFad (P : Program) (o : Oper) (s : TypeId) (j : Nat) (x : Ad) : F → Option V := match faT P s j with | some d => gFa P o d x | none => gGen P o
noncomputable def gCv (P : Program) (o : Oper) (t u : TypeId) (x : Ad) : Option (F → Option V) :=
  match intT P t, intT P u with
  | some _, some k => some (gCvI P o k x)
  | _, _ => none
def isMem (o : Oper) : Bool := match o.op with
  | .load .. | .store .. | .alloc .. | .box .. | .makeSlice .. | .makeMap .. | .lookup .. | .mapUpdate .. | .insert .. | .buildSlice .. | .call .. => true
  | .convert .. | .slice .. | .range .. | .next .. => true
  | _ => false
/-- What is never taken ahead of others. -/
def isEff (o : Oper) : Bool := match o.op with
  | .store .. | .alloc .. | .box .. | .makeSlice .. | .makeMap .. | .lookup .. | .mapUpdate .. | .insert .. | .buildSlice .. | .range .. | .next .. => true
  | .call c => (match c.callee with | .builtin .len | .builtin .min | .builtin .max => false | _ => true)
  | _ => false
noncomputable def gUn (P : Program) (o : Oper) (u : UnOp) (x : Ad) : F → Option V := match u with | .not => gNot P o x | _ => gGen P o
noncomputable def slT (P : Program) (t : Option TypeId) : Bool := match t.bind P.underlying with | some (.slice _) => true | _ => false
noncomputable def stT (P : Program) (t : Option TypeId) : Bool := match t.bind P.underlying with | some .string => true | _ => false
noncomputable def gSlc (P : Program) (o : Oper) (t : TypeId) (x : Ad) (lo hi mx : Option Ad) : Option (F → Option V) :=
  match P.underlying t with
  | some (.slice e) => (match sizeA P e with | some s => some (gSl P o s x lo hi mx) | none => none)
  | some .string => some (gGen P o)
  | _ => none
noncomputable def gCal (P : Program) (o : Oper) (c : Call) : Option (F → Option V) :=
  match c.callee with
  | .builtin .len => (match c.args.toList with
    | [x] => bif slT P c.argTypes[0]? then some (gLen P o (ca x)) else bif stT P c.argTypes[0]? then some (gGen P o) else none
    | _ => none)
  | .builtin .min => some (gGen P o)
  | .builtin .max => some (gGen P o)
  | _ => none
/-- A closure for what touches no memory. -/
noncomputable def cpure (P : Program) (o : Oper) : Option (F → Option V) :=
  match o.op with
  | .move x => some (gMove (ca x))
  | .assign x => some (gMove (ca x))
  | .pick c x y => some (gPick (ca c) (ca x) (ca y))
  | .nilCheck x => some (gNil P o (ca x))
  | .fieldAddr s x j => some (gFad P o s j (ca x))
  | .indexAddr t x i => some (gIx P o t (ca x) (ca i))
  | .extract x j => some (gExt P o (ca x) j)
  | .binOp op _ x y _ => some (gBin P o (opQ op) (ca x) (ca y))
  | .unOp u _ x => some (gUn P o u (ca x))
  | .convert t u x => gCv P o t u (ca x)
  | .slice t x lo hi mx => gSlc P o t (ca x) (lo.map ca) (hi.map ca) (mx.map ca)
  | .call c => gCal P o c
  | _ => bif isMem o then none else some (gGen P o)
theorem slS_run {t e : TypeId} {s : Nat} (hu : P.underlying t = some (.slice e)) (hs : sizeA P e = some s) {x v : V} {lo hi mx : Option V} {u : Value} {lo' hi' mx' : Option Value} (hx : VR ρ x u) (hl : OptR ρ lo lo') (hr : OptR ρ hi hi') (hm : OptR ρ mx mx') (hmh : mx.isSome = true → hi.isSome = true)
    (ha : slS s x lo hi mx = some v) : ∃ z, (∀ w : World, (Instr.sliceAt t u lo' hi' mx').run P w = .ok z w) ∧ VR ρ v z := by
  unfold slS at ha
  split at ha
  · rename_i i k off n' bn c sz
    obtain ⟨r, ad, cap, hr', rfl, hcap, hcc, hat, hnb, hbc⟩ := hx
    split at ha
    · rename_i l hh' h1 h2
      have hmx : mx' = none := by cases mx' with | none => rfl | some => exact hm.elim
      subst hmx
      cases hb : (Nat.beq s sz && Nat.ble l hh' && Nat.ble hh' bn) with
      | false => rw [hb] at ha; cases ha
      | true =>
      rw [hb, cond_true] at ha
      cases ha
      simp only [Bool.and_eq_true] at hb
      obtain ⟨⟨hb1, hb2⟩, hb3⟩ := hb
      have := beq_eq hb1
      subst this
      have e2 := ble_le hb2
      have e3 := ble_le hb3
      have m1 : (hh' - l) * s + l * s = hh' * s := by rw [← Nat.add_mul]; congr 1; omega
      have m2 : (cap - l) * s + l * s = cap * s := by rw [← Nat.add_mul]; congr 1; omega
      have m3 : hh' * s ≤ bn * s := Nat.mul_le_mul_right _ e3
      have m5 : (bn - l) * s + l * s = bn * s := by rw [← Nat.add_mul]; congr 1; omega
      refine ⟨.slice (if cap = l then some ad else (some ad).map (·.add (l * s))) (hh' - l) (cap - l), fun w => ?_, ⟨r, if cap = l then ad else ad.add (l * s), cap - l, hr', ?_, by omega, ?_, ?_, by omega, by omega⟩⟩
      · simp only [Instr.sliceAt, Instr.slice, Sem.run_bind, run_underlying hu, Result.andThen_ok, run_boundsA hl hr h1 h2 e2 (Nat.le_trans e3 hbc), sizeA_run hs, Sem.run_pure]
      · by_cases hnl : cap = l <;> simp [hnl]
      · rcases hcc with rfl | rfl
        · exact .inl rfl
        · exact .inr rfl
      · rcases hat with h0 | ⟨hlo, rfl, hLL, hhi, hex, hbL⟩
        · left; omega
        · by_cases hnl : cap = l
          · left; omega
          · right
            rw [if_neg hnl]
            refine ⟨by omega, by simp only [Rec.at, Addr.add_lit]; congr 1; omega, by omega, by omega, (fun hcn => ?_), by omega⟩
            cases c with
            | none => have := hex rfl; omega
            | some c => cases hcn
    · rename_i l hh' m h1 h2
      split at ha
      · rename_i m' hm'
        cases hb : (Nat.beq s sz && Nat.ble l hh' && Nat.ble hh' m' && Nat.ble m' bn) with
        | false => rw [hb] at ha; cases ha
        | true =>
        rw [hb, cond_true] at ha
        cases ha
        simp only [Bool.and_eq_true] at hb
        obtain ⟨⟨⟨hb1, hb2⟩, hb3⟩, hb4⟩ := hb
        have := beq_eq hb1
        subst this
        have e2 := ble_le hb2
        have e3 := ble_le hb3
        have e4 := ble_le hb4
        have m1 : (hh' - l) * s + l * s = hh' * s := by rw [← Nat.add_mul]; congr 1; omega
        have m2 : (m' - l) * s + l * s = m' * s := by rw [← Nat.add_mul]; congr 1; omega
        have m3 : hh' * s ≤ bn * s := Nat.mul_le_mul_right _ (by omega)
        have m4 : m' * s ≤ cap * s := Nat.mul_le_mul_right _ (by omega)
        have m6 : m' * s ≤ bn * s := Nat.mul_le_mul_right _ e4
        cases mx' with
        | none => exact hm.elim
        | some mv =>
        obtain ⟨k2, rfl⟩ := natF_spec hm hm'
        cases hi with
        | none => exact absurd (hmh rfl) (by simp)
        | some hiv =>
        cases hi' with
        | none => exact hr.elim
        | some hiu =>
        refine ⟨.slice (if m' = l then some ad else (some ad).map (·.add (l * s))) (hh' - l) (m' - l), fun w => ?_, ⟨r, if m' = l then ad else ad.add (l * s), m' - l, hr', ?_, by omega, .inr rfl, ?_, by omega, Nat.le_refl _⟩⟩
        · simp only [Instr.sliceAt, Instr.slice, Sem.run_bind, run_underlying hu, Result.andThen_ok, run_bounds3 hl rfl hr h1 h2 e2 e3 (Nat.le_trans e4 hbc), sizeA_run hs, Sem.run_pure]
        · by_cases hnl : m' = l <;> simp [hnl]
        · rcases hat with h0 | ⟨hlo, rfl, hLL, hhi, hex, hbL⟩
          · left; omega
          · by_cases hnl : m' = l
            · left; omega
            · right
              rw [if_neg hnl]
              exact ⟨by omega, by simp only [Rec.at, Addr.add_lit]; congr 1; omega, by omega, by omega, (fun h => by cases h), by omega⟩
      · cases ha
    · cases ha
  · cases ha
theorem optM (hf : FR ρ n f a) (x : Option Operand) : OptR ρ ((x.map ca).map (·.get f)) (x.map a.eval) := by
  cases x with
  | none => trivial
  | some x => exact ca_rel hf x
theorem cpure_spec {o : Oper} {g : F → Option V} (h : cpure P o = some g) : PureOK P o g := by
  intro ρ n f a v hf hg
  have gen : pureA P f o = some v → ∃ u, (∀ w : World, (execOp a.eval o).run P w = .ok (.value u) w) ∧ VR ρ v u := fun hp => pureA_run hf hp
  unfold cpure at h
  generalize hop : o.op = op0 at h
  split at h
  · rename_i x
    cases h
    cases hg
    exact ⟨_, fun w => by simp only [execOp, hop]; rfl, ca_rel hf x⟩
  · rename_i x
    cases h
    cases hg
    exact ⟨_, fun w => by simp only [execOp, hop]; rfl, ca_rel hf x⟩
  · rename_i c x y
    cases h
    unfold gPick at hg
    rcases onB_cases ((ca c).get f) (fun b => Bool.rec (some ((ca y).get f)) (some ((ca x).get f)) b) (none : Option V) with ⟨b, hc, he⟩ | he
    · rw [he] at hg
      have := ca_rel hf c
      rw [hc] at this
      refine ⟨if b then a.eval x else a.eval y, fun w => ?_, ?_⟩
      · simp [execOp, hop, show a.eval c = .bool b from this, asBool]
      · cases b
        · cases hg; exact ca_rel hf y
        · cases hg; exact ca_rel hf x
    · rw [he] at hg; cases hg
  · rename_i x
    cases h
    unfold gNil at hg
    rcases onP_cases ((ca x).get f) (fun i k off => some (V.p i k off)) (pureA P f o) with ⟨i, k, off, hx, he⟩ | he
    · rw [he] at hg
      cases hg
      have := ca_rel hf x
      rw [hx] at this
      obtain ⟨r, h1, h2, h3⟩ := this
      exact ⟨a.eval x, fun w => by simp [execOp, hop, h3], ⟨r, h1, h2, h3⟩⟩
    · rw [he] at hg; exact gen hg
  · rename_i s x j
    cases h
    unfold gFad at hg
    cases hd : faT P s j with
    | none => rw [hd] at hg; exact gen hg
    | some d =>
      rw [hd] at hg
      change gFa P o d (ca x) f = some v at hg
      unfold gFa at hg
      rcases onP_cases ((ca x).get f) (fun i k off => some (V.p i k (Nat.add off d))) (pureA P f o) with ⟨i, k, off, hx, he⟩ | he
      · rw [he] at hg
        cases hg
        have hxx := ca_rel hf x
        rw [hx] at hxx
        have : faA P s (.p i k off) j = some (.p i k (off + d)) := by
          unfold faT at hd
          unfold faA
          split at hd
          · rename_i fd hfd
            rw [hfd]
            split at hd
            · rename_i z hz
              simp only [hz]
              cases hb : Nat.beq z 0 with
              | true => rw [hb] at hd; cases hd
              | false => rw [hb] at hd; cases hd; rfl
            · cases hd
          · cases hd
        obtain ⟨z, hz, hv⟩ := faA_run hxx this
        exact ⟨z, fun w => by simp only [execOp, hop]; exact run_val (hz w), hv⟩
      · rw [he] at hg; exact gen hg
  · rename_i t x i
    cases h
    have hxx := ca_rel hf x
    have hii := ca_rel hf i
    unfold gIx at hg
    cases ht : ixT P t with
    | none => rw [ht] at hg; exact gen hg
    | some q =>
    obtain ⟨ln, s⟩ := q
    cases ln with
    | none =>
      rw [ht] at hg
      change gIxS P o s (ca x) (ca i) f = some v at hg
      unfold gIxS at hg
      rcases onS_cases ((ca x).get f) (fun i' k off n _ _ sz => ixN ((ca i).get f) (fun j => Bool.rec none (Bool.rec none (some (V.p i' k (Nat.add off (Nat.mul j sz)))) (Nat.ble (Nat.succ j) n)) (Nat.beq s sz)) none) (pureA P f o) with ⟨i', k, off, n', bn, c, sz, hx, he⟩ | he
      · rw [he] at hg
        rcases ixN_cases ((ca i).get f) (fun j => (Bool.rec none (Bool.rec none (some (V.p i' k (Nat.add off (Nat.mul j sz)))) (Nat.ble (Nat.succ j) n')) (Nat.beq s sz) : Option V)) none with ⟨d, j, hi, he2⟩ | he2
        · rw [he2] at hg
          have : ixA P t ((ca x).get f) ((ca i).get f) = some v := by
            rw [hx, hi]
            unfold ixT at ht
            unfold ixA
            simp only [natF, intF, natI]
            split at ht
            · rename_i e hu
              rw [hu]
              simp only
              split at ht
              · rename_i s' hs
                cases ht
                rw [hs]
                rw [rec_if, rec_if] at hg
                show (bif Nat.beq s sz && Nat.blt j n' then some (V.p i' k (off + j * sz)) else none) = some v
                cases h1 : Nat.beq s sz with
                | false => rw [h1] at hg; cases hg
                | true =>
                  rw [h1] at hg
                  simp only [if_true] at hg
                  cases h2 : Nat.ble (Nat.succ j) n' with
                  | false => rw [h2] at hg; cases hg
                  | true =>
                    rw [h2] at hg
                    rw [show Nat.blt j n' = true from h2]
                    exact hg
              · cases ht
            · split at ht <;> cases ht
            · cases ht
          obtain ⟨z, hz, hv⟩ := ixA_run hxx hii this
          exact ⟨z, fun w => by simp only [execOp, hop]; exact run_val (hz w), hv⟩
        · rw [he2] at hg; cases hg
      · rw [he] at hg; exact gen hg
    | some len =>
      rw [ht] at hg
      change gIxR P o s len (ca x) (ca i) f = some v at hg
      unfold gIxR at hg
      rcases onP_cases ((ca x).get f) (fun i' k off => ixN ((ca i).get f) (fun j => Bool.rec none (some (V.p i' k (Nat.add off (Nat.mul j s)))) (Nat.ble (Nat.succ j) len)) none) (pureA P f o) with ⟨i', k, off, hx, he⟩ | he
      · rw [he] at hg
        rcases ixN_cases ((ca i).get f) (fun j => (Bool.rec none (some (V.p i' k (Nat.add off (Nat.mul j s)))) (Nat.ble (Nat.succ j) len) : Option V)) none with ⟨d, j, hi, he2⟩ | he2
        · rw [he2] at hg
          have : ixA P t ((ca x).get f) ((ca i).get f) = some v := by
            rw [hx, hi]
            unfold ixT at ht
            unfold ixA
            simp only [natF, intF, natI]
            split at ht
            · split at ht <;> cases ht
            · rename_i len' e hu
              rw [hu]
              simp only
              split at ht
              · rename_i s' hs
                cases ht
                rw [hs]
                rw [rec_if] at hg
                show (bif Nat.blt j len then some (V.p i' k (off + j * s)) else none) = some v
                cases h2 : Nat.ble (Nat.succ j) len with
                | false => rw [h2] at hg; cases hg
                | true =>
                  rw [h2] at hg
                  rw [show Nat.blt j len = true from h2]
                  exact hg
              · cases ht
            · cases ht
          obtain ⟨z, hz, hv⟩ := ixA_run hxx hii this
          exact ⟨z, fun w => by simp only [execOp, hop]; exact run_val (hz w), hv⟩
        · rw [he2] at hg; cases hg
      · rw [he] at hg; exact gen hg
  · rename_i x j
    cases h
    have hxx := ca_rel hf x
    unfold gExt at hg
    split at hg
    · rename_i xs hx
      rw [hx] at hxx
      obtain ⟨ys, h1, h2⟩ := hxx
      rw [lget_eq] at hg
      obtain ⟨u, hu, hv⟩ := h2.get _ _ hg
      refine ⟨u, fun w => ?_, hv⟩
      simp only [execOp, hop]
      refine run_val ?_
      simp [Instr.extract, h1, hu]
    · rename_i vs hx
      rw [hx] at hxx
      split at hg
      · rename_i v' hv'
        cases hg
        rw [lget_eq] at hv'
        refine ⟨v', fun w => ?_, rfl⟩
        simp only [execOp, hop]
        refine run_val ?_
        have : vs[j]? = some v' := by rw [← Array.getElem?_toList]; exact hv'
        rw [show a.eval x = .tuple vs from hxx]
        simp [Instr.extract, this]
      · cases hg
    · exact gen hg
  · rename_i op t x y yt
    cases h
    have hxx := ca_rel hf x
    have hyy := ca_rel hf y
    unfold gBin int2 at hg
    rcases onI_cases ((ca x).get f) (fun k a => onI ((ca y).get f) (fun k' b => orA (opQ op k a k' b) (pureA P f o)) (pureA P f o)) (pureA P f o) with ⟨k, p, hx, he⟩ | he
    · rw [he] at hg
      rcases onI_cases ((ca y).get f) (fun k' b => orA (opQ op k p k' b) (pureA P f o)) (pureA P f o) with ⟨k', q, hy, he2⟩ | he2
      · rw [he2] at hg
        cases hq : opQ op k p k' q with
        | none => rw [hq] at hg; exact gen hg
        | some v' =>
          rw [hq] at hg
          have hg' : some (V.f v') = some v := hg
          cases hg'
          refine ⟨v', fun w => ?_, rfl⟩
          rw [hx] at hxx
          rw [hy] at hyy
          simp only [execOp, hop]
          refine run_val ?_
          rw [show a.eval x = .int k p from hxx, show a.eval y = .int k' q from hyy, Sem.run_bind, run_eqGuard_int]
          exact opQ_run hq t w
      · rw [he2] at hg; exact gen hg
    · rw [he] at hg; exact gen hg
  · rename_i u t x
    cases h
    unfold gUn at hg
    split at hg
    · unfold gNot at hg
      rcases onB_cases ((ca x).get f) (fun b => some (V.f (.bool (Bool.rec true false b)))) (pureA P f o) with ⟨b, hx, he⟩ | he
      · rw [he] at hg
        cases hg
        have hxx := ca_rel hf x
        rw [hx] at hxx
        refine ⟨.bool !b, fun w => ?_, by rw [not_rec]; rfl⟩
        simp only [execOp, hop]
        refine run_val ?_
        rw [show a.eval x = .bool b from hxx]
        rfl
      · rw [he] at hg; exact gen hg
    · exact gen hg
  · rename_i t u x
    unfold gCv at h
    split at h
    · rename_i k1 k h1 h2
      cases h
      unfold gCvI at hg
      rcases onI_cases ((ca x).get f) (fun _ n => some (V.f (.int k (wrapF k n)))) (pureA P f o) with ⟨k', m, hx, he⟩ | he
      · rw [he] at hg
        cases hg
        have hxx := ca_rel hf x
        rw [hx] at hxx
        refine ⟨.int k (wrapF k m), fun w => ?_, rfl⟩
        simp only [execOp, hop]
        refine run_val ?_
        rw [show a.eval x = .int k' m from hxx]
        obtain ⟨e1, e2⟩ : P.underlying t = some (.int k1) ∧ P.underlying u = some (.int k) := by
          constructor
          · unfold intT at h1; split at h1
            · rename_i hu; cases h1; exact hu
            · cases h1
          · unfold intT at h2; split at h2
            · rename_i hu; cases h2; exact hu
            · cases h2
        unfold convert
        simp only [Sem.run_bind, run_underlying e1, run_underlying e2, Result.andThen_ok]
        rw [wrapF_eq]
        rfl
      · rw [he] at hg; exact gen hg
    · cases h
  · rename_i t x lo hi mx
    unfold gSlc at h
    split at h
    · rename_i e hu
      split at h
      · rename_i s hs
        cases h
        unfold gSl at hg
        rcases onS_cases ((ca x).get f) (fun i k off n b c sz => bif (mx.map ca).isSome && (hi.map ca).isNone then none else slS s (.s i k off n b c sz) ((lo.map ca).map (·.get f)) ((hi.map ca).map (·.get f)) ((mx.map ca).map (·.get f))) (pureA P f o) with ⟨i, k, off, n', bn, c, sz, hx, he⟩ | he
        · rw [he] at hg
          cases hb : ((mx.map ca).isSome && (hi.map ca).isNone) with
          | true => rw [hb] at hg; cases hg
          | false =>
            rw [hb, cond_false, ← hx] at hg
            obtain ⟨z, hz, hv⟩ := slS_run hu hs (ca_rel hf x) (optM hf lo) (optM hf hi) (optM hf mx) (by cases mx <;> cases hi <;> simp_all) hg
            exact ⟨z, fun w => by simp only [execOp, hop]; exact run_val (hz w), hv⟩
        · rw [he] at hg; exact gen hg
      · cases h
    · cases h; exact gen hg
    · cases h
  · rename_i c
    unfold gCal at h
    generalize hcal : c.callee = cal at h
    split at h
    · generalize hx : c.args.toList = al at h
      split at h
      · rename_i x
        cases hs : slT P c.argTypes[0]? with
        | false =>
          rw [hs, cond_false] at h
          cases hs2 : stT P c.argTypes[0]? with
          | false => rw [hs2] at h; cases h
          | true => rw [hs2] at h; cases h; exact gen hg
        | true =>
          rw [hs, cond_true] at h
          cases h
          unfold gLen at hg
          rcases onS_cases ((ca x).get f) (fun _ _ _ n _ _ _ => some (V.f (.int .i64 (.ofNat n)))) (pureA P f o) with ⟨i, k, off, n', bn, cc, sz, he, hk⟩ | hk
          · rw [hk] at hg
            cases hg
            have hxx := ca_rel hf x
            rw [he] at hxx
            obtain ⟨r, ad, cap, _, hav, _⟩ := hxx
            have hx' : c.args = #[x] := by apply Array.ext'; simpa using hx
            obtain ⟨t0, e0, ht0, hu0⟩ : ∃ t0 e0, c.argTypes[0]? = some t0 ∧ P.underlying t0 = some (.slice e0) := by
              unfold slT at hs
              cases h0 : c.argTypes[0]? with
              | none => rw [h0] at hs; simp at hs
              | some t0 =>
                rw [h0] at hs
                simp only [Option.bind_some] at hs
                split at hs
                · rename_i e0 hu; exact ⟨t0, e0, rfl, hu⟩
                · cases hs
            refine ⟨.int .i64 (n' : Int), fun w => ?_, rfl⟩
            simp only [execOp, hop, resolve, hcal, hx']
            simp only [Sem.run_bind, Sem.run_pure, Result.andThen_ok, invoke, builtin]
            simp [Builtin.len_, ht0, run_underlying hu0, hav, goInt]
          · rw [hk] at hg; exact gen hg
      · cases h
    · cases h; exact gen hg
    · cases h; exact gen hg
    · cases h
  · cases hb : isMem o with
    | true => rw [hb] at h; cases h
    | false =>
      rw [hb, cond_false] at h
      cases h
      exact gen hg
theorem cpure_eff {o : Oper} {g : F → Option V} (h : cpure P o = some g) : isEff o = false := by
  unfold cpure at h
  unfold isEff
  generalize hop : o.op = op0 at h
  cases op0 with
  | call c =>
    simp only at h ⊢
    unfold gCal at h
    generalize c.callee = cal at h
    cases cal with
    | builtin b => cases b <;> first | rfl | (simp at h)
    | _ => simp at h
  | _ => first | rfl | (simp [isMem, hop] at h)

/-! With memory. -/
/-- How much is loaded: none: one cell. -/
noncomputable def ldT (P : Program) (t : TypeId) : Option (Option Nat) :=
  match isAggA P t with
  | some true => (match sizeA P t with | some s => some (some s) | none => none)
  | some false => some none
  | none => none
noncomputable def ofC (o : Option O) (k : List V → Nat → Option V) : Option V := Option.rec none (fun o => O.casesOn (motive := fun _ => Option V) o (fun cells ver _ => k cells ver) (fun _ _ => none) (fun _ _ _ _ => none)) o
noncomputable def ld1 (h : H) (x : V) : Option V := onP x (fun i k off => ofC (h.get i) (fun cells ver => Bool.rec none (lget cells off) (Nat.beq k ver))) none
noncomputable def ldN (s : Nat) (h : H) (x : V) : Option V := onP x (fun i k off => ofC (h.get i) (fun cells ver => Bool.rec none (Bool.rec none (some (mkA (ltake (ldrop cells off) s))) (Nat.ble (Nat.add off s) (llen cells))) (Nat.beq k ver))) none
noncomputable def ldF (P : Program) (t : TypeId) : H → V → Option V := match ldT P t with | some (some s) => ldN s | some none => ld1 | none => fun _ _ => none
theorem ofC_cases (o : Option O) (k : List V → Nat → Option V) : (∃ c v m, o = some (.c c v m) ∧ ofC o k = k c v) ∨ ofC o k = none := by
  cases o with
  | none => exact .inr rfl
  | some o => cases o <;> first | exact .inl ⟨_, _, _, rfl, rfl⟩ | exact .inr rfl
theorem ldF_spec {t : TypeId} {h : H} {x v : V} (hl : ldF P t h x = some v) : ldA P h t x = some v := by
  unfold ldF at hl
  cases ht : ldT P t with
  | none => rw [ht] at hl; cases hl
  | some q =>
  rw [ht] at hl
  unfold ldT at ht
  cases q with
  | none =>
    change ld1 h x = some v at hl
    unfold ld1 at hl
    rcases onP_cases x (fun i k off => ofC (h.get i) (fun cells ver => Bool.rec none (lget cells off) (Nat.beq k ver))) (none : Option V) with ⟨i, k, off, rfl, he⟩ | he
    · rw [he] at hl
      rcases ofC_cases (h.get i) (fun cells ver => Bool.rec none (lget cells off) (Nat.beq k ver)) with ⟨c, ver, m, ho, he2⟩ | he2
      · rw [he2, rec_if] at hl
        have hk : Nat.beq k ver = true := by
          cases hk : Nat.beq k ver with
          | true => rfl
          | false => rw [hk] at hl; cases hl
        rw [hk] at hl
        simp only [ldA, ho, hk, cond_true]
        have hagg : isAggA P t = some false := by
          split at ht
          · split at ht <;> cases ht
          · rename_i ha; exact ha
          · cases ht
        rw [hagg]
        exact hl
      · rw [he2] at hl; cases hl
    · rw [he] at hl; cases hl
  | some s =>
    change ldN s h x = some v at hl
    unfold ldN at hl
    rcases onP_cases x (fun i k off => ofC (h.get i) (fun cells ver => Bool.rec none (Bool.rec none (some (mkA (ltake (ldrop cells off) s))) (Nat.ble (Nat.add off s) (llen cells))) (Nat.beq k ver))) (none : Option V) with ⟨i, k, off, rfl, he⟩ | he
    · rw [he] at hl
      rcases ofC_cases (h.get i) (fun cells ver => Bool.rec none (Bool.rec none (some (mkA (ltake (ldrop cells off) s))) (Nat.ble (Nat.add off s) (llen cells))) (Nat.beq k ver)) with ⟨c, ver, m, ho, he2⟩ | he2
      · rw [he2, rec_if, rec_if] at hl
        have hk : Nat.beq k ver = true := by
          cases hk : Nat.beq k ver with
          | true => rfl
          | false => rw [hk] at hl; cases hl
        rw [hk] at hl
        simp only [if_true] at hl
        have hn : Nat.ble (off + s) (llen c) = true := by
          cases hn : Nat.ble (off + s) (llen c) with
          | true => rfl
          | false => rw [show Nat.ble (Nat.add off s) (llen c) = false from hn] at hl; cases hl
        rw [show Nat.ble (Nat.add off s) (llen c) = true from hn] at hl
        simp only [ldA, ho, hk, cond_true]
        obtain ⟨hagg, hsz⟩ : isAggA P t = some true ∧ sizeA P t = some s := by
          split at ht
          · rename_i ha
            split at ht
            · rename_i s' hs; cases ht; exact ⟨ha, hs⟩
            · cases ht
          · cases ht
          · cases ht
        rw [hagg, hsz]
        simp only [hn, cond_true]
        exact hl
      · rw [he2] at hl; cases hl
    · rw [he] at hl; cases hl
noncomputable def okV (h : H) (nx : Nat) (r : Option V) : Option (V × H × Nat) := Option.rec none (fun v => some (v, h, nx)) r
noncomputable def mLoad (g : H → V → Option V) (x : Ad) : MemF := fun _ f h _ nx => okV h nx (g h (x.get f))
noncomputable def vcells (v : V) : List V := V.casesOn (motive_1 := fun _ => List V) v (fun u => Value.casesOn (motive_1 := fun _ => List V) u (fun _ => [v]) (fun _ _ => [v]) (fun _ _ => [v]) (fun _ _ _ => [v]) (fun _ => [v]) (fun _ => [v]) (fun _ _ _ => [v]) (fun _ => [v]) (fun _ => [v]) (fun _ _ _ => [v]) [v] (fun _ _ => [v]) [v] (fun _ => v.cells) (fun _ => v.cells)) (fun _ _ _ => [v]) (fun _ _ _ _ _ _ _ => [v]) (fun _ => [v]) (fun xs => xs) (fun _ => v.cells) (fun _ _ _ => [v]) (fun _ _ => [v])
theorem vcells_eq (v : V) : vcells v = v.cells := by
  cases v with
  | f u => cases u <;> rfl
  | _ => rfl
noncomputable def st1 (s : Nat) (h : H) (i k off : Nat) (cs : List V) : Option H :=
  Option.rec none (fun o => O.casesOn (motive := fun _ => Option H) o (fun cells ver _ => Bool.rec none (Bool.rec none (Bool.rec none (Bool.rec none (Bool.rec none (some (h.set i (.c (lput cells off cs) ver ver))) (vones cs)) (Nat.ble (Nat.add off s) (llen cells))) (Nat.beq (llen cs) s)) (few i)) (Nat.beq k ver)) (fun _ _ => none) (fun _ _ _ _ => none)) (h.get i)
noncomputable def stF (s : Nat) (h : H) (x v : V) : Option H := onP x (fun i k off => st1 s h i k off (vcells v)) none
theorem stF_spec {t : TypeId} {s : Nat} (hs : sizeA P t = some s) {h h' : H} {x v : V} (hst : stF s h x v = some h') : stA P h t x v = some h' := by
  unfold stF at hst
  rcases onP_cases x (fun i k off => st1 s h i k off (vcells v)) (none : Option H) with ⟨i, k, off, rfl, he⟩ | he
  · rw [he, vcells_eq] at hst
    unfold st1 at hst
    unfold stA
    cases ho : h.get i with
    | none => rw [ho] at hst; cases hst
    | some o =>
      rw [ho] at hst
      cases o with
      | c cells ver mn =>
        simp only [hs]
        have hst' : (Bool.rec none (Bool.rec none (Bool.rec none (Bool.rec none (Bool.rec none (some (h.set i (.c (lput cells off v.cells) ver ver))) (vones v.cells)) (Nat.ble (Nat.add off s) (llen cells))) (Nat.beq (llen v.cells) s)) (few i)) (Nat.beq k ver) : Option H) = some h' := hst
        simp only [rec_if] at hst'
        cases h1 : Nat.beq k ver <;> rw [h1] at hst' <;> simp only [if_true, Bool.false_eq_true, if_false] at hst' <;> first | cases hst' | skip
        cases h2 : few i <;> rw [h2] at hst' <;> simp only [if_true, Bool.false_eq_true, if_false] at hst' <;> first | cases hst' | skip
        cases h3 : Nat.beq (llen v.cells) s <;> rw [h3] at hst' <;> simp only [if_true, Bool.false_eq_true, if_false] at hst' <;> first | cases hst' | skip
        cases h4 : Nat.ble (Nat.add off s) (llen cells) <;> rw [h4] at hst' <;> simp only [if_true, Bool.false_eq_true, if_false] at hst' <;> first | cases hst' | skip
        cases h5 : vones v.cells <;> rw [h5] at hst' <;> simp only [if_true, Bool.false_eq_true, if_false] at hst' <;> first | cases hst' | skip
        have h4' : Nat.ble (off + s) (llen cells) = true := h4
        rw [ho]
        simp only [h1, h4', Bool.and_self, cond_true]
      | m => cases hst
      | it => cases hst
  · rw [he] at hst; cases hst
noncomputable def okH (nx : Nat) (r : Option H) : Option (V × H × Nat) := Option.rec none (fun h => some (.f undef, h, nx)) r
noncomputable def mStore (s : Nat) (x y : Ad) : MemF := fun _ f h _ nx => okH nx (stF s h (x.get f) (y.get f))
noncomputable def mCall (fid : FuncId) (as : List Ad) : MemF := fun call f h _ nx => call fid (gets as f) h nx
noncomputable def mGen (P : Program) (o : Oper) : MemF := fun call f h nm nx => oneA P call f h nm nx o
/-- Cells are cleared. -/
noncomputable def clrA (P : Program) (t : Option TypeId) (h : H) (x : V) : Option H :=
  match t.bind P.underlying with
  | some (.slice e) => (match zeroA P e with
    | some z => (match x with
      | .s i k off n _ _ sz => bif Nat.beq n 0 then some h else (match h.get i with
        | some (.c cells ver _) => bif Nat.beq k ver && few i && Nat.beq z.cells.size sz && Nat.ble (off + n * sz) (llen cells) && vones (repV (z.cells.toList.map V.f) n) then some (h.set i (.c (lput cells off (repV (z.cells.toList.map V.f) n)) ver ver)) else none
        | _ => none)
      | .f (.slice none 0 0) => some h
      | _ => none)
    | none => none)
  | _ => none
noncomputable def mClear (P : Program) (t : Option TypeId) (x : Ad) : MemF := fun _ f h _ nx => match clrA P t h (x.get f) with | some h' => some (.f (.tuple #[]), h', nx) | none => none
theorem zeroCells_flat (z : Array Value) (n : Nat) : (Builtin.zeroCells z n).toList = (List.replicate n z.toList).flatten := by
  have := made_take z z.size n n rfl (Nat.le_refl _)
  rw [← this, List.take_of_length_le (by simp [size_madeCells])]
  rfl
theorem clrA_run {Z : Base} {h h' : H} {w : World} (hh : HR Z ρ h w) {ts : Array TypeId} {x : V} {u : Value} (hx : VR ρ x u) (hr : clrA P ts[0]? h x = some h') (ty : TypeId) :
    ∃ w', (Builtin.clear_ ts ty #[u]).run P w = .ok (.tuple #[]) w' ∧ HR Z ρ h' w' := by
  unfold clrA at hr
  split at hr
  · rename_i e hu
    obtain ⟨t, ht, hut⟩ : ∃ t, ts[0]? = some t ∧ P.underlying t = some (.slice e) := by
      cases h0 : ts[0]? with
      | none => rw [h0] at hu; cases hu
      | some t => rw [h0] at hu; exact ⟨t, rfl, hu⟩
    split at hr
    · rename_i z hz
      split at hr
      · rename_i i k off n' bn c sz
        obtain ⟨r, ad, cap, hrr, rfl, hcap, hcc, hat, hnb, hbc⟩ := hx
        cases h0 : Nat.beq n' 0 with
        | true =>
          rw [h0, cond_true] at hr
          cases hr
          have := beq_eq h0
          subst this
          refine ⟨w, ?_, hh⟩
          simp [Builtin.clear_, ht, run_underlying hut]
        | false =>
          have hn0 := beq_ff h0
          rw [h0, cond_false] at hr
          split at hr
          · rename_i cells ver mn ho
            cases hb : (Nat.beq k ver && few i && Nat.beq z.cells.size sz && Nat.ble (off + n' * sz) (llen cells) && vones (repV (z.cells.toList.map V.f) n')) with
            | false => rw [hb] at hr; cases hr
            | true =>
            rw [hb, cond_true] at hr
            cases hr
            simp only [Bool.and_eq_true] at hb
            obtain ⟨⟨⟨⟨b1, b2⟩, b3⟩, b4⟩, b5⟩ := hb
            have e1 := beq_eq b1
            subst e1
            have e3 := beq_eq b3
            have e4 := ble_le b4
            rw [llen_eq] at e4
            rcases hat with hc0 | ⟨hlo, rfl, hLL, hhi, hex, hbL⟩
            · omega
            have hlen : (repV (z.cells.toList.map V.f) n').length = n' * sz := by
              rw [repV_eq]; simp [e3]
            obtain ⟨w', hrun, hh'⟩ := hh.store (P := P) b2 ho hrr (off := off) (vs := repV (z.cells.toList.map V.f) n') (us := (List.replicate n' z.cells.toList).flatten) hlo (by rw [hlen]; exact e4) (by rw [repV_eq]; exact VRs.flat _) b5
            refine ⟨w', ?_, hh'⟩
            cases n' with
            | zero => exact absurd rfl hn0
            | succ m =>
              simp only [Builtin.clear_, ht]
              simp [run_underlying hut, zeroA_run hz, zeroCells_flat, hrun]
          · cases hr
      · cases hr
        rw [show u = .slice none 0 0 from hx]
        refine ⟨w, ?_, hh⟩
        simp [Builtin.clear_, ht, run_underlying hut]
      · cases hr
    · cases hr
  · cases hr
/-- Ranges over maps. -/
noncomputable def rngA (P : Program) (t : TypeId) (h : H) (nm : Nat) (x : V) : Option H :=
  match P.underlying t with
  | some (.map _ _) => (match h.get nm with
    | some _ => none
    | none => bif few nm then (match x with
      | .m i => (match h.get i with | some (.m _ clock) => some (h.set nm (.it (some i) clock [] clock)) | _ => none)
      | .f (.map none) => some (h.set nm (.it none 0 [] 0))
      | _ => none) else none)
  | _ => none
noncomputable def mRange (P : Program) (t : TypeId) (x : Ad) : MemF := fun _ f h nm nx => match rngA P t h nm (x.get f) with | some h' => some (.p nm 0 0, h', nx) | none => none
/-- Nothing is left. -/
noncomputable def nxtA (h : H) (x : V) : Bool :=
  match x with
  | .p i 0 0 => (match h.get i with
    | some (.it none _ _ _) => true
    | some (.it (some m) _ _ _) => (match h.get m with | some (.m [] _) => true | _ => false)
    | _ => false)
  | _ => false
noncomputable def mNext (x : Ad) : MemF := fun _ f h _ nx => bif nxtA h (x.get f) then some (.f (.tuple #[.bool false]), h, nx) else none
theorem rngA_run {Z : Base} {h h' : H} {w : World} (hh : HR Z ρ h w) {t : TypeId} {nm : Nat} {x : V} {u : Value} (hx : VR ρ x u) (hr : rngA P t h nm x = some h') :
    ∃ ρ' z w', ρ.le ρ' ∧ (Instr.range t u).run P w = .ok z w' ∧ VR ρ' (.p nm 0 0) z ∧ HR Z ρ' h' w' := by
  unfold rngA at hr
  split at hr
  · rename_i kt et hu
    split at hr
    · cases hr
    · rename_i hn
      cases hf : few nm with
      | false => rw [hf] at hr; cases hr
      | true =>
      rw [hf, cond_true] at hr
      split at hr
      · rename_i i
        split at hr
        · rename_i es clock ho
          cases hr
          obtain ⟨r, hr, rfl⟩ := hx
          obtain ⟨r', es', hr', hw, hE⟩ := hh.obj i _ ho
          rw [hr] at hr'
          cases hr'
          obtain ⟨hle, hh'⟩ := hh.newO (o := .it (some i) clock [] clock) (ob := .mapIter (some r.b) clock #[] clock) hf hn rfl rfl fun ρ' hle' hr' => ⟨_, some r.b, hr', rfl, by simp, ⟨r, hle' _ _ _ hr, rfl⟩⟩
          refine ⟨_, .pointer (some ⟨w.heap.size, 0, none⟩), _, hle, ?_, ⟨_, Rho.add_self _ _ _ _, Nat.le_refl 0, rfl⟩, hh'⟩
          simp only [Instr.range, Sem.run_bind, run_underlying hu, Result.andThen_ok]
          simp [getObj, newObj, Sem.run, hw]
        · cases hr
      · cases hr
        rw [show u = .map none from hx]
        obtain ⟨hle, hh'⟩ := hh.newO (o := .it none 0 [] 0) (ob := .mapIter none 0 #[] 0) hf hn rfl rfl fun ρ' hle' hr' => ⟨_, none, hr', rfl, by simp, trivial⟩
        refine ⟨_, .pointer (some ⟨w.heap.size, 0, none⟩), _, hle, ?_, ⟨_, Rho.add_self _ _ _ _, Nat.le_refl 0, rfl⟩, hh'⟩
        simp only [Instr.range, Sem.run_bind, run_underlying hu, Result.andThen_ok]
        simp [newObj, Sem.run]
      · cases hr
  · cases hr
theorem nxtA_run {Z : Base} {h : H} {w : World} (hh : HR Z ρ h w) {x : V} {u : Value} (hx : VR ρ x u) (hr : nxtA h x = true) (ty : TypeId) : (Instr.next u false ty).run P w = .ok (.tuple #[.bool false]) w := by
  unfold nxtA at hr
  split at hr
  · rename_i i
    obtain ⟨r, hr1, hlo, rfl⟩ := hx
    split at hr
    · rename_i s sn l ho
      obtain ⟨r', m', hr', h0, hw, hi⟩ := hh.obj i _ ho
      rw [hr1] at hr'
      cases hr'
      have hat : r.at 0 = ⟨r.b, 0, none⟩ := by simp only [Rec.at]; congr 1; omega
      cases m' with
      | some _ => exact hi.elim
      | none =>
        rw [hat]
        simp [Instr.next, getObj, Sem.run, hw]
    · rename_i m s sn l ho
      obtain ⟨r', m', hr', h0, hw, hi⟩ := hh.obj i _ ho
      rw [hr1] at hr'
      cases hr'
      have hat : r.at 0 = ⟨r.b, 0, none⟩ := by simp only [Rec.at]; congr 1; omega
      cases m' with
      | none => exact hi.elim
      | some b =>
        obtain ⟨r2, hr2, rfl⟩ := hi
        split at hr
        · rename_i clock hm
          obtain ⟨r3, es', hr3, hw3, hE⟩ := hh.obj m _ hm
          rw [hr2] at hr3
          cases hr3
          have hes : es' = #[] := by apply Array.ext'; exact hE
          subst hes
          rw [hat]
          simp [Instr.next, getObj, Sem.run, hw, hw3, choose, Question.forced]
        · cases hr
    · cases hr
  · cases hr
/-- What has no Go body. -/
noncomputable def mExt (P : Program) (o : Oper) : MemF := fun _ f h _ nx => match pureA P f o with | some v => some (v, h, nx) | none => none
noncomputable def cmem (P : Program) (o : Oper) : MemF :=
  match o.op with
  | .range t x => mRange P t (ca x)
  | .next x false => mNext (ca x)
  | .load t x => mLoad (ldF P t) (ca x)
  | .store t x y => (match sizeA P t with | some s => mStore s (ca x) (ca y) | none => mGen P o)
  | .call c => (match c.callee with
    | .value (.func fid) => bif okFn P fid then mCall fid (cas c.args.toList) else mExt P o
    | .builtin .clear => (match c.args.toList with | [x] => mClear P c.argTypes[0]? (ca x) | _ => mGen P o)
    | _ => mGen P o)
  | _ => mGen P o
theorem cmem_spec (o : Oper) : MemOK P o (cmem P o) := by
  intro call Z ρ n f h a w nm nx nx' v h' next Q hcall hh hf ho hnext
  have gen : oneA P call f h nm nx o = some (v, h', nx') → o.wp P a w next Q := fun hp => oneA_wp hcall hh hf hp hnext
  unfold cmem at ho
  generalize hop : o.op = op0 at ho
  split at ho
  · rename_i t x
    unfold mRange at ho
    split at ho
    · rename_i h1 hr
      cases ho
      obtain ⟨ρ', z, w', hle, hrun, hv, hh'⟩ := rngA_run (P := P) hh (ca_rel hf x) hr
      unfold Oper.wp
      have e : (execOp a.eval o).run P w = .ok (.value z) w' := by simp only [execOp, hop]; exact run_val hrun
      rw [e]
      exact hnext ρ' z w' hle hv hh'
    · cases ho
  · rename_i x
    unfold mNext at ho
    cases hb : nxtA h ((ca x).get f) with
    | false => rw [hb] at ho; cases ho
    | true =>
      rw [hb, cond_true] at ho
      cases ho
      unfold Oper.wp
      have e : (execOp a.eval o).run P w = .ok (.value (.tuple #[.bool false])) w := by simp only [execOp, hop]; exact run_val (nxtA_run hh (ca_rel hf x) hb o.type)
      rw [e]
      exact hnext ρ _ w (Rho.le.refl ρ) rfl hh
  · rename_i t x
    unfold mLoad at ho
    cases hl : ldF P t h ((ca x).get f) with
    | none => rw [hl] at ho; cases ho
    | some v' =>
      rw [hl] at ho
      have ho' : some (v', h, nx) = some (v, h', nx') := ho
      cases ho'
      obtain ⟨y, hr, hv⟩ := ldA_run (P := P) hh (ca_rel hf x) (ldF_spec hl)
      unfold Oper.wp
      have e : (execOp a.eval o).run P w = .ok (.value y) w := by simp only [execOp, hop]; exact run_val hr
      rw [e]
      exact hnext ρ y w (Rho.le.refl ρ) hv hh
  · rename_i t x y
    cases hsz : sizeA P t with
    | none => rw [hsz] at ho; exact gen ho
    | some s =>
    rw [hsz] at ho
    change mStore s (ca x) (ca y) call f h nm nx = some (v, h', nx') at ho
    unfold mStore at ho
    cases hst : stF s h ((ca x).get f) ((ca y).get f) with
    | none => rw [hst] at ho; cases ho
    | some h1 =>
      rw [hst] at ho
      have ho' : some (V.f undef, h1, nx) = some (v, h', nx') := ho
      cases ho'
      obtain ⟨w', hr, hh'⟩ := stA_run (P := P) hh (ca_rel hf x) (ca_rel hf y) (stF_spec hsz hst)
      unfold Oper.wp
      have e : (execOp a.eval o).run P w = .ok .skip w' := by
        simp only [execOp, hop, Sem.run_bind, hr, Result.andThen_ok]
        rfl
      rw [e]
      exact hnext ρ undef w' (Rho.le.refl ρ) rfl hh'
  · rename_i c
    generalize hcal : c.callee = cal at ho
    split at ho
    · rename_i fid
      cases hk : okFn P fid with
      | false => rw [hk] at ho; exact PureOK.mem (PureOK.gen P o) (nm := nm) hcall hh hf ho hnext
      | true =>
        rw [hk, cond_true] at ho
        have hargs := cas_rel hf c.args.toList
        unfold Oper.wp
        have e : (execOp a.eval o).run P w = .ok (.enter fid (List.toArray (c.args.toList.map a.eval))) w := by
          simp only [execOp, hop, resolve, hcal, show a.eval (.func fid) = .func (.func fid) #[] #[] from rfl, Deferred.ofValue]
          simp only [Sem.run_bind, Sem.run_pure, Result.andThen_ok, invoke, okFn_run hk]
          congr 2
          apply Array.ext'
          simp
        rw [e, Oper.upon_enter]
        refine (hcall _ _ _ _ _ _ _ ho Z ρ _ w hargs hh).mono ?_
        rintro e w' ⟨ρ', u, rfl, hle, hv, hh'⟩
        exact hnext ρ' u w' hle hv hh'
    · generalize hx : c.args.toList = al at ho
      split at ho
      · rename_i x
        unfold mClear at ho
        split at ho
        · rename_i h1 hc
          cases ho
          obtain ⟨w', hrun, hh'⟩ := clrA_run (P := P) hh (ca_rel hf x) hc o.type
          have hx' : c.args = #[x] := by apply Array.ext'; simpa using hx
          unfold Oper.wp
          have e : (execOp a.eval o).run P w = .ok (.value (.tuple #[])) w' := by
            simp only [execOp, hop, resolve, hcal, hx']
            simp only [Sem.run_bind, Sem.run_pure, Result.andThen_ok, invoke, builtin]
            simp [hrun]
          rw [e]
          exact hnext ρ _ w' (Rho.le.refl ρ) rfl hh'
        · cases ho
      · exact gen ho
    · exact gen ho
  · exact gen ho
end
end Go.Ax
