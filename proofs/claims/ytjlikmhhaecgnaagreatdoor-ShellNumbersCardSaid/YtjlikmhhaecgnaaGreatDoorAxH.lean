/- Whole bodies under names: regions, code, calls. -/
import Derived.Test.YtjlikmhhaecgnaaGreatDoorAxG
import Derived.Test.YtjlikmhhaecgnaaGreatDoorSxI
namespace Go.Ax
set_option linter.unusedVariables false
open Go.Sx

abbrev CallF := FuncId → List V → H → Nat → Option (V × H × Nat)
def Came (Z : Base) (ρ : Rho) (v : V) (h' : H) (e : Ending) (w' : World) : Prop := ∃ ρ' u, e = .returned u ∧ ρ.le ρ' ∧ VR ρ' v u ∧ HR Z ρ' h' w'
def CallOK (P : Program) (call : CallF) : Prop := ∀ fid args h nx v h' nx', call fid args h nx = some (v, h', nx') → ∀ Z ρ us w, VRs ρ args us → HR Z ρ h w → Calls P fid (List.toArray us) w (Came Z ρ v h')

section
variable {P : Program} {Z : Base} {ρ : Rho} {h : H} {w : World} {n : Nat} {f : F} {a : Act}

/-! Guards. -/
noncomputable def yieldA (n : Nat) (ops : Array Oper) (f : F) (j : Nat) : Option Bool :=
  match (ops[j]?).bind (·.dst) with
  | some d => bif Nat.blt d n then (match fget f d with | .f (.bool b) => some b | _ => none) else none
  | none => none
noncomputable def wantedA (n : Nat) (ops : Array Oper) (f : F) (o : Oper) : Bool :=
  match o.guard with
  | none => true
  | some (j, want) => match yieldA n ops f j with | some b => b == want | none => false
theorem yieldA_eq (hf : FR ρ n f a) (ops : Array Oper) (j : Nat) : yielded ops a.tmps j = yieldA n ops f j := by
  unfold yielded yieldA
  cases hd : (ops[j]?).bind (·.dst) with
  | none => rfl
  | some d =>
    simp only [Option.bind_some]
    have ht := hf.t d
    by_cases hlt : d < n
    · have hb : Nat.blt d n = true := by simpa [Nat.blt_eq] using hlt
      have hs : d < a.tmps.size := by rw [hf.s]; exact hlt
      rw [hb, cond_true, Array.getElem?_eq_getElem hs]
      have e : a.tmps.getD d undef = a.tmps[d] := by simp [Array.getD, hs]
      rw [e] at ht
      generalize a.tmps[d] = u at ht
      generalize fget f d = x at ht
      cases x with
      | f v =>
        rw [show u = v from ht]
        cases v <;> rfl
      | p => obtain ⟨r, _, _, rfl⟩ := ht; rfl
      | s => obtain ⟨r, ad, cap, _, rfl, _⟩ := ht; rfl
      | m => obtain ⟨r, _, rfl⟩ := ht; rfl
      | a => obtain ⟨ys, rfl, _⟩ := ht; rfl
      | t => obtain ⟨ys, rfl, _⟩ := ht; rfl
      | fn => obtain ⟨ys, zs, rfl, _⟩ := ht; rfl
      | i => obtain ⟨y, rfl, _⟩ := ht; rfl
    · have hb : Nat.blt d n = false := by
        cases hb : Nat.blt d n with
        | false => rfl
        | true => exact absurd (by simpa [Nat.blt_eq] using hb) hlt
      have hge : a.tmps.size ≤ d := by rw [hf.s]; exact Nat.le_of_not_lt hlt
      rw [hb, cond_false, Array.getElem?_eq_none hge]
theorem wantedA_eq (hf : FR ρ n f a) (ops : Array Oper) (o : Oper) : Region.wanted o (yielded ops a.tmps) = wantedA n ops f o := by
  unfold Region.wanted wantedA
  cases hg : o.guard with
  | none => rfl
  | some jw =>
    obtain ⟨j, want⟩ := jw
    simp only
    rw [yieldA_eq hf]
    cases yieldA n ops f j with
    | none => rfl
    | some b => cases b <;> cases want <;> rfl

/-! Who is called. -/
def okFn (P : Program) (fid : FuncId) : Bool := match P.funcs[fid]? with | some fn => !(fn.name == "runtime.NumGoroutine") && fn.body.isSome | none => false
theorem okFn_run {fid : FuncId} (hk : okFn P fid = true) (args : Array Value) (w : World) : (callFunc fid args).run P w = .ok (.enter fid args) w := by
  unfold okFn at hk
  split at hk
  · rename_i fn hfn
    simp only [Bool.and_eq_true, Bool.not_eq_true'] at hk
    obtain ⟨c, hc⟩ := Option.isSome_iff_exists.1 hk.2
    have hne : ¬ fn.name = "runtime.NumGoroutine" := by simpa using hk.1
    simp [callFunc, hfn, hne, hc]
  · cases hk
noncomputable def methA (P : Program) (t : TypeId) (name : String) : Option FuncId :=
  match P.info? t with
  | some i => match i.methods.find? (·.name == name) with
    | some m => match m.path.toList, m.func, P.underlying t with
      | [], some (g, true), some (.pointer _) => bif okFn P g then some g else none
      | _, _, _ => none
    | none => none
  | none => none
theorem methA_run {t : TypeId} {name : String} {g : FuncId} (hm : methA P t name = some g) (v : Value) (args : Array Value) (w : World) :
    (callMethod (.iface t v) name args).run P w = .ok (.enter g (#[v] ++ args)) w := by
  unfold methA at hm
  split at hm
  · rename_i i hi
    split at hm
    · rename_i m hfind
      split at hm
      · rename_i g' e hp hfn hu
        cases hk : okFn P g' with
        | false => rw [hk] at hm; cases hm
        | true =>
          rw [hk] at hm
          cases hm
          have hdep : 0 < Made.depth := by decide
          have hfuel : ∃ q, P.types.size + Made.depth = q + 1 := ⟨P.types.size + Made.depth - 1, by omega⟩
          obtain ⟨q, hq⟩ := hfuel
          have hmeth : (method (P.types.size + Made.depth) t v name).run P w = .ok (g, v) w := by
            rw [hq]
            have hpath : m.path.isEmpty = true := by simpa [Array.isEmpty_iff] using hp
            simp only [method, Sem.run_bind, typeInfo, run_program, Result.andThen_ok, hi, Sem.run_pure, hfind, hp, follow, hfn, receiverAt, run_underlying hu, Place.get]
          simp only [callMethod, Sem.run_bind, run_program, Result.andThen_ok, hmeth]
          exact okFn_run hk _ w
      · cases hm
    · cases hm
  · cases hm
noncomputable def calleeA (P : Program) (f : F) (o : Oper) : Option (FuncId × List V) :=
  match o.op with
  | .call c => match c.callee with
    | .value g => match av f g with
      | .f (.func (.func fid) fs cs) => bif okFn P fid then some (fid, lapp (fs.toList.map V.f) (lapp (avs f c.args.toList) (cs.toList.map V.f))) else none
      | .fn (.func fid) fs cs => bif okFn P fid then some (fid, lapp fs (lapp (avs f c.args.toList) cs)) else none
      | _ => none
    | .invoke r name => match av f r with
      | .i t v => (match methA P t name with | some fid => some (fid, v :: avs f c.args.toList) | none => none)
      | .f (.iface t v) => (match methA P t name with | some fid => some (fid, .f v :: avs f c.args.toList) | none => none)
      | _ => none
    | .builtin _ => none
  | _ => none
theorem calleeA_run (hf : FR ρ n f a) {o : Oper} {fid : FuncId} {args : List V} (hc : calleeA P f o = some (fid, args)) (w : World) : ∃ us, (execOp a.eval o).run P w = .ok (.enter fid (List.toArray us)) w ∧ VRs ρ args us := by
  unfold calleeA at hc
  split at hc
  · rename_i c hop
    have hargs := avs_rel hf c.args.toList
    split at hc
    · rename_i g hcal
      have hg := hf.av g
      split at hc
      · rename_i fid' fs cs he
        cases hk : okFn P fid' with
        | false => rw [hk] at hc; cases hc
        | true =>
          rw [hk] at hc
          simp only [cond_true, Option.some.injEq, Prod.mk.injEq] at hc
          obtain ⟨rfl, rfl⟩ := hc
          rw [he] at hg
          refine ⟨fs.toList ++ (c.args.toList.map a.eval ++ cs.toList), ?_, ?_⟩
          · simp only [execOp, hop, resolve, hcal, show a.eval g = .func (.func fid') fs cs from hg, Deferred.ofValue]
            simp only [Sem.run_bind, Sem.run_pure, Result.andThen_ok, invoke, okFn_run hk]
            congr 2
            apply Array.ext'
            simp
          · rw [lapp_eq, lapp_eq]
            exact (VRs.flat _).append (hargs.append (VRs.flat _))
      · rename_i fid' fs cs he
        cases hk : okFn P fid' with
        | false => rw [hk] at hc; cases hc
        | true =>
          rw [hk] at hc
          simp only [cond_true, Option.some.injEq, Prod.mk.injEq] at hc
          obtain ⟨rfl, rfl⟩ := hc
          rw [he] at hg
          obtain ⟨ys, zs, hgv, h1, h2⟩ := hg
          refine ⟨ys ++ (c.args.toList.map a.eval ++ zs), ?_, ?_⟩
          · simp only [execOp, hop, resolve, hcal, hgv, Deferred.ofValue]
            simp only [Sem.run_bind, Sem.run_pure, Result.andThen_ok, invoke, okFn_run hk]
            congr 2
            apply Array.ext'
            simp
          · rw [lapp_eq, lapp_eq]
            exact h1.append (hargs.append h2)
      · cases hc
    · rename_i r name hcal
      have hr := hf.av r
      split at hc
      · rename_i t v he
        rw [he] at hr
        obtain ⟨y, hrv, hv⟩ := hr
        split at hc
        · rename_i fid' hm
          cases hc
          refine ⟨y :: c.args.toList.map a.eval, ?_, ⟨_, _, rfl, hv, hargs⟩⟩
          simp only [execOp, hop, resolve, hcal, hrv]
          simp only [Sem.run_bind, Sem.run_pure, Result.andThen_ok, invoke]
          have : ((#[Value.iface t y] ++ Array.map a.eval c.args)[0]?) = some (.iface t y) := by rw [Array.getElem?_append_left (by simp)]; rfl
          simp only [this]
          rw [methA_run hm]
          congr 2
          simp
          exact List.take_of_length_le (by simp)
        · cases hc
      · rename_i t v he
        rw [he] at hr
        split at hc
        · rename_i fid' hm
          cases hc
          refine ⟨v :: c.args.toList.map a.eval, ?_, ⟨_, _, rfl, rfl, hargs⟩⟩
          simp only [execOp, hop, resolve, hcal, show a.eval r = .iface t v from hr]
          simp only [Sem.run_bind, Sem.run_pure, Result.andThen_ok, invoke]
          have : ((#[Value.iface t v] ++ Array.map a.eval c.args)[0]?) = some (.iface t v) := by rw [Array.getElem?_append_left (by simp)]; rfl
          simp only [this]
          rw [methA_run hm]
          congr 2
          simp
          exact List.take_of_length_le (by simp)
        · cases hc
      · cases hc
    · cases hc
  · cases hc

/-! One operation, a call or not. -/
noncomputable def oneA (P : Program) (call : CallF) (f : F) (h : H) (nm nx : Nat) (o : Oper) : Option (V × H × Nat) :=
  match calleeA P f o with
  | some (fid, args) => call fid args h nx
  | none => match opA P f h nm o with | some (v, h') => some (v, h', nx) | none => none
theorem oneA_wp {call : CallF} (hcall : CallOK P call) (hh : HR Z ρ h w) (hf : FR ρ n f a) {o : Oper} {nm nx nx' : Nat} {v : V} {h' : H} (ho : oneA P call f h nm nx o = some (v, h', nx')) {next : Act → World → Prop} {Q : Exit → Act → World → Prop}
    (hnext : ∀ ρ' u w', ρ.le ρ' → VR ρ' v u → HR Z ρ' h' w' → next (a.put o.dst u) w') : o.wp P a w next Q := by
  unfold oneA at ho
  unfold Oper.wp
  split at ho
  · rename_i fid args hc
    obtain ⟨us, hr, hargs⟩ := calleeA_run hf hc w
    rw [hr, Oper.upon_enter]
    refine (hcall _ _ _ _ _ _ _ ho Z ρ us w hargs hh).mono ?_
    rintro e w' ⟨ρ', u, rfl, hle, hv, hh'⟩
    exact hnext ρ' u w' hle hv hh'
  · split at ho
    · rename_i v' h1 hop
      simp only [Option.some.injEq, Prod.mk.injEq] at ho
      obtain ⟨rfl, rfl, rfl⟩ := ho
      obtain ⟨ρ', w', hle, hh', ⟨u, hr, hv⟩ | ⟨hr, rfl⟩⟩ := opA_run hh hf hop
      · rw [hr]; exact hnext ρ' u w' hle hv hh'
      · rw [hr]; exact hnext ρ' undef w' hle rfl hh'
    · cases ho

/-! A region whose order is fixed. -/
noncomputable def opsA (P : Program) (call : CallF) (n : Nat) (ops : Array Oper) (os : List Oper) : F → H → Nat → Option (F × H × Nat) :=
  List.rec (fun f h nx => some (f, h, nx)) (fun o _ ih f h nx =>
    bif wantedA n ops f o then
      match oneA P call f h nx (nx + 1) o with
      | some (v, h', nx') => ih (fput n f o.dst v) h' nx'
      | none => none
    else ih (fput n f o.dst (.f undef)) h nx) os
theorem opsA_run {call : CallF} (hcall : CallOK P call) {ops : Array Oper} {Q : Exit → Act → World → Prop} {f' : F} {h' : H} {nx' : Nat} (os : List Oper) :
    ∀ (i : Nat) (ρ : Rho) (f : F) (h : H) (nx : Nat) (a : Act) (w : World), (∀ j o, os[j]? = some o → ops[i + j]? = some o) → opsA P call n ops os f h nx = some (f', h', nx') → FR ρ n f a → HR Z ρ h w →
      (∀ ρ' a' w', ρ.le ρ' → FR ρ' n f' a' → HR Z ρ' h' w' → Q .normal a' w') → wpOps P ops Q (List.range' i os.length) a w := by
  induction os with
  | nil =>
    intro i ρ f h nx a w _ ho hf hh hQ
    have ho' : some (f, h, nx) = some (f', h', nx') := ho
    simp only [Option.some.injEq, Prod.mk.injEq] at ho'
    obtain ⟨rfl, rfl, rfl⟩ := ho'
    exact hQ ρ a w (Rho.le.refl ρ) hf hh
  | cons o os ih =>
    intro i ρ f h nx a w hops ho hf hh hQ
    have ho' : (bif wantedA n ops f o then
      match oneA P call f h nx (nx + 1) o with
      | some (v, h', nx') => opsA P call n ops os (fput n f o.dst v) h' nx'
      | none => none
    else opsA P call n ops os (fput n f o.dst (.f undef)) h nx) = some (f', h', nx') := ho
    have h0 : ops[i]? = some o := hops 0 o rfl
    have hops' : ∀ j o', os[j]? = some o' → ops[i + 1 + j]? = some o' := fun j o' hj => by
      have := hops (j + 1) o' (by simpa using hj)
      rwa [show i + 1 + j = i + (j + 1) by omega]
    rw [List.length_cons, List.range'_succ]
    simp only [wpOps, h0]
    rw [wantedA_eq hf]
    cases hw : wantedA n ops f o with
    | true =>
      rw [hw, cond_true] at ho'
      rw [if_pos rfl]
      left
      split at ho'
      · rename_i v h1 nx1 hone
        refine oneA_wp hcall hh hf hone fun ρ' u w' hle hv hh' => ?_
        exact ih (i + 1) ρ' _ _ _ _ _ hops' ho' ((hf.mono hle).put o.dst hv) hh' fun ρ2 a' w2 hle' => hQ ρ2 a' w2 (hle.trans hle')
      · cases ho'
    | false =>
      rw [hw, cond_false] at ho'
      rw [if_neg (by simp)]
      exact ih (i + 1) ρ _ _ _ _ _ hops' ho' (hf.put o.dst rfl) hh hQ
end
end Go.Ax
