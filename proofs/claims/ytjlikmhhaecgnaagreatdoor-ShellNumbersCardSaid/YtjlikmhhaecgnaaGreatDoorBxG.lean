/- Faster runs: code, calls. -/
import Derived.Test.YtjlikmhhaecgnaaGreatDoorBxI
namespace Go.Ax
set_option linter.unusedVariables false
open Go.Sx
/-! Code, calls. -/
noncomputable def seqR (k : F → H → Nat → Res) (r : Res) : Res := match r with | some (.normal, f, h, nx) => k f h nx | r => r
noncomputable def blkR (id : Nat) (r : Res) : Res := match r with | some (.exit id', f, h, nx) => bif Nat.beq id' id then some (.normal, f, h, nx) else some (.exit id', f, h, nx) | r => r
noncomputable def endR (r : Option (F × H × Nat)) : Res := Option.rec none (fun p => some (.normal, p)) r
noncomputable def draB (P : Program) (call : CallF) (plan : Option (List Stp)) (sz : Nat) (f : F) (h : H) (nx : Nat) : Res := Option.rec none (fun l => endR (planB P call nx l [] f h (nx + sz))) plan
noncomputable def regB (P : Program) (call : CallF) (n : Nat) (ops : Array Oper) (draw : Bool) (f : F) (h : H) (nx : Nat) : Res :=
  bif draw then (bif P.follows .mixedOrders then draB P call (cplanS P n ops) ops.size f h nx else none) else endR (opsB call (cops P n ops ops.toList) f h nx)
noncomputable def cndB (run : Code → F → H → Nat → Res) (v : V) (x y : Code) (f : F) (h : H) (nx : Nat) : Res := match v with | .f (.bool t) => run (bif t then x else y) f h nx | _ => none
noncomputable def loopB (run : F → H → Nat → Res) (fuel : Nat) : F → H → Nat → Res := Nat.rec (fun _ _ _ => none) (fun _ ih f h nx => seqR ih (run f h nx)) fuel
noncomputable def codeB (P : Program) (call : CallF) (n : Nat) (fuel : Nat) : Code → F → H → Nat → Res :=
  Nat.rec (fun _ _ _ _ => none) (fun m ih c f h nx => match c with
    | .skip => some (.normal, f, h, nx)
    | .label _ => some (.normal, f, h, nx)
    | .ret => some (.ret, f, h, nx)
    | .exit id => some (.exit id, f, h, nx)
    | .goto l => some (.goto l, f, h, nx)
    | .seq x y => seqR (ih y) (ih x f h nx)
    | .cond c x y => cndB ih ((ca c).get f) x y f h nx
    | .block id c => blkR id (ih c f h nx)
    | .loop c => loopB (ih c) m f h nx
    | .scope c => scopeA ih c m c f h nx
    | .region _ ops draw => regB P call n ops draw f h nx
    | _ => none) fuel
section
variable {P : Program} {Z : Base} {n : Nat}
theorem loopB_eq (run : F → H → Nat → Res) (fuel : Nat) : loopB run fuel = loopA run fuel := by
  induction fuel with
  | zero => rfl
  | succ fuel ih =>
    funext f h nx
    show seqR (loopB run fuel) (run f h nx) = (match run f h nx with | some (.normal, f, h, nx) => loopA run fuel f h nx | r => r)
    rw [ih]
    rfl
theorem codeB_run {call : CallF} (hcall : CallOK P call) (fuel : Nat) : ∀ c, RunsA P Z n c (codeB P call n fuel c) := by
  induction fuel with
  | zero => intro c f h nx out f' h' nx' hl; cases hl
  | succ m ih =>
    intro c f h nx out f' h' nx' hl ρ a w Q hf hh hQ
    have one : ∀ {o : Out}, some (o, f, h, nx) = some (out, f', h', nx') → Q o.ex a w := fun he => by
      simp only [Option.some.injEq, Prod.mk.injEq] at he
      obtain ⟨rfl, rfl, rfl, rfl⟩ := he
      exact hQ ρ a w (Rho.le.refl ρ) hf hh
    cases c with
    | skip => exact wp_skip (one hl)
    | label l => exact wp_label (one hl)
    | ret => exact wp_ret (one hl)
    | exit id => exact wp_exit (one hl)
    | goto l => exact wp_goto (one hl)
    | seq x y =>
      have hl' : seqR (codeB P call n m y) (codeB P call n m x f h nx) = some (out, f', h', nx') := hl
      refine wp_seq ?_
      unfold seqR at hl'
      split at hl'
      · rename_i f1 h1 nx1 hr
        refine ih x _ _ _ _ _ _ _ hr ρ a w _ hf hh fun ρ' a' w' hle hf' hh' => ?_
        exact ih y _ _ _ _ _ _ _ hl' ρ' a' w' Q hf' hh' (Post.le hQ hle)
      · rename_i hne
        refine ih x _ _ _ _ _ _ _ hl' ρ a w _ hf hh fun ρ' a' w' hle hf' hh' => ?_
        have := hQ ρ' a' w' hle hf' hh'
        cases out with
        | normal => exact absurd hl' (hne f' h' nx')
        | _ => exact this
    | cond c x y =>
      have hl' : cndB (codeB P call n m) ((ca c).get f) x y f h nx = some (out, f', h', nx') := hl
      unfold cndB at hl'
      split at hl'
      · rename_i t hc
        have hcv := ca_rel hf c
        rw [hc] at hcv
        refine wp_cond (t := t) hcv ?_
        cases t
        · exact ih y _ _ _ _ _ _ _ hl' ρ a w Q hf hh hQ
        · exact ih x _ _ _ _ _ _ _ hl' ρ a w Q hf hh hQ
      · cases hl'
    | block id c =>
      have hl' : blkR id (codeB P call n m c f h nx) = some (out, f', h', nx') := hl
      refine wp_block ?_
      unfold blkR at hl'
      split at hl'
      · rename_i id' f1 h1 nx1 hr
        refine ih c _ _ _ _ _ _ _ hr ρ a w _ hf hh fun ρ' a' w' hle hf' hh' => ?_
        show Exit.inBlock id Q (.exit id') a' w'
        simp only [Exit.inBlock]
        cases hb : Nat.beq id' id with
        | true =>
          rw [hb] at hl'
          simp only [cond_true, Option.some.injEq, Prod.mk.injEq] at hl'
          obtain ⟨rfl, rfl, rfl, rfl⟩ := hl'
          rw [if_pos (beq_eq hb)]
          exact hQ ρ' a' w' hle hf' hh'
        | false =>
          rw [hb] at hl'
          simp only [cond_false, Option.some.injEq, Prod.mk.injEq] at hl'
          obtain ⟨rfl, rfl, rfl, rfl⟩ := hl'
          rw [if_neg (beq_ff hb)]
          exact hQ ρ' a' w' hle hf' hh'
      · rename_i hne
        refine ih c _ _ _ _ _ _ _ hl' ρ a w _ hf hh fun ρ' a' w' hle hf' hh' => ?_
        have := hQ ρ' a' w' hle hf' hh'
        cases out with
        | exit id' => exact absurd hl' (hne id' f' h' nx')
        | _ => exact this
    | loop c =>
      have hl' : loopB (codeB P call n m c) m f h nx = some (out, f', h', nx') := hl
      rw [loopB_eq] at hl'
      exact (loopA_run (ih c) m _ _ _ _ _ _ _ hl' ρ a w Q hf hh hQ).wp
    | scope c =>
      have hl' : scopeA (codeB P call n m) c m c f h nx = some (out, f', h', nx') := hl
      exact (scopeA_run ih m _ _ _ _ _ _ _ _ hl' ρ a w Q hf hh hQ).wp
    | region id ops draw =>
      have hl' : regB P call n ops draw f h nx = some (out, f', h', nx') := hl
      unfold regB at hl'
      cases draw with
      | false =>
        rw [cond_false] at hl'
        cases hr : opsB call (cops P n ops ops.toList) f h nx with
        | none => rw [hr] at hl'; cases hl'
        | some p =>
          obtain ⟨f1, h1, nx1⟩ := p
          rw [hr] at hl'
          have hl2 : some (Out.normal, f1, h1, nx1) = some (out, f', h', nx') := hl'
          simp only [Option.some.injEq, Prod.mk.injEq] at hl2
          obtain ⟨rfl, rfl, rfl, rfl⟩ := hl2
          refine wp_region ?_
          rw [List.range_eq_range', show ops.size = ops.toList.length from rfl]
          exact opsB_run hcall ops.toList 0 ρ f h nx a w (fun j o hj => by simpa using hj) hr hf hh hQ
      | true =>
        rw [cond_true] at hl'
        cases hm : P.follows .mixedOrders with
        | false => rw [hm] at hl'; cases hl'
        | true =>
        rw [hm, cond_true] at hl'
        rw [cplanS_eq] at hl'
        cases hp : cplan P n ops with
        | none => rw [hp] at hl'; cases hl'
        | some plan =>
        rw [hp] at hl'
        unfold cplan at hp
        cases hall : flAll P ops with
        | false => rw [hall] at hp; cases hp
        | true =>
        rw [hall, cond_true] at hp
        have hl1 : endR (planB P call nx plan [] f h (nx + ops.size)) = some (out, f', h', nx') := hl'
        cases hr : planB P call nx plan [] f h (nx + ops.size) with
        | none => rw [hr] at hl1; cases hl1
        | some p =>
          obtain ⟨f1, h1, nx1⟩ := p
          rw [hr] at hl1
          have hl2 : some (Out.normal, f1, h1, nx1) = some (out, f', h', nx') := hl1
          simp only [Option.some.injEq, Prod.mk.injEq] at hl2
          obtain ⟨rfl, rfl, rfl, rfl⟩ := hl2
          refine wp_mono (Q := fun e a' w' => e = .normal ∧ ∃ ρ', ρ.le ρ' ∧ FR ρ' n f1 a' ∧ HR Z ρ' h1 w') (wp_region_draw fun t => ?_) fun e a' w' ⟨he, ρ', hle, hf', hh'⟩ => by subst he; exact hQ ρ' a' w' hle hf' hh'
          have hsch : Region.schedule (P.follows .mixedOrders) ops t = Region.linearise .any ops t := by simp [Region.schedule, hm]
          rw [hsch]
          refine wpAny_sound _ t _ a _ (wpAny_of_U (held := []) _ _ _ _ ?_)
          exact planB_run (Z := Z) hcall hall (fun c a w h => by cases h.1) ops.size ops.size _ _ _ [] [] ρ f h _ a a _ Z (fun _ => none) hp hr (by simp) hf (hh.same rfl rfl) (Early.start (by simp)) (fun e he => by cases he) (fun e he => by cases he) (fun e he => by cases he) (by unfold cnt; simp) fun ρ' a' w' hle hf' hh' => ⟨rfl, ρ', hle, hf', hh'⟩
    | rangeFunc => cases hl
    | refuse => cases hl

/-! Calls. -/
noncomputable def retB (P : Program) (fn : Func) (r : Res) : Option (V × H × Nat) := match r with
  | some (.normal, f, h, nx) => (match resA P h fn f with | some v => some (v, h, nx) | none => none)
  | some (.ret, f, h, nx) => (match resA P h fn f with | some v => some (v, h, nx) | none => none)
  | _ => none
noncomputable def callB (P : Program) (orc : OrcF) (cf : Nat) (fuel : Nat) : CallF :=
  Nat.rec (fun _ _ _ _ => none) (fun _ ih fid args h nx =>
    match orc fid args h nx with
    | some r => r
    | none =>
      match P.funcs[fid]? with
      | some fn => (match fn.body with
        | some c => bif few fn.ntmps && Nat.ble (llen args) fn.ntmps then retB P fn (codeB P ih fn.ntmps cf c (argsF args 0 .e) h nx) else none
        | none => none)
      | none => none) fuel
theorem callB_run {orc : OrcF} (ho : OrcOK P orc) (cf fuel : Nat) : CallOK P (callB P orc cf fuel) := by
  induction fuel with
  | zero => intro fid args h nx v h' nx' hc; cases hc
  | succ fuel ih =>
    intro fid args h nx v h' nx' hc Z ρ us w hargs hh
    have hc' : (match orc fid args h nx with
      | some r => r
      | none =>
        match P.funcs[fid]? with
        | some fn => (match fn.body with
          | some c => bif few fn.ntmps && Nat.ble (llen args) fn.ntmps then retB P fn (codeB P (callB P orc cf fuel) fn.ntmps cf c (argsF args 0 .e) h nx) else none
          | none => none)
        | none => none) = some (v, h', nx') := hc
    split at hc'
    · rename_i r hr
      subst hc'
      exact ho _ _ _ _ _ _ _ hr Z ρ us w hargs hh
    · split at hc'
      · rename_i fn hfn
        split at hc'
        · rename_i c hbody
          cases hg : (few fn.ntmps && Nat.ble (llen args) fn.ntmps) with
          | false => rw [hg] at hc'; cases hc'
          | true =>
          rw [hg, cond_true] at hc'
          simp only [Bool.and_eq_true] at hg
          have hle := ble_le hg.2
          rw [llen_eq] at hle
          have hlen := hargs.len
          have hfew : fn.ntmps < 1000000 := by simpa [few, Nat.blt_eq] using hg.1
          have hf0 : FR ρ fn.ntmps (argsF args 0 .e) { tmps := List.toArray us ++ Array.replicate (fn.ntmps - (List.toArray us).size) undef, defers := [] } := by
            refine ⟨rfl, by simp; omega, hg.1, fun t => ?_⟩
            unfold fget
            rw [argsF_get args 0 .e (by omega) t]
            simp only [Nat.zero_le, true_and, Nat.zero_add, Nat.sub_zero]
            by_cases ht : t < args.length
            · rw [if_pos ht]
              have hx : args[t]? = some args[t] := List.getElem?_eq_getElem ht
              obtain ⟨u, hu, hv⟩ := hargs.get _ _ hx
              rw [hx]
              have : (List.toArray us ++ Array.replicate (fn.ntmps - (List.toArray us).size) undef).getD t undef = u := by
                rw [Array.getD_eq_getD_getElem?, Array.getElem?_append_left (by simp; omega)]
                simp [hu]
              rw [this]
              exact hv
            · rw [if_neg ht]
              show _ = undef
              rw [Array.getD_eq_getD_getElem?, Array.getElem?_append_right (by simp; omega), Array.getElem?_replicate]
              split <;> rfl
          have fin : ∀ (out : Out) (f1 : F) (h1 : H) (nx1 : Nat), (out = .normal ∨ out = .ret) → codeB P (callB P orc cf fuel) fn.ntmps cf c (argsF args 0 .e) h nx = some (out, f1, h1, nx1) → (match resA P h1 fn f1 with | some v => some (v, h1, nx1) | none => none) = some (v, h', nx') → Calls P fid (List.toArray us) w (Came Z ρ v h') := by
            intro out f1 h1 nx1 hout hcode hres
            split at hres
            · rename_i v1 hv1
              simp only [Option.some.injEq, Prod.mk.injEq] at hres
              obtain ⟨rfl, rfl, rfl⟩ := hres
              refine calls_of_wp hfn hbody ?_
              refine codeB_run ih cf c _ _ _ _ _ _ _ hcode ρ _ w _ hf0 hh fun ρ' a' w' hle' hf' hh' => ?_
              obtain ⟨u, hr, hv⟩ := resA_run hh' hf' hv1
              rcases hout with rfl | rfl
              · exact ⟨hf'.d, u, hr, ρ', u, rfl, hle', hv, hh'⟩
              · exact ⟨hf'.d, u, hr, ρ', u, rfl, hle', hv, hh'⟩
            · cases hres
          unfold retB at hc'
          split at hc'
          · rename_i f1 h1 nx1 hcode
            exact fin _ _ _ _ (.inl rfl) hcode hc'
          · rename_i f1 h1 nx1 hcode
            exact fin _ _ _ _ (.inr rfl) hcode hc'
          · cases hc'
        · cases hc'
      · cases hc'
theorem closed_runB {orc : OrcF} (ho : OrcOK P orc) {cf fuel : Nat} {fid : FuncId} {v : Value} (h : saysA (callB P orc cf fuel fid [] .e 0) v = true) (X : List HP) : TC P fid [] X (fun u X' => u = v ∧ X' = X) := by
  intro E w hx
  unfold saysA at h
  split at h
  · rename_i u h' nx' hc
    obtain ⟨q, M, e', hp, hd, hM, he⟩ := hx
    have hz : HR ⟨w.env, frag w⟩ (fun _ _ => none) .e w :=
      ⟨rfl, Sub.refl _, fun i o hi => (by cases hi), fun i k i' k' r r' _ _ hr => (by cases hr), fun i k k' r r' _ _ hr => (by cases hr), fun i k r _ hr => (by cases hr), fun i k r hr => (by cases hr)⟩
    refine (callB_run ho cf fuel _ _ _ _ _ _ _ hc ⟨w.env, frag w⟩ _ [] w rfl hz).mono ?_
    rintro e w' ⟨ρ', u', rfl, _, hv, hh'⟩
    refine ⟨u', X, rfl, ⟨by rw [show u' = u from hv, valEq_spec h], rfl⟩, ?_⟩
    exact ⟨hh'.env.trans q, M, e', hp, hd, hM.trans hh'.old, he.trans hh'.old⟩
  · cases h
end
end Go.Ax
