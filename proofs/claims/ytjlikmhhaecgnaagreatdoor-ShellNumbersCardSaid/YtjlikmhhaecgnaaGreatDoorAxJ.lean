/- Whole bodies under names: regions of open order, code, calls, closed runs. -/
import Derived.Test.YtjlikmhhaecgnaaGreatDoorAxI
import Derived.Scope
namespace Go.Ax
set_option linter.unusedVariables false
open Go.Sx

noncomputable def okT (ops : Array Oper) (listed : Array Bool) (held : List Hd) (i : Nat) : Bool :=
  Region.noSelect ops && Region.free .any ops listed i && allB (fun d => !Nat.beq d.q i) held
/-- One that may come next is taken: no memory is needed, or cells are held. -/
noncomputable def tryA (P : Program) (n : Nat) (ops : Array Oper) (listed : Array Bool) (held : List Hd) (f : F) (h : H) (i : Nat) : Option (F × List Hd) :=
  match ops[i]? with
  | none => none
  | some o =>
    bif okT ops listed held i then
      bif wantedA n ops f o then
        match o.op with
        | .load t x =>
          (match ldA P h t (av f x) with
          | some v =>
            bif okBehind ops listed i (untilA ops (behindL ops listed i)) (behindL ops listed i) && !Nat.beq (untilA ops (behindL ops listed i)) i then
              (match cellsAt P h t (av f x) (untilA ops (behindL ops listed i)) with
              | some ds => some (fput n f o.dst v, ds)
              | none => none)
            else none
          | none => none)
        | _ => (match pureA P f o with | some v => some (fput n f o.dst v, []) | none => none)
      else some (fput n f o.dst (.f undef), [])
    else none
noncomputable def firstA {α : Type} (g : Nat → Option α) (l : List Nat) : Option (Nat × α) := List.rec none (fun i _ ih => match g i with | some x => some (i, x) | none => ih) l
theorem firstA_spec {α : Type} {g : Nat → Option α} {i : Nat} {x : α} : ∀ {l : List Nat}, firstA g l = some (i, x) → i ∈ l ∧ g i = some x
  | [], h => by cases h
  | j :: l, h => by
    have h' : (match g j with | some x => some (j, x) | none => firstA g l) = some (i, x) := h
    split at h'
    · rename_i y hy
      cases h'
      exact ⟨List.mem_cons_self .., hy⟩
    · obtain ⟨h1, h2⟩ := firstA_spec h'
      exact ⟨List.mem_cons_of_mem _ h1, h2⟩
noncomputable def drawA (P : Program) (call : CallF) (n : Nat) (ops : Array Oper) (base : Nat) (fuel : Nat) : Array Bool → List Hd → F → H → Nat → Option (F × H × Nat) :=
  Nat.rec (fun listed _ f h nx => match Region.ready .any ops listed with | [] => some (f, h, nx) | _ => none)
    (fun _ ih listed held f h nx =>
      match Region.ready .any ops listed with
      | [] => some (f, h, nx)
      | r :: rs =>
        match firstA (tryA P n ops listed held f h) (r :: rs) with
        | some (i, f', ds) => ih (listed.setIfInBounds i true) (ds ++ held) f' h nx
        | none =>
          match rs, ops[r]? with
          | [], some o =>
            bif wantedA n ops f o then
              (match oneA P call f h (base + r) nx o with
              | some (v, h', nx') => bif allB (hdOK h' (listed.setIfInBounds r true)) held then ih (listed.setIfInBounds r true) held (fput n f o.dst v) h' nx' else none
              | none => none)
            else bif allB (hdOK h (listed.setIfInBounds r true)) held then ih (listed.setIfInBounds r true) held (fput n f o.dst (.f undef)) h nx else none
          | _, _ => none) fuel

section
variable {P : Program} {Z : Base} {n : Nat}
theorem load_val {t : TypeId} {x : Operand} {o : Oper} {a : Act} {w w' : World} {y : Value} (hop : o.op = .load t x) (h : (Instr.loadAt t (a.eval x)).run P w = .ok y w') : (execOp a.eval o).run P w = .ok (.value y) w' := by
  simp only [execOp, hop]
  exact run_val h

theorem drawA_run {call : CallF} (hcall : CallOK P call) {ops : Array Oper} {base : Nat} {Q : Exit → Act → World → Prop} (hQp : ∀ c a w, ¬ Q (.panic c) a w) {f' : F} {h' : H} {nx' : Nat} (fuel : Nat) :
    ∀ (listed : Array Bool) (held : List Hd) (es : List (Addr × Value × Nat)) (ρ : Rho) (f : F) (h : H) (nx : Nat) (a : Act) (w : World), drawA P call n ops base fuel listed held f h nx = some (f', h', nx') → listed.size = ops.size → FR ρ n f a → HR Z ρ h w → HdsR ρ held es → HS es listed w →
      (∀ ρ' a' w', ρ.le ρ' → FR ρ' n f' a' → HR Z ρ' h' w' → Q .normal a' w') → wpAnyU P .any ops Q es fuel listed a w := by
  induction fuel with
  | zero =>
    intro listed held es ρ f h nx a w hd _ hf hh _ _ hQ
    have hd' : (match Region.ready .any ops listed with | [] => some (f, h, nx) | _ => none) = some (f', h', nx') := hd
    split at hd'
    · rename_i hr
      cases hd'
      exact ⟨hr, hQ ρ a w (Rho.le.refl ρ) hf hh⟩
    · cases hd'
  | succ fuel ih =>
    intro listed held es ρ f h nx a w hd hsz hf hh hhd hS hQ
    have hd' : (match Region.ready .any ops listed with
      | [] => some (f, h, nx)
      | r :: rs =>
        match firstA (tryA P n ops listed held f h) (r :: rs) with
        | some (i, f', ds) => drawA P call n ops base fuel (listed.setIfInBounds i true) (ds ++ held) f' h nx
        | none =>
          match rs, ops[r]? with
          | [], some o =>
            bif wantedA n ops f o then
              (match oneA P call f h (base + r) nx o with
              | some (v, h', nx') => bif allB (hdOK h' (listed.setIfInBounds r true)) held then drawA P call n ops base fuel (listed.setIfInBounds r true) held (fput n f o.dst v) h' nx' else none
              | none => none)
            else bif allB (hdOK h (listed.setIfInBounds r true)) held then drawA P call n ops base fuel (listed.setIfInBounds r true) held (fput n f o.dst (.f undef)) h nx else none
          | _, _ => none) = some (f', h', nx') := hd
    split at hd'
    · rename_i hr
      cases hd'
      exact wpAnyU_done hr (hQ ρ a w (Rho.le.refl ρ) hf hh) _
    · rename_i r rs hr
      split at hd'
      · rename_i i f1 ds hfirst
        obtain ⟨hmem, htry⟩ := firstA_spec hfirst
        rw [← hr] at hmem
        unfold tryA at htry
        split at htry
        · cases htry
        · rename_i o hoi
          cases hok : okT ops listed held i with
          | false => rw [hok] at htry; cases htry
          | true =>
          rw [hok, cond_true] at htry
          simp only [okT, Bool.and_eq_true] at hok
          obtain ⟨⟨hns, hfree⟩, hnq⟩ := hok
          have hq : ∀ e ∈ es, e.2.2 ≠ i := fun e he => by
            obtain ⟨d, hdm, _, _, _, _, _, hqd, _⟩ := hhd.mem e he
            have := allB_mem hnq d hdm
            simp only [Bool.not_eq_true'] at this
            rw [hqd]
            exact beq_ff this
          have hfs := Region.free_spec hoi hfree
          have hsel := Region.noSelect_spec hns
          have hsz' : (listed.setIfInBounds i true).size = ops.size := by simpa using hsz
          cases hw : wantedA n ops f o with
          | false =>
            rw [hw, cond_false] at htry
            simp only [Option.some.injEq, Prod.mk.injEq] at htry
            obtain ⟨rfl, rfl⟩ := htry
            refine wpAnyU_first2 (need := []) (v := undef) hoi hsel (fun c a w h => absurd h (hQp _ _ _)) hq fuel listed a w hfs hmem (.inr ⟨by rw [wantedA_eq hf, hw], rfl⟩) hsz (fun _ h => by cases h) hS ?_
            exact ih _ held es ρ _ _ _ _ _ (by simpa using hd') hsz' (hf.put (v := .f undef) (u := undef) o.dst rfl) hh hhd ((HS.set hq).2 hS) hQ
          | true =>
            rw [hw, cond_true] at htry
            have hwant : Region.wanted o (yielded ops a.tmps) = true := by rw [wantedA_eq hf, hw]
            split at htry
            · rename_i t x hop
              split at htry
              · rename_i v hld
                generalize hqq : untilA ops (behindL ops listed i) = q at htry
                generalize hSS : behindL ops listed i = S at htry
                cases hb : (okBehind ops listed i q S && !Nat.beq q i) with
                | false => rw [hb] at htry; cases htry
                | true =>
                rw [hb, cond_true] at htry
                simp only [Bool.and_eq_true, Bool.not_eq_true'] at hb
                split at htry
                · rename_i ds' hcells
                  simp only [Option.some.injEq, Prod.mk.injEq] at htry
                  obtain ⟨rfl, rfl⟩ := htry
                  obtain ⟨es1, y, hes1, hnow, hqs, hrun, hv⟩ := ldHeld hh (hf.av x) hld hcells
                  have hqi : ∀ e ∈ es1 ++ es, e.2.2 ≠ i := fun e he => by
                    rcases List.mem_append.1 he with he | he
                    · rw [hqs e he]; exact beq_ff hb.2
                    · exact hq e he
                  have hS1 : HS (es1 ++ es) listed w := fun e he hl => by
                    rcases List.mem_append.1 he with he | he
                    · exact hnow e he
                    · exact hS e he hl
                  refine wpAnyU_more (held' := es1) _ _ _ _ ?_
                  refine wpAnyU_first2 (need := es1.map fun e => (e.1, e.2.1)) (v := y) hoi hsel (fun c a w h => absurd h (hQp _ _ _)) hqi fuel listed a w hfs hmem (.inl ⟨hwant, fun w' hw' => load_val hop (hrun w' hw')⟩) hsz ?_ hS1 ?_
                  · intro p hp
                    obtain ⟨e, he, rfl⟩ := List.mem_map.1 hp
                    refine ⟨q, ?_, okBehind_spec hb.1⟩
                    have : e = (e.1, e.2.1, q) := by rw [← hqs e he]
                    rw [← this]
                    exact List.mem_append_left _ he
                  · exact ih _ _ _ ρ _ _ _ _ _ hd' hsz' (hf.put o.dst hv) hh (hes1.append hhd) ((HS.set hqi).2 hS1) hQ
                · cases htry
              · cases htry
            · split at htry
              · rename_i v hp
                simp only [Option.some.injEq, Prod.mk.injEq] at htry
                obtain ⟨rfl, rfl⟩ := htry
                obtain ⟨u, hall, hv⟩ := pureA_run hf hp
                refine wpAnyU_first2 (need := []) (v := u) hoi hsel (fun c a w h => absurd h (hQp _ _ _)) hq fuel listed a w hfs hmem (.inl ⟨hwant, fun w' _ => hall w'⟩) hsz (fun _ h => by cases h) hS ?_
                exact ih _ held es ρ _ _ _ _ _ (by simpa using hd') hsz' (hf.put o.dst hv) hh hhd ((HS.set hq).2 hS) hQ
              · cases htry
      · split at hd'
        · rename_i o hoi hnone
          refine wpAnyU_all hr (by simp) fun j hj => ?_
          have hjr := List.mem_singleton.1 hj
          subst hjr
          have hsz' : (listed.setIfInBounds j true).size = ops.size := by simpa using hsz
          have hoi' : ops[j]? = some o := hoi
          unfold wpOp
          rw [hoi']
          simp only
          rw [wantedA_eq hf]
          cases hw : wantedA n ops f o with
          | false =>
            rw [hw, cond_false] at hd'
            rw [if_neg (by simp)]
            cases hk : allB (hdOK h (listed.setIfInBounds j true)) held with
            | false => rw [hk] at hd'; cases hd'
            | true =>
            rw [hk, cond_true] at hd'
            have hS' := heldOK_spec hh hhd hk
            exact ⟨hS', ih _ held es ρ _ _ _ _ _ hd' hsz' (hf.put (v := .f undef) (u := undef) o.dst rfl) hh hhd hS' hQ⟩
          | true =>
            rw [hw, cond_true] at hd'
            rw [if_pos rfl]
            left
            split at hd'
            · rename_i v h1 nx1 hone
              cases hk : allB (hdOK h1 (listed.setIfInBounds j true)) held with
              | false => rw [hk] at hd'; cases hd'
              | true =>
              rw [hk, cond_true] at hd'
              refine oneA_wp hcall hh hf hone fun ρ' u w' hle hv hh' => ?_
              have hhd' := hhd.mono hle
              have hS' := heldOK_spec hh' hhd' hk
              exact ⟨hS', ih _ held es ρ' _ _ _ _ _ hd' hsz' ((hf.mono hle).put o.dst hv) hh' hhd' hS' fun ρ2 a' w2 hle' => hQ ρ2 a' w2 (hle.trans hle')⟩
            · cases hd'
        · cases hd'
end
end Go.Ax
namespace Go.Ax
open Go.Sx
/-! Code. -/
inductive Out where
  | normal
  | exit (id : Nat)
  | goto (l : Nat)
  | ret
def Out.ex : Out → Exit
  | .normal => .normal
  | .exit id => .exit id
  | .goto l => .goto l
  | .ret => .ret
abbrev Res := Option (Out × F × H × Nat)
noncomputable def loopA (run : F → H → Nat → Res) (fuel : Nat) : F → H → Nat → Res :=
  Nat.rec (fun _ _ _ => none) (fun _ ih f h nx => match run f h nx with
    | some (.normal, f, h, nx) => ih f h nx
    | r => r) fuel
noncomputable def scopeA (run : Code → F → H → Nat → Res) (c : Code) (fuel : Nat) : Code → F → H → Nat → Res :=
  Nat.rec (fun _ _ _ _ => none) (fun _ ih rest f h nx => match run rest f h nx with
    | some (.goto l, f, h, nx) => (match findLabel c l with | some rest' => ih rest' f h nx | none => some (.goto l, f, h, nx))
    | r => r) fuel
noncomputable def codeA (P : Program) (call : CallF) (n : Nat) (fuel : Nat) : Code → F → H → Nat → Res :=
  Nat.rec (fun _ _ _ _ => none) (fun m ih c f h nx => match c with
    | .skip => some (.normal, f, h, nx)
    | .label _ => some (.normal, f, h, nx)
    | .ret => some (.ret, f, h, nx)
    | .exit id => some (.exit id, f, h, nx)
    | .goto l => some (.goto l, f, h, nx)
    | .seq x y => (match ih x f h nx with
      | some (.normal, f, h, nx) => ih y f h nx
      | r => r)
    | .cond c x y => (match av f c with
      | .f (.bool t) => ih (bif t then x else y) f h nx
      | _ => none)
    | .block id c => (match ih c f h nx with
      | some (.exit id', f, h, nx) => bif Nat.beq id' id then some (.normal, f, h, nx) else some (.exit id', f, h, nx)
      | r => r)
    | .loop c => loopA (ih c) m f h nx
    | .scope c => scopeA ih c m c f h nx
    | .region _ ops draw =>
      bif draw then
        bif P.follows .mixedOrders then
          (match drawA P call n ops nx ops.size (Array.replicate ops.size false) [] f h (nx + ops.size) with
          | some (f, h, nx) => some (.normal, f, h, nx)
          | none => none)
        else none
      else (match opsA P call n ops ops.toList f h nx with
        | some (f, h, nx) => some (.normal, f, h, nx)
        | none => none)
    | _ => none) fuel

section
variable {P : Program} {Z : Base} {n : Nat}
/-- What holds behind. -/
def Post (Z : Base) (n : Nat) (Q : Exit → Act → World → Prop) (ρ : Rho) (out : Out) (f' : F) (h' : H) : Prop := ∀ ρ' a' w', ρ.le ρ' → FR ρ' n f' a' → HR Z ρ' h' w' → Q out.ex a' w'
theorem Post.le {Q : Exit → Act → World → Prop} {ρ ρ' : Rho} {out : Out} {f' : F} {h' : H} (hq : Post Z n Q ρ out f' h') (hle : ρ.le ρ') : Post Z n Q ρ' out f' h' := fun ρ2 a' w' h => hq ρ2 a' w' (hle.trans h)

def LoopWp (P : Program) (c : Code) (Q : Exit → Act → World → Prop) (a : Act) (w : World) : Prop :=
  ∀ (b : Frame) (k : List Item) (cs : List Frame), ∃ e a' w', Q e a' w' ∧ Arrives P (lone (b.at a (.code c :: .inLoop c :: k)) cs w) b k cs e a' w'
theorem LoopWp.wp {c : Code} {Q : Exit → Act → World → Prop} {a : Act} {w : World} (h : LoopWp P c Q a w) : (Code.loop c).wp P Q a w := fun b k cs =>
  let ⟨e, a', w', q, r⟩ := h b k cs
  ⟨e, a', w', q, .of_steps (.one step_loop) r⟩
theorem LoopWp.unroll {c : Code} {Q : Exit → Act → World → Prop} {a : Act} {w : World} (h : c.wp P (Exit.then (LoopWp P c Q) Q) a w) : LoopWp P c Q a w := by
  intro b k cs
  obtain ⟨e, a₁, w₁, hq, harr⟩ := h b (.inLoop c :: k) cs
  cases e with
  | normal =>
    obtain ⟨e₂, a₂, w₂, hq₂, harr₂⟩ := hq b k cs
    exact ⟨e₂, a₂, w₂, hq₂, .of_steps (Steps.trans harr (.one step_inLoop)) harr₂⟩
  | exit id => exact ⟨_, a₁, w₁, hq, .pass (x := .inLoop c) rfl (fun _ _ => .inl (by simp)) harr⟩
  | goto l => exact ⟨_, a₁, w₁, hq, .pass (x := .inLoop c) rfl (fun _ _ => .inl (by simp)) harr⟩
  | ret => exact ⟨_, a₁, w₁, hq, .pass (x := .inLoop c) rfl (fun _ _ => .inl (by simp)) harr⟩
  | panic ch => exact ⟨_, a₁, w₁, hq, .pass (x := .inLoop c) rfl (fun _ _ => .inl (by simp)) harr⟩
  | outgrown => exact ⟨_, a₁, w₁, hq, .pass (x := .inLoop c) rfl (fun _ _ => .inl (by simp)) harr⟩
def ScopeWp (P : Program) (c rest : Code) (Q : Exit → Act → World → Prop) (a : Act) (w : World) : Prop :=
  ∀ (b : Frame) (k : List Item) (cs : List Frame), ∃ e a' w', Q e a' w' ∧ Arrives P (lone (b.at a (.code rest :: .inScope c :: k)) cs w) b k cs e a' w'
theorem ScopeWp.wp {c : Code} {Q : Exit → Act → World → Prop} {a : Act} {w : World} (h : ScopeWp P c c Q a w) : (Code.scope c).wp P Q a w := fun b k cs =>
  let ⟨e, a', w', q, r⟩ := h b k cs
  ⟨e, a', w', q, .of_steps (.one step_scope) r⟩
def Exit.inScope (P : Program) (c : Code) (Q : Exit → Act → World → Prop) : Exit → Act → World → Prop
  | .goto l, a, w => match findLabel c l with | some rest => ScopeWp P c rest Q a w | none => Q (.goto l) a w
  | e, a, w => Q e a w
theorem ScopeWp.unroll {c rest : Code} {Q : Exit → Act → World → Prop} {a : Act} {w : World} (h : rest.wp P (Exit.inScope P c Q) a w) : ScopeWp P c rest Q a w := by
  intro b k cs
  obtain ⟨e, a₁, w₁, hq, harr⟩ := h b (.inScope c :: k) cs
  cases e with
  | normal => exact ⟨.normal, a₁, w₁, hq, Steps.trans harr (.one step_inScope)⟩
  | exit id => exact ⟨.exit id, a₁, w₁, hq, fun k' hk => harr k' (by simp [exitTo, hk])⟩
  | goto l =>
    simp only [Exit.inScope] at hq
    split at hq
    · rename_i rest' hf
      obtain ⟨e₂, a₂, w₂, hq₂, harr₂⟩ := hq b k cs
      exact ⟨e₂, a₂, w₂, hq₂, .of_steps (harr _ (by simp [gotoIn, hf])) harr₂⟩
    · rename_i hf
      exact ⟨.goto l, a₁, w₁, hq, fun k' hk => harr k' (by simp [gotoIn, hf, hk])⟩
  | ret => exact ⟨_, a₁, w₁, hq, harr⟩
  | panic ch => exact ⟨_, a₁, w₁, hq, harr⟩
  | outgrown => exact ⟨_, a₁, w₁, hq, harr⟩

def RunsA (P : Program) (Z : Base) (n : Nat) (c : Code) (run : F → H → Nat → Res) : Prop :=
  ∀ f h nx out f' h' nx', run f h nx = some (out, f', h', nx') → ∀ ρ a w Q, FR ρ n f a → HR Z ρ h w → Post Z n Q ρ out f' h' → c.wp P Q a w

theorem loopA_run {c : Code} {run : F → H → Nat → Res} (hrun : RunsA P Z n c run) (fuel : Nat) : ∀ f h nx out f' h' nx', loopA run fuel f h nx = some (out, f', h', nx') → ∀ ρ a w Q, FR ρ n f a → HR Z ρ h w → Post Z n Q ρ out f' h' → LoopWp P c Q a w := by
  induction fuel with
  | zero => intro f h nx out f' h' nx' hl; cases hl
  | succ fuel ih =>
    intro f h nx out f' h' nx' hl ρ a w Q hf hh hQ
    have hl' : (match run f h nx with
      | some (.normal, f, h, nx) => loopA run fuel f h nx
      | r => r) = some (out, f', h', nx') := hl
    refine LoopWp.unroll ?_
    split at hl'
    · rename_i f1 h1 nx1 hr
      refine hrun _ _ _ _ _ _ _ hr ρ a w _ hf hh fun ρ' a' w' hle hf' hh' => ?_
      exact ih _ _ _ _ _ _ _ hl' ρ' a' w' Q hf' hh' (hQ.le hle)
    · rename_i hne
      refine hrun _ _ _ _ _ _ _ hl' ρ a w _ hf hh fun ρ' a' w' hle hf' hh' => ?_
      have := hQ ρ' a' w' hle hf' hh'
      cases out with
      | normal => exact absurd hl' (hne f' h' nx')
      | _ => exact this
theorem scopeA_run {c : Code} {run : Code → F → H → Nat → Res} (hrun : ∀ c, RunsA P Z n c (run c)) (fuel : Nat) : ∀ rest f h nx out f' h' nx', scopeA run c fuel rest f h nx = some (out, f', h', nx') → ∀ ρ a w Q, FR ρ n f a → HR Z ρ h w → Post Z n Q ρ out f' h' → ScopeWp P c rest Q a w := by
  induction fuel with
  | zero => intro rest f h nx out f' h' nx' hl; cases hl
  | succ fuel ih =>
    intro rest f h nx out f' h' nx' hl ρ a w Q hf hh hQ
    have hl' : (match run rest f h nx with
      | some (.goto l, f, h, nx) => (match findLabel c l with | some rest' => scopeA run c fuel rest' f h nx | none => some (.goto l, f, h, nx))
      | r => r) = some (out, f', h', nx') := hl
    refine ScopeWp.unroll ?_
    split at hl'
    · rename_i l f1 h1 nx1 hr
      refine hrun rest _ _ _ _ _ _ _ hr ρ a w _ hf hh fun ρ' a' w' hle hf' hh' => ?_
      show Exit.inScope P c Q (.goto l) a' w'
      simp only [Exit.inScope]
      split at hl'
      · rename_i rest' hfl
        exact ih _ _ _ _ _ _ _ _ hl' ρ' a' w' Q hf' hh' (hQ.le hle)
      · rename_i hfl
        simp only [Option.some.injEq, Prod.mk.injEq] at hl'
        obtain ⟨rfl, rfl, rfl, rfl⟩ := hl'
        exact hQ ρ' a' w' hle hf' hh'
    · rename_i hne
      refine hrun rest _ _ _ _ _ _ _ hl' ρ a w _ hf hh fun ρ' a' w' hle hf' hh' => ?_
      have := hQ ρ' a' w' hle hf' hh'
      cases out with
      | goto l => exact absurd hl' (hne l f' h' nx')
      | _ => exact this
end
end Go.Ax
namespace Go.Ax
open Go.Sx
section
variable {P : Program} {Z : Base} {n : Nat}
theorem codeA_run {call : CallF} (hcall : CallOK P call) (fuel : Nat) : ∀ c, RunsA P Z n c (codeA P call n fuel c) := by
  induction fuel with
  | zero => intro c f h nx out f' h' nx' hl; cases hl
  | succ m ih =>
    intro c f h nx out f' h' nx' hl ρ a w Q hf hh hQ
    have one : ∀ {o : Out}, some (o, f, h, nx) = some (out, f', h', nx') → Q o.ex a w := fun he => by
      simp only [Option.some.injEq, Prod.mk.injEq] at he
      obtain ⟨rfl, rfl, rfl, rfl⟩ := he
      exact hQ ρ a w (Rho.le.refl ρ) hf hh
    cases c with
    | skip => exact wp_skip (one hl)
    | label l => exact wp_label (one hl)
    | ret => exact wp_ret (one hl)
    | exit id => exact wp_exit (one hl)
    | goto l => exact wp_goto (one hl)
    | seq x y =>
      have hl' : (match codeA P call n m x f h nx with
        | some (.normal, f, h, nx) => codeA P call n m y f h nx
        | r => r) = some (out, f', h', nx') := hl
      refine wp_seq ?_
      split at hl'
      · rename_i f1 h1 nx1 hr
        refine ih x _ _ _ _ _ _ _ hr ρ a w _ hf hh fun ρ' a' w' hle hf' hh' => ?_
        exact ih y _ _ _ _ _ _ _ hl' ρ' a' w' Q hf' hh' (hQ.le hle)
      · rename_i hne
        refine ih x _ _ _ _ _ _ _ hl' ρ a w _ hf hh fun ρ' a' w' hle hf' hh' => ?_
        have := hQ ρ' a' w' hle hf' hh'
        cases out with
        | normal => exact absurd hl' (hne f' h' nx')
        | _ => exact this
    | cond c x y =>
      have hl' : (match av f c with
        | .f (.bool t) => codeA P call n m (bif t then x else y) f h nx
        | _ => none) = some (out, f', h', nx') := hl
      split at hl'
      · rename_i t hc
        have hcv := hf.av c
        rw [hc] at hcv
        refine wp_cond (t := t) hcv ?_
        cases t
        · exact ih y _ _ _ _ _ _ _ hl' ρ a w Q hf hh hQ
        · exact ih x _ _ _ _ _ _ _ hl' ρ a w Q hf hh hQ
      · cases hl'
    | block id c =>
      have hl' : (match codeA P call n m c f h nx with
        | some (.exit id', f, h, nx) => bif Nat.beq id' id then some (.normal, f, h, nx) else some (.exit id', f, h, nx)
        | r => r) = some (out, f', h', nx') := hl
      refine wp_block ?_
      split at hl'
      · rename_i id' f1 h1 nx1 hr
        refine ih c _ _ _ _ _ _ _ hr ρ a w _ hf hh fun ρ' a' w' hle hf' hh' => ?_
        show Exit.inBlock id Q (.exit id') a' w'
        simp only [Exit.inBlock]
        cases hb : Nat.beq id' id with
        | true =>
          rw [hb] at hl'
          simp only [cond_true, Option.some.injEq, Prod.mk.injEq] at hl'
          obtain ⟨rfl, rfl, rfl, rfl⟩ := hl'
          rw [if_pos (beq_eq hb)]
          exact hQ ρ' a' w' hle hf' hh'
        | false =>
          rw [hb] at hl'
          simp only [cond_false, Option.some.injEq, Prod.mk.injEq] at hl'
          obtain ⟨rfl, rfl, rfl, rfl⟩ := hl'
          rw [if_neg (beq_ff hb)]
          exact hQ ρ' a' w' hle hf' hh'
      · rename_i hne
        refine ih c _ _ _ _ _ _ _ hl' ρ a w _ hf hh fun ρ' a' w' hle hf' hh' => ?_
        have := hQ ρ' a' w' hle hf' hh'
        cases out with
        | exit id' => exact absurd hl' (hne id' f' h' nx')
        | _ => exact this
    | loop c =>
      have hl' : loopA (codeA P call n m c) m f h nx = some (out, f', h', nx') := hl
      exact (loopA_run (ih c) m _ _ _ _ _ _ _ hl' ρ a w Q hf hh hQ).wp
    | scope c =>
      have hl' : scopeA (codeA P call n m) c m c f h nx = some (out, f', h', nx') := hl
      exact (scopeA_run ih m _ _ _ _ _ _ _ _ hl' ρ a w Q hf hh hQ).wp
    | region id ops draw =>
      have hl' : (bif draw then
          bif P.follows .mixedOrders then
            (match drawA P call n ops nx ops.size (Array.replicate ops.size false) [] f h (nx + ops.size) with
            | some (f, h, nx) => some (.normal, f, h, nx)
            | none => none)
          else none
        else (match opsA P call n ops ops.toList f h nx with
          | some (f, h, nx) => some (.normal, f, h, nx)
          | none => none)) = some (out, f', h', nx') := hl
      cases draw with
      | false =>
        rw [cond_false] at hl'
        split at hl'
        · rename_i f1 h1 nx1 hr
          simp only [Option.some.injEq, Prod.mk.injEq] at hl'
          obtain ⟨rfl, rfl, rfl, rfl⟩ := hl'
          refine wp_region ?_
          rw [List.range_eq_range', show ops.size = ops.toList.length from rfl]
          exact opsA_run hcall ops.toList 0 ρ f h nx a w (fun j o hj => by simpa using hj) hr hf hh hQ
        · cases hl'
      | true =>
        rw [cond_true] at hl'
        cases hm : P.follows .mixedOrders with
        | false => rw [hm] at hl'; cases hl'
        | true =>
        rw [hm, cond_true] at hl'
        split at hl'
        · rename_i f1 h1 nx1 hr
          simp only [Option.some.injEq, Prod.mk.injEq] at hl'
          obtain ⟨rfl, rfl, rfl, rfl⟩ := hl'
          refine wp_mono (Q := fun e a' w' => e = .normal ∧ ∃ ρ', ρ.le ρ' ∧ FR ρ' n f1 a' ∧ HR Z ρ' h1 w') (wp_region_draw fun t => ?_) fun e a' w' ⟨he, ρ', hle, hf', hh'⟩ => by subst he; exact hQ ρ' a' w' hle hf' hh'
          have hsch : Region.schedule (P.follows .mixedOrders) ops t = Region.linearise .any ops t := by simp [Region.schedule, hm]
          rw [hsch]
          refine wpAny_sound _ t _ a _ (wpAny_of_U (held := []) _ _ _ _ ?_)
          exact drawA_run hcall (fun c a w h => by cases h.1) ops.size _ [] [] ρ f h _ a _ hr (by simp) hf (hh.same rfl rfl) rfl (fun e he => by cases he) fun ρ' a' w' hle hf' hh' => ⟨rfl, ρ', hle, hf', hh'⟩
        · cases hl'
    | rangeFunc => cases hl
    | refuse => cases hl

/-! Calls. -/
noncomputable def argsF (args : List V) : Nat → F → F := List.rec (fun _ f => f) (fun x _ ih i f => ih (i + 1) (f.set i x)) args
theorem argsF_get : ∀ (args : List V) (i : Nat) (f : F), i + args.length ≤ 1000000 → ∀ t, (argsF args i f).get t = if i ≤ t ∧ t < i + args.length then args[t - i]? else f.get t
  | [], i, f, _, t => by
    show f.get t = _
    rw [if_neg (by simp)]
  | x :: xs, i, f, hl, t => by
    show (argsF xs (i + 1) (f.set i x)).get t = _
    simp only [List.length_cons] at hl
    rw [argsF_get xs (i + 1) _ (by omega), T.get_set (by simp [few, Nat.blt_eq]; omega)]
    by_cases h1 : i + 1 ≤ t ∧ t < i + 1 + xs.length
    · rw [if_pos h1, if_pos (by simp; omega)]
      rw [show t - i = (t - (i + 1)) + 1 by omega, List.getElem?_cons_succ]
    · rw [if_neg h1]
      by_cases h2 : t = i
      · subst h2; simp
      · rw [if_neg h2, if_neg (by simp; omega)]
noncomputable def resO (P : Program) (h : H) (f : F) (r : ResultVar) : Option V := match r with | .tmp t => some (fget f t) | .cell x t => ldA P h t (fget f x)
noncomputable def resL (P : Program) (h : H) (rs : List ResultVar) (f : F) : Option (List V) := List.rec (some []) (fun r _ ih => match resO P h f r, ih with | some v, some l => some (v :: l) | _, _ => none) rs
def resS (a : Act) : ResultVar → Sem Value
    | .tmp t => pure (a.tmps.getD t undef)
    | .cell x t => do loadVar t (← asAddr (a.tmps.getD x undef))
theorem resO_run {ρ : Rho} {h : H} {w : World} {f : F} {a : Act} (hh : HR Z ρ h w) (hf : FR ρ n f a) {r : ResultVar} {v : V} (hr : resO P h f r = some v) : ∃ u, (resS a r).run P w = .ok u w ∧ VR ρ v u := by
  cases r with
  | tmp t => cases hr; exact ⟨_, rfl, hf.t t⟩
  | cell x t =>
    have hld : ldA P h t (fget f x) = some v := hr
    obtain ⟨y, hy, hvy⟩ := ldA_run hh (hf.t x) hld
    have hx : ∃ ad, a.tmps.getD x undef = .pointer (some ad) := by
      have := hf.t x
      unfold ldA at hld
      split at hld
      · rename_i he
        rw [he] at this
        obtain ⟨r, _, _, h3⟩ := this
        exact ⟨_, h3⟩
      · cases hld
    obtain ⟨ad, had⟩ := hx
    refine ⟨y, ?_, hvy⟩
    rw [had] at hy
    have hy' : (loadVar t ad).run P w = .ok y w := by simpa [Instr.loadAt, Instr.sureAddr] using hy
    simp only [resS, had, asAddr, Sem.run_bind, Sem.run_pure, Result.andThen_ok, hy']
theorem resL_run {ρ : Rho} {h : H} {w : World} {f : F} {a : Act} (hh : HR Z ρ h w) (hf : FR ρ n f a) : ∀ {rs : List ResultVar} {vs : List V}, resL P h rs f = some vs → ∃ us, VRs ρ vs us ∧ (rs.mapM (m := Sem) (resS a)).run P w = .ok us w
  | [], vs, hs => by
    have h' : some [] = some vs := hs
    cases h'
    exact ⟨[], rfl, rfl⟩
  | r :: rs, vs, hs => by
    have h' : (match resO P h f r, resL P h rs f with | some v, some l => some (v :: l) | _, _ => none) = some vs := hs
    split at h'
    · rename_i v l ho hl
      cases h'
      obtain ⟨us, hv, hr⟩ := resL_run hh hf hl
      obtain ⟨u, hu, hvu⟩ := resO_run hh hf ho
      refine ⟨u :: us, ⟨_, _, rfl, hvu, hv⟩, ?_⟩
      rw [List.mapM_cons]
      simp only [Sem.run_bind, hu, Sem.run_pure, Result.andThen_ok, hr]
    · cases h'
noncomputable def resA (P : Program) (h : H) (fn : Func) (f : F) : Option V :=
  match resL P h fn.results.toList f with
  | some [v] => some v
  | some vs => some (mkT vs)
  | none => none
theorem resA_run {ρ : Rho} {h : H} {w : World} {f : F} {a : Act} (hh : HR Z ρ h w) (hf : FR ρ n f a) {fn : Func} {v : V} (hs : resA P h fn f = some v) : ∃ u, (results fn a.tmps).run P w = .ok u w ∧ VR ρ v u := by
  unfold resA at hs
  have key : ∀ {us : List Value}, (fn.results.toList.mapM (m := Sem) (resS a)).run P w = .ok us w → (results fn a.tmps).run P w = .ok (if hs : us.toArray.size = 1 then us.toArray[0] else .tuple us.toArray) w := fun {us} hr => by
    have e : results fn a.tmps = (do let vs ← fn.results.mapM (resS a); pure (if h : vs.size = 1 then vs[0] else .tuple vs)) := by
      unfold results
      first | rfl | congr 1
    rw [e, Array.mapM_eq_mapM_toList]
    simp only [Sem.run_bind, Sem.run_map, hr, Result.andThen_ok, Sem.run_pure]
  split at hs
  · rename_i v' hl
    cases hs
    obtain ⟨us, hv, hr⟩ := resL_run hh hf hl
    obtain ⟨u, us', rfl, h1, h2⟩ := hv
    rw [show us' = [] from h2] at hr
    exact ⟨u, by rw [key hr]; simp, h1⟩
  · rename_i vs hne hl
    cases hs
    obtain ⟨us, hv, hr⟩ := resL_run hh hf hl
    refine ⟨.tuple us.toArray, ?_, mkT_rel hv⟩
    rw [key hr]
    have hlen := hv.len
    rw [dif_neg]
    intro h1
    simp only [List.size_toArray] at h1
    rw [hlen] at h1
    match vs, h1 with
    | [x], _ => exact hne x rfl
  · cases hs

/-- What is known of functions ahead. -/
abbrev OrcF := FuncId → List V → H → Nat → Option (Option (V × H × Nat))
def OrcOK (P : Program) (orc : OrcF) : Prop := ∀ fid args h nx v h' nx', orc fid args h nx = some (some (v, h', nx')) → ∀ Z ρ us w, VRs ρ args us → HR Z ρ h w → Calls P fid (List.toArray us) w (Came Z ρ v h')
noncomputable def callA (P : Program) (orc : OrcF) (cf : Nat) (fuel : Nat) : CallF :=
  Nat.rec (fun _ _ _ _ => none) (fun _ ih fid args h nx =>
    match orc fid args h nx with
    | some r => r
    | none =>
      match P.funcs[fid]? with
      | some fn => (match fn.body with
        | some c =>
          bif few fn.ntmps && Nat.ble (llen args) fn.ntmps then
            (match codeA P ih fn.ntmps cf c (argsF args 0 .e) h nx with
            | some (.normal, f, h, nx) => (match resA P h fn f with | some v => some (v, h, nx) | none => none)
            | some (.ret, f, h, nx) => (match resA P h fn f with | some v => some (v, h, nx) | none => none)
            | _ => none)
          else none
        | none => none)
      | none => none) fuel
theorem callA_run {orc : OrcF} (ho : OrcOK P orc) (cf fuel : Nat) : CallOK P (callA P orc cf fuel) := by
  induction fuel with
  | zero => intro fid args h nx v h' nx' hc; cases hc
  | succ fuel ih =>
    intro fid args h nx v h' nx' hc Z ρ us w hargs hh
    have hc' : (match orc fid args h nx with
      | some r => r
      | none =>
        match P.funcs[fid]? with
        | some fn => (match fn.body with
          | some c =>
            bif few fn.ntmps && Nat.ble (llen args) fn.ntmps then
              (match codeA P (callA P orc cf fuel) fn.ntmps cf c (argsF args 0 .e) h nx with
              | some (.normal, f, h, nx) => (match resA P h fn f with | some v => some (v, h, nx) | none => none)
              | some (.ret, f, h, nx) => (match resA P h fn f with | some v => some (v, h, nx) | none => none)
              | _ => none)
            else none
          | none => none)
        | none => none) = some (v, h', nx') := hc
    split at hc'
    · rename_i r hr
      subst hc'
      exact ho _ _ _ _ _ _ _ hr Z ρ us w hargs hh
    · split at hc'
      · rename_i fn hfn
        split at hc'
        · rename_i c hbody
          cases hg : (few fn.ntmps && Nat.ble (llen args) fn.ntmps) with
          | false => rw [hg] at hc'; cases hc'
          | true =>
          rw [hg, cond_true] at hc'
          simp only [Bool.and_eq_true] at hg
          have hle := ble_le hg.2
          rw [llen_eq] at hle
          have hlen := hargs.len
          have hfew : fn.ntmps < 1000000 := by simpa [few, Nat.blt_eq] using hg.1
          have hf0 : FR ρ fn.ntmps (argsF args 0 .e) { tmps := List.toArray us ++ Array.replicate (fn.ntmps - (List.toArray us).size) undef, defers := [] } := by
            refine ⟨rfl, by simp; omega, hg.1, fun t => ?_⟩
            unfold fget
            rw [argsF_get args 0 .e (by omega) t]
            simp only [Nat.zero_le, true_and, Nat.zero_add, Nat.sub_zero]
            by_cases ht : t < args.length
            · rw [if_pos ht]
              have hx : args[t]? = some args[t] := List.getElem?_eq_getElem ht
              obtain ⟨u, hu, hv⟩ := hargs.get _ _ hx
              rw [hx]
              have : (List.toArray us ++ Array.replicate (fn.ntmps - (List.toArray us).size) undef).getD t undef = u := by
                rw [Array.getD_eq_getD_getElem?, Array.getElem?_append_left (by simp; omega)]
                simp [hu]
              rw [this]
              exact hv
            · rw [if_neg ht]
              show _ = undef
              rw [Array.getD_eq_getD_getElem?, Array.getElem?_append_right (by simp; omega), Array.getElem?_replicate]
              split <;> rfl
          have fin : ∀ (out : Out) (f1 : F) (h1 : H) (nx1 : Nat), (out = .normal ∨ out = .ret) → codeA P (callA P orc cf fuel) fn.ntmps cf c (argsF args 0 .e) h nx = some (out, f1, h1, nx1) → (match resA P h1 fn f1 with | some v => some (v, h1, nx1) | none => none) = some (v, h', nx') → Calls P fid (List.toArray us) w (Came Z ρ v h') := by
            intro out f1 h1 nx1 hout hcode hres
            split at hres
            · rename_i v1 hv1
              simp only [Option.some.injEq, Prod.mk.injEq] at hres
              obtain ⟨rfl, rfl, rfl⟩ := hres
              refine calls_of_wp hfn hbody ?_
              refine codeA_run ih cf c _ _ _ _ _ _ _ hcode ρ _ w _ hf0 hh fun ρ' a' w' hle' hf' hh' => ?_
              obtain ⟨u, hr, hv⟩ := resA_run hh' hf' hv1
              rcases hout with rfl | rfl
              · exact ⟨hf'.d, u, hr, ρ', u, rfl, hle', hv, hh'⟩
              · exact ⟨hf'.d, u, hr, ρ', u, rfl, hle', hv, hh'⟩
            · cases hres
          split at hc'
          · rename_i f1 h1 nx1 hcode
            exact fin _ _ _ _ (.inl rfl) hcode hc'
          · rename_i f1 h1 nx1 hcode
            exact fin _ _ _ _ (.inr rfl) hcode hc'
          · cases hc'
        · cases hc'
      · cases hc'

/-- A run that hangs on nothing. -/
noncomputable def saysA (r : Option (V × H × Nat)) (v : Value) : Bool := match r with | some (.f u, _, _) => valEq u v | _ => false
theorem closed_run {orc : OrcF} (ho : OrcOK P orc) {cf fuel : Nat} {fid : FuncId} {v : Value} (h : saysA (callA P orc cf fuel fid [] .e 0) v = true) (X : List HP) : TC P fid [] X (fun u X' => u = v ∧ X' = X) := by
  intro E w hx
  unfold saysA at h
  split at h
  · rename_i u h' nx' hc
    obtain ⟨q, M, e', hp, hd, hM, he⟩ := hx
    have hz : HR ⟨w.env, frag w⟩ (fun _ _ => none) .e w :=
      ⟨rfl, Sub.refl _, fun i o hi => (by cases hi), fun i k i' k' r r' _ _ hr => (by cases hr), fun i k k' r r' _ _ hr => (by cases hr), fun i k r _ hr => (by cases hr), fun i k r hr => (by cases hr)⟩
    refine (callA_run ho cf fuel _ _ _ _ _ _ _ hc ⟨w.env, frag w⟩ _ [] w rfl hz).mono ?_
    rintro e w' ⟨ρ', u', rfl, _, hv, hh'⟩
    refine ⟨u', X, rfl, ⟨by rw [show u' = u from hv, valEq_spec h], rfl⟩, ?_⟩
    exact ⟨hh'.env.trans q, M, e', hp, hd, hM.trans hh'.old, he.trans hh'.old⟩
  · cases h
noncomputable def noOrc : OrcF := fun _ _ _ _ => none
theorem noOrc_ok : OrcOK P noOrc := fun _ _ _ _ _ _ _ h => by cases h
end
end Go.Ax
