/- Whole bodies under names. -/
import Derived.Test.YtjlikmhhaecgnaaGreatDoorAxQ
namespace Go.Ax
set_option linter.unusedVariables false
open Go.Sx

section
variable {P : Program} {Z : Base} {ρ : Rho} {h : H} {w : World} {n : Nat} {f : F} {a : Act}

/-! What touches no memory. -/
noncomputable def avs (f : F) (xs : List Operand) : List V := List.rec [] (fun x _ ih => av f x :: ih) xs
theorem avs_rel (hf : FR ρ n f a) (xs : List Operand) : VRs ρ (avs f xs) (xs.map a.eval) := by
  induction xs with
  | nil => rfl
  | cons x xs ih => exact ⟨_, _, rfl, hf.av x, ih⟩
def noA (op : BinOp) : Option V := match op with | .eql => some (.f (.bool false)) | .neq => some (.f (.bool true)) | _ => none
/-- Held against nil. -/
noncomputable def nilA (P : Program) (op : BinOp) (t : TypeId) (x y : V) : Option V :=
  let no : Option V := noA op
  match P.underlying t with
  | some (.pointer _) => (match x, y with
    | .p .., .f (.pointer none) => no
    | .f (.pointer none), .p .. => no
    | _, _ => none)
  | some (.slice _) => (match x, y with
    | .s .., .f (.slice none _ _) => no
    | .f (.slice none _ _), .s .. => no
    | _, _ => none)
  | some (.map _ _) => (match x, y with
    | .m .., .f (.map none) => no
    | .f (.map none), .m .. => no
    | _, _ => none)
  | some (.func _ _ _) => (match x, y with
    | .fn .., .f .nilFunc => no
    | .f .nilFunc, .fn .. => no
    | _, _ => none)
  | some (.interface _) => (match x, y with
    | .i .., .f .nilIface => no
    | .f .nilIface, .i .. => no
    | _, _ => none)
  | _ => none
inductive NilPair (P : Program) (t : TypeId) : Value → Value → Prop
  | p1 {e a} : P.underlying t = some (.pointer e) → NilPair P t (.pointer (some a)) (.pointer none)
  | p2 {e a} : P.underlying t = some (.pointer e) → NilPair P t (.pointer none) (.pointer (some a))
  | s1 {e a l c l' c'} : P.underlying t = some (.slice e) → NilPair P t (.slice (some a) l c) (.slice none l' c')
  | s2 {e a l c l' c'} : P.underlying t = some (.slice e) → NilPair P t (.slice none l' c') (.slice (some a) l c)
  | m1 {k e a} : P.underlying t = some (.map k e) → NilPair P t (.map (some a)) (.map none)
  | m2 {k e a} : P.underlying t = some (.map k e) → NilPair P t (.map none) (.map (some a))
  | f1 {a b c g x y} : P.underlying t = some (.func a b c) → NilPair P t (.func g x y) .nilFunc
  | f2 {a b c g x y} : P.underlying t = some (.func a b c) → NilPair P t .nilFunc (.func g x y)
  | i1 {m d x} : P.underlying t = some (.interface m) → NilPair P t (.iface d x) .nilIface
  | i2 {m d x} : P.underlying t = some (.interface m) → NilPair P t .nilIface (.iface d x)
theorem equal_of {t : TypeId} {x y : Value} {b : Bool} {w : World} (h : ∀ d, (Op.equalIn (d + 1) t x y).run P w = .ok b w) : (Op.equal t x y).run P w = .ok b w := h 9999
theorem NilPair.eq {t : TypeId} {u z : Value} (h : NilPair P t u z) (w : World) : (Op.equal t u z).run P w = .ok false w := by
  refine equal_of fun d => ?_
  cases h <;> (rename_i hu; simp [Op.equalIn, run_underlying hu])
theorem NilPair.run {t : TypeId} {u z : Value} (h : NilPair P t u z) (x' y' : Operand) (w : World) :
    (do eqGuard .eql t x' y' u z; binOp .eql t u z : Sem Value).run P w = .ok (.bool false) w ∧ (do eqGuard .neq t x' y' u z; binOp .neq t u z : Sem Value).run P w = .ok (.bool true) w := by
  have he := h.eq w
  constructor <;> cases h <;> simp [eqGuard, binOp, he]
theorem nilA_run {op : BinOp} {t : TypeId} {x y v : V} {x' y' : Operand} {u z : Value} (hx : VR ρ x u) (hy : VR ρ y z) (ha : nilA P op t x y = some v) :
    ∃ q, (∀ w : World, (do eqGuard op t x' y' u z; binOp op t u z : Sem Value).run P w = .ok q w) ∧ VR ρ v q := by
  have fin : NilPair P t u z → noA op = some v → ∃ q, (∀ w : World, (do eqGuard op t x' y' u z; binOp op t u z : Sem Value).run P w = .ok q w) ∧ VR ρ v q := by
    intro hn ho
    unfold noA at ho
    split at ho
    · cases ho; exact ⟨_, fun w => (hn.run x' y' w).1, rfl⟩
    · cases ho; exact ⟨_, fun w => (hn.run x' y' w).2, rfl⟩
    · cases ho
  unfold nilA at ha
  simp only at ha
  split at ha
  · rename_i e hu
    split at ha
    · obtain ⟨r, _, _, rfl⟩ := hx; obtain rfl : z = _ := hy; exact fin (.p1 hu) ha
    · obtain ⟨r, _, _, rfl⟩ := hy; obtain rfl : u = _ := hx; exact fin (.p2 hu) ha
    · cases ha
  · rename_i e hu
    split at ha
    · obtain ⟨r, ad, cap, _, rfl, _⟩ := hx; obtain rfl : z = _ := hy; exact fin (.s1 hu) ha
    · obtain ⟨r, ad, cap, _, rfl, _⟩ := hy; obtain rfl : u = _ := hx; exact fin (.s2 hu) ha
    · cases ha
  · rename_i k e hu
    split at ha
    · obtain ⟨r, _, rfl⟩ := hx; obtain rfl : z = _ := hy; exact fin (.m1 hu) ha
    · obtain ⟨r, _, rfl⟩ := hy; obtain rfl : u = _ := hx; exact fin (.m2 hu) ha
    · cases ha
  · rename_i e1 e2 e3 hu
    split at ha
    · obtain ⟨ys, zs, rfl, _⟩ := hx; obtain rfl : z = _ := hy; exact fin (.f1 hu) ha
    · obtain ⟨ys, zs, rfl, _⟩ := hy; obtain rfl : u = _ := hx; exact fin (.f2 hu) ha
    · cases ha
  · rename_i e hu
    split at ha
    · obtain ⟨ys, rfl, _⟩ := hx; obtain rfl : z = _ := hy; exact fin (.i1 hu) ha
    · obtain ⟨ys, rfl, _⟩ := hy; obtain rfl : u = _ := hx; exact fin (.i2 hu) ha
    · cases ha
  · cases ha

def isMethod : Fn → Bool | .method _ => true | _ => false
/-- Operations that touch no memory. -/
noncomputable def pureA (P : Program) (f : F) (o : Oper) : Option V :=
  match o.op with
  | .move x => some (av f x)
  | .assign x => some (av f x)
  | .pick c x y => (match av f c with | .f (.bool t) => some (bif t then av f x else av f y) | _ => none)
  | .nilCheck x => (match av f x with
    | .p i k off => some (.p i k off)
    | .s i k off n b c sz => some (.s i k off n b c sz)
    | .m i => some (.m i)
    | .i t v => some (.i t v)
    | .fn g fs cs => bif isMethod g then none else some (.fn g fs cs)
    | .f _ => (match genA P f o with | some v => some (.f v) | none => none)
    | _ => none)
  | .fieldAddr s x j => faA P s (av f x) j
  | .indexAddr t x i => ixA P t (av f x) (av f i)
  | .field t x j => (match av f x with
    | .a xs => (match fieldOf P t j with | some fd => partA P fd.type xs fd.offset | none => none)
    | _ => (match genA P f o with | some v => some (.f v) | none => none))
  | .index t x i => (match av f x with
    | .a xs => (match P.underlying t, natF (av f i) with
      | some (.array len e), some j => (match sizeA P e with | some s => bif Nat.blt j len then partA P e xs (j * s) else none | none => none)
      | _, _ => none)
    | _ => (match genA P f o with | some v => some (.f v) | none => none))
  | .extract x j => (match av f x with
    | .t xs => lget xs j
    | _ => (match genA P f o with | some v => some (.f v) | none => none))
  | .makeInterface t x => (match av f x with
    | .f _ => (match genA P f o with | some v => some (.f v) | none => none)
    | v => (match P.underlying t with | some (.interface _) => none | some _ => some (.i t v) | none => none))
  | .makeFunc g fs cs => (match genA P f o with | some v => some (.f v) | none => some (.fn g (avs f fs.toList) (avs f cs.toList)))
  | .binOp op t x y _ => (match av f x, av f y with
    | .f (.int k p), .f (.int k' q) => (match binQ op k p k' q with | some v => some (.f v) | none => (match genA P f o with | some v => some (.f v) | none => none))
    | u, v => (match genA P f o with | some v => some (.f v) | none => nilA P op t u v))
  | .build t ps => (match genA P f o with | some v => some (.f v) | none => buildA P t (partsV f ps.toList))
  | .typeAssert x _ asserted ok => (match av f x with
    | .i t v => assertA P t v asserted ok
    | .f (.iface t v) => (match genA P f o with | some v => some (.f v) | none => assertA P t (.f v) asserted ok)
    | _ => (match genA P f o with | some v => some (.f v) | none => none))
  | _ => (match genA P f o with | some v => some (.f v) | none => none)
theorem gen_ok (hf : FR ρ n f a) {o : Oper} {v : V} (hg : (match genA P f o with | some v => some (V.f v) | none => none) = some v) : ∃ u, (∀ w : World, (execOp a.eval o).run P w = .ok (.value u) w) ∧ VR ρ v u := by
  split at hg
  · rename_i v' hv
    cases hg
    exact ⟨_, fun w => genA_run hf hv w, rfl⟩
  · cases hg
theorem run_val {s : Sem Value} {u : Value} {w w' : World} (h : s.run P w = .ok u w') : (do pure (Next.value (← s)) : Sem Next).run P w = .ok (.value u) w' := by
  rw [Sem.run_bind, h]; rfl
theorem pureA_run (hf : FR ρ n f a) {o : Oper} {v : V} (hp : pureA P f o = some v) : ∃ u, (∀ w : World, (execOp a.eval o).run P w = .ok (.value u) w) ∧ VR ρ v u := by
  obtain ⟨dst, op, type, pos, after, guard⟩ := o
  unfold pureA at hp
  simp only at hp
  split at hp
  · rename_i x; cases hp; exact ⟨_, fun _ => rfl, hf.av x⟩
  · rename_i x; cases hp; exact ⟨_, fun _ => rfl, hf.av x⟩
  · rename_i c x y
    split at hp
    · rename_i t hc
      cases hp
      have := hf.av c
      rw [hc] at this
      refine ⟨if t then a.eval x else a.eval y, fun w => ?_, ?_⟩
      · simp [execOp, show a.eval c = .bool t from this, asBool]
      · cases t
        · exact hf.av y
        · exact hf.av x
    · cases hp
  · rename_i x
    have hx := hf.av x
    split at hp
    · rename_i i k off he
      cases hp
      rw [he] at hx
      obtain ⟨r, h1, h2, h3⟩ := hx
      exact ⟨a.eval x, fun w => by simp [execOp, h3], ⟨r, h1, h2, h3⟩⟩
    · rename_i i k off n' bn c sz he
      cases hp
      rw [he] at hx
      obtain ⟨r, ad, cap, h1, h3, h2⟩ := hx
      exact ⟨a.eval x, fun w => by simp [execOp, h3], ⟨r, ad, cap, h1, h3, h2⟩⟩
    · rename_i i he
      cases hp
      rw [he] at hx
      obtain ⟨r, h1, h3⟩ := hx
      exact ⟨a.eval x, fun w => by simp [execOp, h3], ⟨r, h1, h3⟩⟩
    · rename_i t v he
      cases hp
      rw [he] at hx
      obtain ⟨y, h3, h1⟩ := hx
      exact ⟨a.eval x, fun w => by simp [execOp, h3], ⟨y, h3, h1⟩⟩
    · rename_i g fs cs he
      cases hg : isMethod g with
      | true => rw [hg] at hp; cases hp
      | false =>
        rw [hg] at hp
        cases hp
        rw [he] at hx
        obtain ⟨ys, zs, h3, h1⟩ := hx
        refine ⟨a.eval x, fun w => ?_, ⟨ys, zs, h3, h1⟩⟩
        have e : execOp a.eval ⟨dst, .nilCheck x, type, pos, after, guard⟩ = pure (.value (a.eval x)) := by
          cases g <;> first | (cases hg; done) | simp only [execOp, h3]
        rw [e]; rfl
    · exact gen_ok hf hp
    · cases hp
  · rename_i s x j
    obtain ⟨z, hz, hv⟩ := faA_run (hf.av x) hp
    exact ⟨z, fun w => run_val (hz w), hv⟩
  · rename_i t x i
    obtain ⟨z, hz, hv⟩ := ixA_run (hf.av x) (hf.av i) hp
    exact ⟨z, fun w => run_val (hz w), hv⟩
  · rename_i t x j
    split at hp
    · rename_i xs he
      have hx := hf.av x
      rw [he] at hx
      obtain ⟨ys, h1, h2⟩ := hx
      split at hp
      · rename_i fd hfd
        obtain ⟨fs, hu, hfs⟩ := fieldOf_spec hfd
        obtain ⟨u, hr, hv⟩ := partA_run h2 hp
        refine ⟨u, fun w => run_val ?_, hv⟩
        simp [Instr.field, run_underlying hu, hfs, h1, asAgg, hr]
      · cases hp
    · exact gen_ok hf hp
  · rename_i t x i
    split at hp
    · rename_i xs he
      have hx := hf.av x
      rw [he] at hx
      obtain ⟨ys, h1, h2⟩ := hx
      split at hp
      · rename_i len e j hu hj
        obtain ⟨kk, hk⟩ := natF_spec (hf.av i) hj
        split at hp
        · rename_i s hs
          cases hb : Nat.blt j len with
          | false => rw [hb] at hp; cases hp
          | true =>
            rw [hb, cond_true] at hp
            obtain ⟨u, hr, hv⟩ := partA_run h2 hp
            refine ⟨u, fun w => run_val ?_, hv⟩
            simp only [Nat.blt_eq] at hb
            have hlt : (0 : Int) ≤ (j : Int) ∧ (j : Int) < (len : Int) := by omega
            simp only [Instr.index, hk, asIntOf, Sem.run_bind, Sem.run_pure, Result.andThen_ok, run_underlying hu, h1, if_pos hlt, sizeA_run hs, Int.toNat_natCast]
            exact hr w
        · cases hp
      · cases hp
    · exact gen_ok hf hp
  · rename_i x j
    split at hp
    · rename_i xs he
      have hx := hf.av x
      rw [he] at hx
      obtain ⟨ys, h1, h2⟩ := hx
      rw [lget_eq] at hp
      obtain ⟨u, hu, hv⟩ := h2.get _ _ hp
      refine ⟨u, fun w => run_val ?_, hv⟩
      simp [Instr.extract, h1, hu]
    · exact gen_ok hf hp
  · rename_i t x
    split at hp
    · exact gen_ok hf hp
    · rename_i v hne
      split at hp
      · cases hp
      · rename_i d hd hu
        cases hp
        refine ⟨.iface t (a.eval x), fun w => run_val ?_, ⟨_, rfl, hf.av x⟩⟩
        simp only [Instr.makeInterface, Sem.run_bind, run_underlying hu, Result.andThen_ok]
        cases d <;> first | rfl | exact absurd hu (hd _)
      · cases hp
  · rename_i g fs cs
    split at hp
    · rename_i v' hv
      cases hp
      exact ⟨_, fun w => genA_run hf hv w, rfl⟩
    · cases hp
      refine ⟨.func g (fs.map a.eval) (cs.map a.eval), fun w => run_val rfl, ⟨fs.toList.map a.eval, cs.toList.map a.eval, ?_, avs_rel hf _, avs_rel hf _⟩⟩
      congr 1 <;> apply Array.ext' <;> simp
  · rename_i op' t x y yt
    split at hp
    · rename_i k p k' q hxe hye
      split at hp
      · rename_i v' hq
        cases hp
        refine ⟨v', fun w => run_val ?_, rfl⟩
        have hxx := hf.av x
        have hyy := hf.av y
        rw [hxe] at hxx
        rw [hye] at hyy
        rw [show a.eval x = .int k p from hxx, show a.eval y = .int k' q from hyy, Sem.run_bind, run_eqGuard_int]
        exact binQ_run hq t w
      · exact gen_ok hf hp
    split at hp
    · rename_i v' hv
      cases hp
      exact ⟨_, fun w => genA_run hf hv w, rfl⟩
    · obtain ⟨q, hq, hv⟩ := nilA_run (x' := x) (y' := y) (hf.av x) (hf.av y) hp
      exact ⟨q, fun w => run_val (hq w), hv⟩
  · rename_i t ps
    split at hp
    · rename_i v' hv
      cases hp
      exact ⟨_, fun w => genA_run hf hv w, rfl⟩
    · obtain ⟨u, hr, hv⟩ := buildA_run (qs := ps.map fun (i, x) => (i, a.eval x)) (by simpa using partsV_rel hf ps.toList) hp
      exact ⟨u, fun w => run_val (hr w), hv⟩
  · rename_i x xt asserted ok
    split at hp
    · rename_i t v' he
      have hx := hf.av x
      rw [he] at hx
      obtain ⟨y, hxv, hv⟩ := hx
      obtain ⟨z, hz, hq⟩ := assertA_run (xt := xt) hv hp
      refine ⟨z, fun w => run_val ?_, hq⟩
      rw [hxv]
      exact hz w
    · rename_i t v' he
      split at hp
      · rename_i v2 hv
        cases hp
        exact ⟨_, fun w => genA_run hf hv w, rfl⟩
      · have hx := hf.av x
        rw [he] at hx
        obtain ⟨z, hz, hq⟩ := assertA_run (ρ := ρ) (xt := xt) (v := .f v') (u := v') rfl hp
        refine ⟨z, fun w => run_val ?_, hq⟩
        rw [show a.eval x = .iface t v' from hx]
        exact hz w
    · exact gen_ok hf hp
  · exact gen_ok hf hp

/-! Operations that touch memory, and are no calls of functions. -/
noncomputable def opA (P : Program) (f : F) (h : H) (nm : Nat) (o : Oper) : Option (V × H) :=
  match o.op with
  | .load t x => (match ldA P h t (av f x) with | some v => some (v, h) | none => none)
  | .store t x y => (match stA P h t (av f x) (av f y) with | some h' => some (.f undef, h') | none => none)
  | .alloc t => (match zeroA P t with
    | some z => (match newA h nm (z.cells.toList.map V.f) with | some h' => some (.p nm 0 0, h') | none => none)
    | none => none)
  | .box _ x => (match newA h nm (av f x).cells with | some h' => some (.p nm 0 0, h') | none => none)
  | .slice t x lo hi mx => (match pureA P f o with
    | some v => some (v, h)
    | none => bif mx.isSome && hi.isNone then none else (match slA P h t (av f x) (lo.map (av f)) (hi.map (av f)) (mx.map (av f)) with | some v => some (v, h) | none => none))
  | .makeSlice t l c => makeSA P h nm t (av f l) (av f c)
  | .makeMap t r => (match makeMA P h nm t (r.map (av f)) with | some h' => some (.m nm, h') | none => none)
  | .lookup t x k ok => (match lookA P h t (av f x) (av f k) ok with | some v => some (v, h) | none => none)
  | .mapUpdate t x k v => (match updA P h t (av f x) (av f k) (av f v) with | some h' => some (.f undef, h') | none => none)
  | .insert t x k v => (match updA P h t (av f x) (av f k) (av f v) with | some h' => some (.f undef, h') | none => none)
  | .buildSlice t len ps => buildSA P h nm t len (partsV f ps.toList)
  | .convert t u x => (match pureA P f o with | some v => some (v, h) | none => convA P h nm t u (av f x))
  | .call c => (match c.callee with
    | .builtin .append => (match c.argTypes.toList, c.args.toList with
      | [t, t2], [x, y] => appendA P h nm t t2 (av f x) (av f y)
      | _, _ => none)
    | .builtin .copy => (match c.argTypes.toList, c.args.toList with
      | [t, _], [x, y] => copyA P h t (av f x) (av f y)
      | _, _ => none)
    | .builtin .len => (match c.args.toList with
      | [x] => (match av f x with
        | .m i => (match (c.argTypes[0]?).bind P.underlying, h.get i with | some (.map _ _), some (.m es _) => some (.f (.int .i64 (llen es : Int)), h) | _, _ => none)
        | .s _ _ _ n _ _ _ => (match (c.argTypes[0]?).bind P.underlying with | some (.slice _) => some (.f (.int .i64 (n : Int)), h) | _ => none)
        | _ => (match pureA P f o with | some v => some (v, h) | none => none))
      | _ => none)
    | .builtin .delete => (match c.argTypes.toList, c.args.toList with
      | t :: _, [x, y] => (match delA P h t (av f x) (av f y) with | some h' => some (.f (.tuple #[]), h') | none => none)
      | _, _ => none)
    | .builtin _ => (match pureA P f o with | some v => some (v, h) | none => none)
    | _ => none)
  | _ => (match pureA P f o with | some v => some (v, h) | none => none)
theorem pure_ok (hh : HR Z ρ h w) (hf : FR ρ n f a) {o : Oper} {v : V} {h' : H} (hp : (match pureA P f o with | some v => some (v, h) | none => none) = some (v, h')) : OpOK Z ρ ((execOp a.eval o).run P w) v h' := by
  split at hp
  · rename_i v' hv
    cases hp
    obtain ⟨u, hr, hvr⟩ := pureA_run hf hv
    exact OpOK.same hh (hr w) hvr
  · cases hp
theorem optR_map (hf : FR ρ n f a) (x : Option Operand) : OptR ρ (x.map (av f)) (x.map a.eval) := by
  cases x with
  | none => trivial
  | some x => exact hf.av x
theorem opA_run (hh : HR Z ρ h w) (hf : FR ρ n f a) {o : Oper} {nm : Nat} {v : V} {h' : H} (ho : opA P f h nm o = some (v, h')) : OpOK Z ρ ((execOp a.eval o).run P w) v h' := by
  unfold opA at ho
  split at ho
  · rename_i t x hop
    split at ho
    · rename_i v' hl
      cases ho
      obtain ⟨y, hr, hv⟩ := ldA_run hh (hf.av x) hl
      exact OpOK.same hh (u := y) (by simp only [execOp, hop]; exact run_val hr) hv
    · cases ho
  · rename_i t x y hop
    split at ho
    · rename_i h1 hs
      cases ho
      obtain ⟨w', hr, hh'⟩ := stA_run (P := P) hh (hf.av x) (hf.av y) hs
      refine ⟨ρ, w', Rho.le.refl ρ, hh', .inr ⟨?_, rfl⟩⟩
      simp only [execOp, hop, Sem.run_bind, hr, Result.andThen_ok]
      rfl
    · cases ho
  · rename_i t hop
    split at ho
    · rename_i z hz
      split at ho
      · rename_i h1 hn
        cases ho
        obtain ⟨ρ', hle, hr, hh'⟩ := newA_run hh (VRs.flat z.cells.toList) hn t
        refine ⟨ρ', _, hle, hh', .inl ⟨.pointer (some ⟨w.heap.size, 0, none⟩), ?_, ⟨_, hr, Nat.le_refl 0, rfl⟩⟩⟩
        simp only [execOp, hop]
        refine run_val ?_
        simp only [Instr.alloc, Sem.run_bind, zeroA_run hz, Result.andThen_ok, newVar_run, Sem.run_pure]
      · cases ho
    · cases ho
  · rename_i t x hop
    split at ho
    · rename_i h1 hn
      cases ho
      obtain ⟨ρ', hle, hr, hh'⟩ := newA_run hh (hf.av x).cells hn t
      refine ⟨ρ', _, hle, hh', .inl ⟨.pointer (some ⟨w.heap.size, 0, none⟩), ?_, ⟨_, hr, Nat.le_refl 0, rfl⟩⟩⟩
      simp only [execOp, hop]
      refine run_val ?_
      simp only [Instr.box, Sem.run_bind, newVar_run, Result.andThen_ok, Sem.run_pure]
    · cases ho
  · rename_i t x lo hi mx hop
    split at ho
    · rename_i v' hv
      cases ho
      obtain ⟨u, hr, hvr⟩ := pureA_run hf hv
      exact OpOK.same hh (hr w) hvr
    · cases hb : (mx.isSome && hi.isNone) with
      | true => rw [hb] at ho; cases ho
      | false =>
        rw [hb, cond_false] at ho
        split at ho
        · rename_i v' hs
          cases ho
          obtain ⟨z, hr, hv⟩ := slA_run hh (hf.av x) (optR_map hf lo) (optR_map hf hi) (optR_map hf mx) (by cases mx <;> cases hi <;> simp_all) hs
          exact OpOK.same hh (u := z) (by simp only [execOp, hop]; exact run_val hr) hv
        · cases ho
  · rename_i t l c hop
    obtain ⟨ρ', z, w', hle, hr, hv, hh'⟩ := makeSA_run hh (hf.av l) (hf.av c) ho
    exact ⟨ρ', w', hle, hh', .inl ⟨z, by simp only [execOp, hop]; exact run_val hr, hv⟩⟩
  · rename_i t r hop
    split at ho
    · rename_i h1 hm
      cases ho
      obtain ⟨ρ', z, w', hle, hr, hv, hh'⟩ := makeMA_run hh (optR_map hf r) hm
      exact ⟨ρ', w', hle, hh', .inl ⟨z, by simp only [execOp, hop]; exact run_val hr, hv⟩⟩
    · cases ho
  · rename_i t x k ok hop
    split at ho
    · rename_i v' hl
      cases ho
      obtain ⟨z, hr, hv⟩ := lookA_run hh (hf.av x) (hf.av k) hl
      exact OpOK.same hh (u := z) (by simp only [execOp, hop]; exact run_val hr) hv
    · cases ho
  · rename_i t x k y hop
    split at ho
    · rename_i h1 hs
      cases ho
      obtain ⟨w', hr, hh'⟩ := updA_run hh (hf.av x) (hf.av k) (hf.av y) hs
      refine ⟨ρ, w', Rho.le.refl ρ, hh', .inr ⟨?_, rfl⟩⟩
      simp only [execOp, hop, Sem.run_bind, hr, Result.andThen_ok]
      rfl
    · cases ho
  · rename_i t x k y hop
    split at ho
    · rename_i h1 hs
      cases ho
      obtain ⟨w', hr, hh'⟩ := updA_run hh (hf.av x) (hf.av k) (hf.av y) hs
      refine ⟨ρ, w', Rho.le.refl ρ, hh', .inr ⟨?_, rfl⟩⟩
      simp only [execOp, hop, Sem.run_bind, hr, Result.andThen_ok]
      rfl
    · cases ho
  · rename_i t len ps hop
    obtain ⟨ρ', z, w', hle, hr, hv, hh'⟩ := buildSA_run hh (qs := ps.map fun (i, x) => (i, a.eval x)) (by simpa using partsV_rel hf ps.toList) ho
    exact ⟨ρ', w', hle, hh', .inl ⟨z, by simp only [execOp, hop]; exact run_val hr, hv⟩⟩
  · rename_i t u x hop
    split at ho
    · rename_i v' hv
      cases ho
      obtain ⟨u, hr, hvr⟩ := pureA_run hf hv
      exact OpOK.same hh (hr w) hvr
    · obtain ⟨ρ', z, w', hle, hr, hv, hh'⟩ := convA_run hh (hf.av x) ho
      exact ⟨ρ', w', hle, hh', .inl ⟨z, by simp only [execOp, hop]; exact run_val hr, hv⟩⟩
  · rename_i c hop
    split at ho
    · rename_i hc
      split at ho
      · rename_i t t2 x y ht hx
        obtain ⟨ρ', z, w', hle, hr, hv, hh'⟩ := appendA_run hh (hf.av x) (hf.av y) ho o.type
        refine ⟨ρ', w', hle, hh', .inl ⟨z, ?_, hv⟩⟩
        have ht' : c.argTypes = #[t, t2] := by apply Array.ext'; simpa using ht
        have hx' : c.args = #[x, y] := by apply Array.ext'; simpa using hx
        simp only [execOp, hop, resolve, hc, ht', hx']
        simp only [Sem.run_bind, Sem.run_pure, Result.andThen_ok, invoke, builtin]
        simp [hr]
      · cases ho
    · rename_i hc
      split at ho
      · rename_i t t2 x y ht hx
        obtain ⟨z, w', hr, hv, hh'⟩ := copyA_run hh (hf.av x) (hf.av y) (ts := c.argTypes) (by simp [← Array.getElem?_toList, ht]) ho o.type
        refine ⟨ρ, w', Rho.le.refl ρ, hh', .inl ⟨z, ?_, hv⟩⟩
        have hx' : c.args = #[x, y] := by apply Array.ext'; simpa using hx
        simp only [execOp, hop, resolve, hc, hx']
        simp only [Sem.run_bind, Sem.run_pure, Result.andThen_ok, invoke, builtin]
        simp [hr]
      · cases ho
    · rename_i hc
      split at ho
      · rename_i x hx
        split at ho
        · rename_i i he
          split at ho
          · rename_i kt et es clock hu ho'
            cases ho
            have hxx := hf.av x
            rw [he] at hxx
            obtain ⟨r, hr, hav⟩ := hxx
            obtain ⟨r', es', hr', hw, hE⟩ := hh.obj i _ ho'
            rw [hr] at hr'
            cases hr'
            have hx' : c.args = #[x] := by apply Array.ext'; simpa using hx
            obtain ⟨t0, ht0, hu0⟩ : ∃ t0, c.argTypes[0]? = some t0 ∧ P.underlying t0 = some (.map kt et) := by
              cases h0 : c.argTypes[0]? with
              | none => rw [h0] at hu; cases hu
              | some t0 => rw [h0] at hu; exact ⟨t0, rfl, hu⟩
            have hlen := hE.len
            refine OpOK.same hh (u := .int .i64 (es.length : Int)) ?_ (by rw [llen_eq]; rfl)
            simp only [execOp, hop, resolve, hc, hx']
            simp only [Sem.run_bind, Sem.run_pure, Result.andThen_ok, invoke, builtin]
            simp [Builtin.len_, ht0, run_underlying hu0, hav, goInt, getObj, Sem.run, hw]
            have : es'.size = es.length := hlen
            omega
          · cases ho
        · rename_i i k off n' bn c' sz he
          split at ho
          · rename_i e hu
            cases ho
            have hxx := hf.av x
            rw [he] at hxx
            obtain ⟨r, ad, cap, _, hav, _⟩ := hxx
            have hx' : c.args = #[x] := by apply Array.ext'; simpa using hx
            obtain ⟨t0, ht0, hu0⟩ : ∃ t0, c.argTypes[0]? = some t0 ∧ P.underlying t0 = some (.slice e) := by
              cases h0 : c.argTypes[0]? with
              | none => rw [h0] at hu; cases hu
              | some t0 => rw [h0] at hu; exact ⟨t0, rfl, hu⟩
            refine OpOK.same hh (u := .int .i64 (n' : Int)) ?_ rfl
            simp only [execOp, hop, resolve, hc, hx']
            simp only [Sem.run_bind, Sem.run_pure, Result.andThen_ok, invoke, builtin]
            simp [Builtin.len_, ht0, run_underlying hu0, hav, goInt]
          · cases ho
        · exact pure_ok hh hf ho
      · cases ho
    · rename_i hc
      split at ho
      · rename_i t ts x y ht hx
        split at ho
        · rename_i h1 hd
          cases ho
          obtain ⟨w', hr, hh'⟩ := delA_run (ty := o.type) hh (ts := c.argTypes) (by simp [← Array.getElem?_toList, ht]) (hf.av x) (hf.av y) hd
          refine ⟨ρ, w', Rho.le.refl ρ, hh', .inl ⟨.tuple #[], ?_, rfl⟩⟩
          have hx' : c.args = #[x, y] := by apply Array.ext'; simpa using hx
          simp only [execOp, hop, resolve, hc, hx']
          simp only [Sem.run_bind, Sem.run_pure, Result.andThen_ok, invoke, builtin]
          simp [hr]
        · cases ho
      · cases ho
    · exact pure_ok hh hf ho
    · cases ho
  · exact pure_ok hh hf ho
end
end Go.Ax
