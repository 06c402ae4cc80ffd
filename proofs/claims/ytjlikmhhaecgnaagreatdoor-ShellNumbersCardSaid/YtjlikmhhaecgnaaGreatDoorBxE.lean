/- slices.AppendSeq of the keys of a map of ints that is empty. -/
import Derived.Test.YtjlikmhhaecgnaaGreatDoorBxD
import Derived.Shelf.SlIterI.Collect
namespace Go.Ax
set_option linter.unusedVariables false
open Go.Sx Go.Proofs Go.RowKit Go.Maps Go.Sort Go.Shelf
section
variable {P : Program} {r : Ren}
set_option maxRecDepth 100000 in
set_option maxHeartbeats 1000000 in
theorem keys_empty_in (L : SlLaysZI.n10 P r) (F : Fence) (n : Nat) (h10 : F.fn (r.f 10)) (hro : F.round = none) (l b clock bb off : Nat) (J : List Int → World → Prop) (W : World) (hJ : AbidesFrom W.heap.size J)
    (hm : W.cell? ⟨bb, off, none⟩ = some (.map (some b))) (hb : W.heap[b]? = some (.map #[] clock)) (h0 : J [] W) :
    CallsIn F n P (r.f 10) #[.func (.yield l) #[] #[], .pointer (some ⟨bb, off, none⟩)] W fun e W' => (∃ v, e = .returned v) ∧ ∃ ss : List Int, ss = [] ∧ J ss W' := by
  have mixed := L.mixed; have t0 := L.t0; have a0 := L.a0; have z0 := L.z0; have v0 := L.v0; have t4 := L.t4; have a4 := L.a4; have z4 := L.z4; have v4 := L.v4; have t23 := L.t23; have a23 := L.a23; have z23 := L.z23; have v23 := L.v23; have t26 := L.t26; have a26 := L.a26; have z26 := L.z26; have v26 := L.v26; have t33 := L.t33; have a33 := L.a33; have z33 := L.z33; have v33 := L.v33
  have u0 := run_underlying L.t0; have u4 := run_underlying L.t4; have u23 := run_underlying L.t23; have u26 := run_underlying L.t26; have u33 := run_underlying L.t33
  obtain ⟨_, _, FG⟩ := L.f10
  refine callsIn_of_wp FG rfl h10 ?_ hro
  simp only [SlBodyZ.n10_ntmps r, List.size_toArray, List.length_cons, List.length_nil, Nat.reduceAdd, Nat.reduceSub, Array.replicate_succ, Array.replicate_zero, List.push_toArray, List.append_toArray, List.nil_append, List.cons_append]
  have hrg := run_range_map (P := P) W (r.t 23) (r.t 26) (r.t 3) b #[] clock L.t23 hb
  have hlt : b < W.heap.size := (Array.getElem?_eq_some_iff.1 hb).1
  have hnx : ∀ ty, (Instr.next (.pointer (some ⟨W.heap.size, 0, none⟩)) false ty).run P (W.alloc (.mapIter (some b) clock #[] clock)) = .ok (.tuple #[.bool false]) (W.alloc (.mapIter (some b) clock #[] clock)) := fun ty => by
    have h1 : (W.alloc (.mapIter (some b) clock #[] clock)).heap[W.heap.size]? = some (.mapIter (some b) clock #[] clock) := heap_alloc_new W _
    have h2 : (W.alloc (.mapIter (some b) clock #[] clock)).heap[b]? = some (.map #[] clock) := (heap_alloc_old W _ hlt).trans hb
    generalize W.alloc (.mapIter (some b) clock #[] clock) = W1 at h1 h2
    generalize W.heap.size = nb at h1
    simp [Instr.next, getObj, Sem.run, h1, h2, choose, Question.forced]
  gi_wp2
  refine wpIn_loop_rounds 1 ?_
  rw [roundsIn_succ]
  gi_wp2
  go_end0
  exact ⟨⟨_, rfl⟩, [], rfl, hJ [] W _ none h0 (World.grownBy_alloc W _ none) (fun r e => by cases e)⟩

/-- Is nothing in the map whose place lies there? -/
noncomputable def noKeys (h : H) (i k off : Nat) : Bool := match h.get i with
  | some (.c cells ver _) => bif Nat.beq k ver then (match lget cells off with | some (.m m) => (match h.get m with | some (.m [] _) => true | _ => false) | _ => false) else false
  | _ => false
noncomputable def asR (g : FuncId) (args : List V) (h : H) (nx : Nat) : Option (Option (V × H × Nat)) := match args with
  | [.f (.slice none 0 0), .fn (.func g') [] [.p i k off]] => bif Nat.beq g g' && noKeys h i k off then some (some (.f (.slice none 0 0), h, nx)) else none
  | _ => none
noncomputable def asO (fid g : FuncId) : OrcF := fun fid' args h nx => bif Nat.beq fid' fid then asR g args h nx else none
theorem asO_ok (L10 : SlLaysZI.n10 P r) (L11 : SlLaysZI.n11 P r) (heg : ∀ args w, (callFunc (r.f 10) args).run P w = .ok (.enter (r.f 10) args) w) : OrcOK P (asO (r.f 11) (r.f 10)) := by
  intro fid args h nx v h' nx' he Z ρ us w hargs hh
  unfold asO at he
  cases hb : Nat.beq fid (r.f 11) with
  | false => rw [hb] at he; cases he
  | true =>
  rw [hb, cond_true] at he
  have := beq_eq hb
  subst this
  unfold asR at he
  split at he
  · rename_i g' i k off
    cases hg : (Nat.beq (r.f 10) g' && noKeys h i k off) with
    | false => rw [hg] at he; cases he
    | true =>
    rw [hg, cond_true] at he
    simp only [Option.some.injEq, Prod.mk.injEq] at he
    obtain ⟨rfl, rfl, rfl⟩ := he
    simp only [Bool.and_eq_true] at hg
    have := beq_eq hg.1
    subst this
    obtain ⟨u1, us1, rfl, hv1, u2, us2, rfl, hv2, hv3⟩ := hargs
    have e3 : us2 = [] := hv3
    subst e3
    have e1 : u1 = .slice none 0 0 := hv1
    subst e1
    obtain ⟨ys, zs, rfl, hys, hzs⟩ := hv2
    have e4 : ys = [] := hys
    subst e4
    obtain ⟨z, zs', rfl, hz, hzs'⟩ := hzs
    have e5 : zs' = [] := hzs'
    subst e5
    obtain ⟨rc, hrc, hlo, rfl⟩ := hz
    have hn := hg.2
    unfold noKeys at hn
    split at hn
    · rename_i cells ver mn ho
      cases hk : Nat.beq k ver with
      | false => rw [hk] at hn; cases hn
      | true =>
      rw [hk, cond_true] at hn
      have := beq_eq hk
      subst this
      split at hn
      · rename_i m hget
        split at hn
        · rename_i clock hm
          rw [lget_eq] at hget
          have hmv := (hh.obj i _ ho).1
          obtain ⟨r', hr', hver⟩ := (hh.obj i _ ho).2 k hmv (Nat.le_refl _)
          rw [hrc] at hr'
          cases hr'
          have hL : rc.L = cells.length := hver.last (Nat.beq_refl k)
          have hlt : off < cells.length := (List.getElem?_eq_some_iff.1 hget).1
          obtain ⟨u, hu, hvu⟩ := hh.cell ho hmv (Nat.le_refl k) hrc hlo (by omega) hget
          obtain ⟨rm, hrm, rfl⟩ := hvu
          obtain ⟨rm', es', hrm', hw, hE⟩ := hh.obj m _ hm
          rw [hrm] at hrm'
          cases hrm'
          have hes : es' = #[] := by apply Array.ext'; exact hE
          subst hes
          have hseq : SeqGives Fence.wide 1 P (r.f 10) #[.pointer (some (rc.at off))] encZ (fun ss : List Int => ss = []) 0 w := fun l J W hW hJ _ h0 => by
            have hbl : rm.b < w.heap.size := (Array.getElem?_eq_some_iff.1 hw).1
            have hcl : (rc.at off).block < w.heap.size := hh.lt (live_self ho hmv (Nat.le_refl _)) hrc
            exact keys_empty_in L10 Fence.wide 1 trivial rfl l rm.b clock (rc.at off).block (rc.at off).off J W hJ ((hW.cell (p := rc.at off) hcl).trans hu) ((hW.block _ hbl).trans hw) h0
          have hcall := AnyZI.appendSeq_in L11 Fence.wide 2 trivial rfl (Nat.le_refl _) (r.f 10) #[.pointer (some (rc.at off))] trivial heg (fun ss : List Int => ss = []) 0 (Nat.zero_le _) (Nat.zero_le _) w hseq
          refine (callsIn_wide.1 hcall).mono ?_
          rintro e w' ⟨v, ss, rfl, rfl, _, hnil, hbelow⟩
          refine ⟨ρ, v, rfl, Rho.le.refl ρ, hnil.2 rfl, hh.keep ?_ fun j hj => hbelow.block j hj⟩
          show w'.env = w.env
          unfold World.env
          rw [hbelow.os, hbelow.tape, hbelow.output]
        · cases hn
      · cases hn
    · cases hn
  · cases he
end
end Go.Ax
