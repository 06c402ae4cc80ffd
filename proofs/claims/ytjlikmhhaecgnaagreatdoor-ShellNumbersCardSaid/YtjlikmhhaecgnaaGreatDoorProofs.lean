/- The law strongroomlaw26.ShellNumbers returns true (chapter 26's runs, one for each refusal): the tied card 'ShellNumbersCardSaid'. Condition: the listed package variables of Go's library hold what the program's text lays (tied by the card). The run is done by the kernel on abstract worlds (BxP.closedCall): so it holds in every world and on every tape. -/
import Derived.Test.YtjlikmhhaecgnaaGreatDoorCards
import Derived.Test.YtjlikmhhaecgnaaGreatDoorTie
import Derived.Test.YtjlikmhhaecgnaaGreatDoorBxP
import Derived.Test.YtjlikmhhaecgnaaGreatDoorK6
import Derived.Test.YtjlikmhhaecgnaaGreatDoorJ1
import Derived.Test.YtjlikmhhaecgnaaGreatDoorJ2
import Derived.Test.YtjlikmhhaecgnaaGreatDoorJ3
import Derived.Test.YtjlikmhhaecgnaaGreatDoorJ4
import Derived.Test.YtjlikmhhaecgnaaGreatDoorJ5
import Derived.ProofKit
import Derived.OpenShut
import Derived.LaidMore
import Derived.Lay
import Derived.SevenTiedAt
import Derived.Stop.Joined
namespace Go.Proofs.YtjlikmhhaecgnaaGreatDoor
set_option linter.unusedVariables false
open Go Go.ChangeShapes Go.WideShapes Go.ChangeAt Go.RowKit

theorem own : ownKnob Tryz.prog.godebug = none := by kernel_rfl

theorem walk (w : World) : Calls Tryz.prog 3 #[] w fun e w' => e = .returned (.bool true) ∧ w.keptBut w' (fun _ => False) :=
  (Ax.closedCall Ax.o3_ok Ax.runD w).mono fun _ _ ⟨he, henv, hk⟩ => ⟨he, Ax.kept_of henv hk _⟩

set_option maxRecDepth 100000 in
theorem lifted (os : Os) (started : os.Started) (H : Type) (enc : TypeId × Value → H) :
    ReturnsInHanded {} Tryz.checked os 3 .any (fun w args => (Rows.shellNumbersSpec.pre enc Tryz.prog Tryz.f3 Rows.shellNumbersRow.domain false w args ∧ laidMetH Tryz.prog Rows.shellNumbersRow.laid w) ∧ sizedMet enc Tryz.prog Tryz.f3 (OpenSpec.ofChange Rows.shellNumbersSpec) false w args)
      (Rows.shellNumbersSpec.post enc Tryz.prog Tryz.f3 false true false false) := by
  refine returnsInHanded_of_change_and (C := Tryz.checked) (X := fun w _ => laidMetH Tryz.prog Rows.shellNumbersRow.laid w) (fun _ _ _ hh h => h.of_heap hh) own started (by kernel_rfl) Tryz.func3
    (ChangeSpec.witness_shaped (enc := enc) (C := Tryz.checked) (os := os) (X := fun w _ => laidMetH Tryz.prog Rows.shellNumbersRow.laid w) false (World.laidAll Tryz.prog os Rows.shellNumbersRow.laid) #[] 8 (World.laidAll_os _ _ _)
      (World.shaped_of_ZipB (by kernel_rfl) (by kernel_rfl)) (by kernel_rfl) (by kernel_rfl) (by kernel_rfl)
      (by rw [MakeChecks.laidMetH_plain _ _ _ (by kernel_rfl)]; exact laidMet_laidAll _ (by kernel_rfl) (by kernel_rfl))) ?_
  intro W base args ds gs before _ hW _ _ _ _
  have hW' := hW
  obtain ⟨p, q, hA0, hV, rfl, _, _⟩ := hW
  have hA : DataW.TrodAll enc Tryz.prog W 0 (fun _ => true) true Tryz.f3.params.toList args.toList ds p := hA0
  rw [Tryz.params3] at hA
  obtain ⟨rfl, rfl, rfl⟩ := trodAll_none hA
  obtain ⟨rfl, rfl⟩ := trodVars_none hV
  clear hA0
  simp only [List.append_nil] at hW'
  refine (walk W).mono fun e W' ⟨he, hk⟩ => ?_
  subst he
  exact ⟨_, rfl, [], [], [], [], [], [], hW', trodAll_cons_mk (shut_bool Tryz.underlying4 _) trodAll_mk0, rfl, rfl, World.keptBut_mono (fun _ f => f.elim) hk, fun h => by cases h⟩

theorem closed_facts : joinedFacts Tryz.prog 3 Tryz.f3 Rows.shellNumbersSpec Rows.shellNumbersRow = true := by
  unfold joinedFacts
  rw [j_inPlace, j_unf, j_rec, j_named]
  kernel_rfl

theorem shellNumbers_holds : Rows.ShellNumbersSaid :=
  OpenClaim.holds_of_wide 3 Tryz.f3 rfl rfl rfl rfl rfl rfl rfl ⟨rfl, rfl, rfl, rfl, rfl⟩ rfl rfl rfl rfl rfl (by kernel_rfl) Tryz.func3 closed_facts
    (of_decide_eq_true (by kernel_rfl)) (by unfold Func.isWrapper; first | (rw [if_pos (by decide +kernel)]; kernel_rfl) | (rw [if_neg (by decide +kernel)]; exact ⟨rfl, rfl⟩))
    (fun os started H enc _ => lifted os started H enc)

theorem shellNumbers_card : Rows.ShellNumbersCardSaid :=
  Claim7.holds_tied_plain_at .later [] [.data, .data, .data, .data, .pinned] true (true, "790bfff0955bf8f149b9aa2b66e9cb3703140ce813597fee9aa8113ab64884a0") false shellNumbers_holds (fun _ h => by cases h) (by kernel_rfl) (fun _ h => by cases h) shellNumbers_row_tie rfl ⟨rfl, rfl⟩ (by kernel_rfl) rfl
    (fun f fn hf hfn => by
      obtain rfl : f = 3 := Option.some.inj ((show Tryz.prog.funcNamed "strongroom/strongroomlaw26.ShellNumbers" = some 3 by kernel_rfl).symm.trans hf) |>.symm
      obtain rfl : fn = Tryz.f3 := (Option.some.inj (Tryz.func3.symm.trans hfn)).symm
      exact ⟨by kernel_rfl, fun j t ht => by
        rw [Tryz.params3] at ht
        simp at ht⟩)
    j_goes
#print axioms shellNumbers_card
end Go.Proofs.YtjlikmhhaecgnaaGreatDoor
