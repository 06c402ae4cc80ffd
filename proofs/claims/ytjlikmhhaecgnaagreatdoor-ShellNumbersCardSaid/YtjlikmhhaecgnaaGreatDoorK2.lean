/- A part of a closed run that the kernel does on abstract worlds. -/
import Derived.Test.YtjlikmhhaecgnaaGreatDoorBxE
import Derived.Test.YtjlikmhhaecgnaaGreatDoorProg
namespace Go.Ax
set_option linter.unusedVariables false
open Go.Proofs Go.Shelf
def rn : Ren := ⟨fun n => match n with | 10 => 305 | 11 => 321 | n => n, fun n => match n with | 0 => 0 | 3 => 3 | 4 => 4 | 23 => 157 | 24 => 37 | 26 => 3 | 28 => 355 | 33 => 99 | n => n, fun n => n⟩
theorem l10 : SlLaysZI.n10 Tryz.prog rn where
  mixed := by kernel_rfl
  f10 := ⟨"maps.Keys[map[int]int,int,int]$1", by decide, by kernel_rfl⟩
  t0 := by kernel_rfl
  a0 := isAggA_run (by kernel_rfl)
  z0 := sizeA_run (by kernel_rfl)
  v0 := zeroA_run (by kernel_rfl)
  t4 := by kernel_rfl
  a4 := isAggA_run (by kernel_rfl)
  z4 := sizeA_run (by kernel_rfl)
  v4 := zeroA_run (by kernel_rfl)
  t23 := by kernel_rfl
  a23 := isAggA_run (by kernel_rfl)
  z23 := sizeA_run (by kernel_rfl)
  v23 := zeroA_run (by kernel_rfl)
  t26 := by kernel_rfl
  a26 := isAggA_run (by kernel_rfl)
  z26 := sizeA_run (by kernel_rfl)
  v26 := zeroA_run (by kernel_rfl)
  t33 := by kernel_rfl
  a33 := isAggA_run (by kernel_rfl)
  z33 := sizeA_run (by kernel_rfl)
  v33 := zeroA_run (by kernel_rfl)
theorem l11 : SlLaysZI.n11 Tryz.prog rn where
  mixed := by kernel_rfl
  f11 := ⟨"slices.AppendSeq[[]int,int]", by decide, by kernel_rfl⟩
  t0 := by kernel_rfl
  a0 := isAggA_run (by kernel_rfl)
  z0 := sizeA_run (by kernel_rfl)
  v0 := zeroA_run (by kernel_rfl)
  t24 := by kernel_rfl
  a24 := isAggA_run (by kernel_rfl)
  z24 := sizeA_run (by kernel_rfl)
  v24 := zeroA_run (by kernel_rfl)
  t26 := by kernel_rfl
  a26 := isAggA_run (by kernel_rfl)
  z26 := sizeA_run (by kernel_rfl)
  v26 := zeroA_run (by kernel_rfl)
  t28 := by kernel_rfl
  a28 := isAggA_run (by kernel_rfl)
  z28 := sizeA_run (by kernel_rfl)
  v28 := zeroA_run (by kernel_rfl)
  i26 := by kernel_rfl
noncomputable def o1 : OrcF := asO 321 305
theorem o1_ok : OrcOK Tryz.prog o1 := asO_ok (r := rn) l10 l11 (okFn_run (by kernel_rfl))
noncomputable def nilRep : Value := .agg #[.int .i64 0, .slice none 0 0, .slice none 0 0]
noncomputable def oA : OrcF := flatO 6 [.int .i64 3, .slice none 0 0] nilRep
noncomputable def oB : OrcF := flatO 6 [.int .i64 1, .slice none 0 0] nilRep
end Go.Ax
