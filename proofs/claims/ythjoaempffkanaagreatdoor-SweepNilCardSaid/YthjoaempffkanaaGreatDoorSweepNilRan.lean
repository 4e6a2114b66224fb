/- The abstract machine runs the law over the given program, piece by piece, and comes to true. No condition. -/
import Derived.Test.YthjoaempffkanaaGreatDoorProg
import Derived.KernelRfl
import Derived.Test.YthjoaempffkanaaGreatDoorSweepNilCkTAA
import Derived.Test.YthjoaempffkanaaGreatDoorSweepNilCkTAB
import Derived.Test.YthjoaempffkanaaGreatDoorSweepNilCkTAC
import Derived.Test.YthjoaempffkanaaGreatDoorSweepNilCkTAD
import Derived.Test.YthjoaempffkanaaGreatDoorSweepNilCkTAE
import Derived.Test.YthjoaempffkanaaGreatDoorSweepNilCkTAF
import Derived.Test.YthjoaempffkanaaGreatDoorSweepNilCkTAG
import Derived.Test.YthjoaempffkanaaGreatDoorSweepNilCkTAH
import Derived.Test.YthjoaempffkanaaGreatDoorSweepNilCkTAI
import Derived.Test.YthjoaempffkanaaGreatDoorSweepNilCkTAJ
import Derived.Test.YthjoaempffkanaaGreatDoorSweepNilCkTAK
import Derived.Test.YthjoaempffkanaaGreatDoorSweepNilCkTAL
import Derived.Test.YthjoaempffkanaaGreatDoorSweepNilCkTAM
import Derived.Test.YthjoaempffkanaaGreatDoorSweepNilCkTAN
import Derived.Test.YthjoaempffkanaaGreatDoorSweepNilCkTAO
import Derived.Test.YthjoaempffkanaaGreatDoorSweepNilCkTAP
import Derived.Test.YthjoaempffkanaaGreatDoorSweepNilCkTAQ
import Derived.Test.YthjoaempffkanaaGreatDoorSweepNilCkTAR
import Derived.Test.YthjoaempffkanaaGreatDoorSweepNilCkTAS
import Derived.Test.YthjoaempffkanaaGreatDoorSweepNilCkTAT
import Derived.Test.YthjoaempffkanaaGreatDoorSweepNilCkTAU
import Derived.Test.YthjoaempffkanaaGreatDoorSweepNilCkTAV
import Derived.Test.YthjoaempffkanaaGreatDoorSweepNilCkTAW
namespace Go.Proofs.YthjoaempffkanaaGreatDoor.Am
open Go.Proofs Go.RowKit

set_option maxRecDepth 100000

theorem sweepNil_start : startW Tryz.prog 3 vars0 = some (startS Tryz.prog 3 vars0) := by kernel_rfl

/-- THE LAST PIECE. -/
theorem sweepNil_end : allTrue (chunk Tryz.prog 100000000 ck72.st) = true := by kernel_rfl

theorem sweepNil_globs : (globIds.all fun g => vars0.any fun x => Nat.beq g x.1) = true := by kernel_rfl

theorem sweepNil_calls (w : World) (hw : VarsR w vars0) : Calls Tryz.prog 3 #[] w fun e w' => e = .returned (.bool true) ∧ Below w.heap.size w w' :=
  pieces_calls sweepNil_start sweepNil_globs ck72.st (Ck.lim _) (fun _ _ _ _ hR h => ck_next (b := ck72) hR (startS_lim _ _ _) (Ck.lim _) (ck_next (b := ck69) hR (startS_lim _ _ _) (Ck.lim _) (ck_next (b := ck67) hR (startS_lim _ _ _) (Ck.lim _) (ck_next (b := ck63) hR (startS_lim _ _ _) (Ck.lim _) (ck_next (b := ck59) hR (startS_lim _ _ _) (Ck.lim _) (ck_next (b := ck55) hR (startS_lim _ _ _) (Ck.lim _) (ck_next (b := ck52) hR (startS_lim _ _ _) (Ck.lim _) (ck_next (b := ck49) hR (startS_lim _ _ _) (Ck.lim _) (ck_next (b := ck45) hR (startS_lim _ _ _) (Ck.lim _) (ck_next (b := ck41) hR (startS_lim _ _ _) (Ck.lim _) (ck_next (b := ck37) hR (startS_lim _ _ _) (Ck.lim _) (ck_next (b := ck34) hR (startS_lim _ _ _) (Ck.lim _) (ck_next (b := ck31) hR (startS_lim _ _ _) (Ck.lim _) (ck_next (b := ck27) hR (startS_lim _ _ _) (Ck.lim _) (ck_next (b := ck24) hR (startS_lim _ _ _) (Ck.lim _) (ck_next (b := ck20) hR (startS_lim _ _ _) (Ck.lim _) (ck_next (b := ck16) hR (startS_lim _ _ _) (Ck.lim _) (ck_next (b := ck12) hR (startS_lim _ _ _) (Ck.lim _) (ck_next (b := ck9) hR (startS_lim _ _ _) (Ck.lim _) (ck_next (b := ck6) hR (startS_lim _ _ _) (Ck.lim _) (ck_next (b := ck4) hR (startS_lim _ _ _) (Ck.lim _) (ck_next (b := ck3) hR (startS_lim _ _ _) (Ck.lim _) (ck_next (b := ck2) hR (startS_lim _ _ _) (startS_lim _ _ _) (h) ck2_ran) ck3_ran) ck4_ran) ck6_ran) ck9_ran) ck12_ran) ck16_ran) ck20_ran) ck24_ran) ck27_ran) ck31_ran) ck34_ran) ck37_ran) ck41_ran) ck45_ran) ck49_ran) ck52_ran) ck55_ran) ck59_ran) ck63_ran) ck67_ran) ck69_ran) ck72_ran) sweepNil_end w hw
end Go.Proofs.YthjoaempffkanaaGreatDoor.Am
