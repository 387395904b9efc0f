-- Written by a program of this work (wip/tools/pr.py), out of the translation. Not trusted: Lean checks it.
import Derived.Test.YticokbmafhpebaaProg
import Derived.Below
import Derived.Deep.Draws
import Derived.Deep.AppendLies
import Derived.Maps.AppendAt
import Derived.OwnWalk
import Derived.Laws.BytesArg
import Derived.Laws.MakeOwn
import Derived.Laws.OwnMore
import Derived.Deep.OwnRows
import Derived.Tactics
import Derived.Lib.ConvBytes
import Derived.Laws.Slices
import Derived.WalkKit
import Derived.KernelRfl
import Derived.RowKit3
import Derived.Deep.LoopGhost
import Derived.Deep.QuietTactic
import Derived.BigQuiet
import Derived.WideLaws
import Derived.Deep.DeepCutAuto
import Derived.Deep.CutBlock
import Derived.Deep.RegionHeld3
import Derived.Laws.Rows
import Derived.Lib.AppendStr
import Derived.ArgAppend
import Derived.Laws.IdiomCopy
import Derived.OrdersHeld
import Derived.Laws.BitsLemmas
import Derived.RowKit
import Derived.Test.YticokbmafhpebaaSortI
import Derived.Test.YticokbmafhpebaaWWords
import Derived.Test.YticokbmafhpebaaWLast
import Derived.Test.YticokbmafhpebaaWTab
import Derived.Test.YticokbmafhpebaaWFour
import Derived.Test.YticokbmafhpebaaWQPut
import Derived.Test.YticokbmafhpebaaWApart
import Derived.Test.YticokbmafhpebaaWArr
import Derived.Test.YticokbmafhpebaaWZeros
import Derived.Test.YticokbmafhpebaaWFoot
import Derived.Test.YticokbmafhpebaaWKept
import Derived.Test.YticokbmafhpebaaWShare
import Derived.Test.YticokbmafhpebaaWN
import Derived.Test.YticokbmafhpebaaWFootNe
import Derived.Test.YticokbmafhpebaaWAt
import Derived.Test.YticokbmafhpebaaWEqStruct
import Derived.Test.YticokbmafhpebaaWRepsOne
import Derived.Test.YticokbmafhpebaaWInv
import Derived.Test.YticokbmafhpebaaWInvWords
import Derived.Test.YticokbmafhpebaaWGuard
import Derived.Test.YticokbmafhpebaaWNEv
import Derived.Test.YticokbmafhpebaaWMore
import Derived.Test.YticokbmafhpebaaXw
namespace Go.Proofs.Yticokbmafhpebaa.PLengths
open Go.RowKit Go.Proofs.YticokbmafhpebaaW.PrintWords Go.Proofs.YticokbmafhpebaaW.PrintLast Go.Proofs.YticokbmafhpebaaW.PrintMore
attribute [local go_sem] max2_int min2_int max_two min_two max_three min_three max_four min_four   -- for this text's walks alone
set_option linter.unusedVariables false
set_option linter.unusedSimpArgs false



def errW : Option Int → Value
  | none => .nilIface
  | some c => .iface 0 (.int .i64 c)
theorem errW_none : errW none = .nilIface := rfl
theorem errW_some (c : Int) : errW (some c) = .iface 0 (.int .i64 c) := rfl

theorem info3 : (Try.prog.info? 3).map (fun i => (i.zero, i.size, i.bytes)) = some (some (.int .i64 0), 1, 8) := by kernel_rfl
theorem info4 : (Try.prog.info? 4).map (fun i => (i.zero, i.size, i.bytes)) = some (some (.bool false), 1, 1) := by kernel_rfl
theorem info43 : (Try.prog.info? 43).map (fun i => (i.zero, i.size, i.bytes)) = some (some (.slice none 0 0), 1, 24) := by kernel_rfl
-- the values' own types
def rd_L2 (xs : List (List Bool)) (i : Int) : (List Bool) := xs.getD i.toNat ([] : List Bool)
theorem at_L2 {w : World} {A : Option Addr} {n : Nat} {xs : List (List Bool)} (h : Kd.C (Kd.slice 4 Kd.bool) w A n xs) (i : Int) (h0 : 0 ≤ i) (h1 : i < n) : ∃ ad A0 c0, A = some ad ∧ w.cell? (ad.add i.toNat) = some (.slice A0 (rd_L2 xs i).length c0) ∧ (rd_L2 xs i).length ≤ c0 ∧ Kd.bool.C w A0 (rd_L2 xs i).length (rd_L2 xs i) := by
  obtain ⟨ad, c, e, _, hK, hc0⟩ := Kd.C_get h ([] : List Bool) i h0 h1
  have hc : ∀ j u, c[j]? = some u → w.cell? (ad.add (i.toNat * 1 + j)) = some u := hc0
  obtain ⟨A0, c0, rfl, l0, g0⟩ := hK
  exact ⟨ad, A0, c0, e, by have hq := hc 0 _ rfl; rwa [Nat.mul_one, Nat.add_zero] at hq, l0, g0⟩

end Go.Proofs.Yticokbmafhpebaa.PLengths
