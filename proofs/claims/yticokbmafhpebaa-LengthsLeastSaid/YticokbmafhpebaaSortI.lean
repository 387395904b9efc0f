/- The stable sort of symbols, at twenty or fewer: what slices.insertionSortCmpFunc[int], stableCmpFunc[int], SortStableFunc[[]int,int] make of a row of the call's own; cmp by its contract. (After the kit's worked text of insertionSortCmpFunc.) -/
import Derived.Test.YticokbmafhpebaaProg
import Derived.Sort.Row
import Derived.Sort.Grow
import Derived.Sort.LotA
import Derived.Sort.WalkA
import Derived.Sort.WalkC
import Derived.Deep.LoopGhost
import Derived.Deep.QuietTactic
import Derived.BigQuiet
import Derived.BigRegion
import Derived.WalkKit
import Derived.Laws.BitsLemmas
import Derived.Lib.Small
import Derived.Shelf.Abstract
set_option linter.unusedVariables false
namespace Go.Proofs.Yticokbmafhpebaa.SortI
open Go.RowKit Go.Lib Go.Sort
variable {α : Type} [Inhabited α]

def ltOf (cf : α → α → Int) (x y : α) : Bool := decide (cf x y < 0)

/-- What is asked of cmp (function g, bound to cb): in every world that the sort passes through it hands back cf x y; it may draw; it turns nothing. -/
def CmpR (g : Nat) (cb : Array Value) (enc : α → Value) (cf : α → α → Int) (blk off size : Nat) (w : World) : Prop :=
  ∀ (X : Array α), X.size = size → ∀ (x y : α) (m : Nat),
    Calls Try.prog g (#[enc x, enc y] ++ cb) ((putRow enc w blk off X).drewN m) fun e w' => e = .returned (.int .i64 (cf x y)) ∧ ∃ q, w' = ((putRow enc w blk off X).drewN m).drewN q

set_option maxHeartbeats 4000000 in
set_option maxRecDepth 1000000 in
theorem insertion (f : α → Int) (cf : α → α → Int) (g : Nat) (cb : Array Value) (blk off cap a b : Nat) (d : Array α) (w : World)
    (eg : ∀ args w, (callFunc g args).run Try.prog w = .ok (.enter g args) w) (hcmp : CmpR g cb (fun x => Value.int .i64 (f x)) cf blk off d.size w) (hH : Holds (fun x => Value.int .i64 (f x)) w blk off d) (hab : a ≤ b) (hb : b ≤ d.size) (hsz : d.size < 4611686018427387904) :
    Calls Try.prog 22 #[.slice (some ⟨blk, off, none⟩) d.size cap, .int .i64 a, .int .i64 b, .func (.func g) #[] cb] w fun e w' =>
      e = .returned (.tuple #[]) ∧ ∃ n, w' = (putRow (fun x => Value.int .i64 (f x)) w blk off (Sort.insertionSort (ltOf cf) d a b)).drewN n := by
  obtain ⟨enc, henc⟩ : ∃ enc : α → Value, enc = (fun x => Value.int .i64 (f x)) := ⟨_, rfl⟩
  have hcl0 : ∀ x, Value.cells (enc x) = #[enc x] := fun x => by rw [henc]; rfl
  have hst : ∀ (x : α) (a : Addr) (m : Mode) (w : World), Sem.run Try.prog (store a (enc x) m) w = stored Try.prog w a (enc x) m := fun x a m w => run_store Try.prog w a _ m (by rw [henc]; rfl)
  rw [← henc] at hcmp hH ⊢
  clear henc
  simp only [Value.cells] at hcl0
  have hcAt : ∀ (X : Array α) (x y : α), X.size = d.size → ∀ m n, Calls Try.prog g (#[enc x, enc y] ++ cb) (((putRow enc w blk off X).drewN m).drewN n) fun e w' => e = .returned (.int .i64 (cf x y)) ∧ ∃ q, w' = (((putRow enc w blk off X).drewN m).drewN n).drewN q := fun X x y hX m n => by
    rw [World.drewN_drewN]
    exact hcmp X hX x y (m + n)
  have HC : Aside _ := hcAt
  have HST : Hid (w = (putRow enc w blk off d).drewN 0) := (putRow_self enc w blk off d hH).symm
  have HH : Hid (Holds enc w blk off d) := hH
  clear hcAt hcmp hH
  go_enter Try.func22, Try.ntmps22
  go_wp2
  go_loopg [8] (b - a) (fun g1 vi wr => ∃ (i n : Nat) (dk : Array α), vi = .int .i64 i ∧ a < i ∧ i ≤ b + 1 ∧ b + 1 - i ≤ g1 + 1 ∧ dk.size = d.size ∧ wr = (putRow enc w blk off dk).drewN n ∧ Hid (insOuter (ltOf cf) a b i dk = insOuter (ltOf cf) a b (a + 1) d))
  case atStart => exact ⟨a + 1, 0, d, by go_num, by omega, by omega, by omega, rfl, HST.out, rfl⟩
  case round =>
    obtain ⟨i, n, dk, rfl, hai, hib, hg1, hsk, rfl, HO⟩ := hrel
    by_cases hlt : i < b
    · have hltz : (i : Int) < (b : Int) := by omega
      go_wp2
      go_loopg [9] i (fun g2 vj wr2 => ∃ (j m : Nat) (dj : Array α), vj = .int .i64 j ∧ a ≤ j ∧ j ≤ i ∧ j ≤ g2 ∧ dj.size = d.size ∧ wr2 = (putRow enc w blk off dj).drewN m ∧ Hid (insInner (ltOf cf) a j dj = insInner (ltOf cf) a i dk))
      case atStart => exact ⟨i, n, dk, rfl, by omega, Nat.le_refl _, Nat.le_refl _, hsk, rfl, rfl⟩
      case round =>
        obtain ⟨j, m, dj, rfl, haj, hji, hg2, hsj, rfl, HI⟩ := hrel
        have out : (j ≤ a ∨ ltOf cf dj[j]! dj[j - 1]! = false) → Hid (insOuter (ltOf cf) a b (i + 1) dj = insOuter (ltOf cf) a b (a + 1) d) := fun hs => by
          show _ = _
          rw [← HO.out, insOuter_go _ _ _ _ _ hlt, ← HI.out, insInner_stop _ _ _ _ hs]
        have OUT : Aside _ := out
        clear out
        by_cases hja : a < j
        · have hjaz : (a : Int) < (j : Int) := by omega
          have hHj := holds_putRow enc w blk off d dj HH.out hsj
          obtain ⟨xj, hxj⟩ : ∃ x, dj[j]! = x := ⟨_, rfl⟩
          obtain ⟨xp, hxp⟩ : ∃ x, dj[j - 1]! = x := ⟨_, rfl⟩
          obtain ⟨cj, fj⟩ := hHj j (by omega)
          obtain ⟨cp, fp⟩ := hHj (j - 1) (by omega)
          rw [hxj] at cj
          rw [hxp] at cp
          obtain ⟨jp, rfl⟩ : ∃ jp, j = jp + 1 := ⟨j - 1, by omega⟩
          simp only [Nat.add_sub_cancel] at cp fp hxp
          have hwp : IntKind.i64.wrap (jp : Int) = (jp : Int) := by rw [IntKind.wrap_i64]; omega
          have jz : (jp : Int) + 1 < (d.size : Int) := by omega
          have jz1 : (jp : Int) < (d.size : Int) := by omega
          have hjaz' : (a : Int) < (jp : Int) + 1 := by omega
          have p0 : (0 : Int) ≤ (jp : Int) + 1 := by omega
          have e0 : ((jp : Int) + 1).toNat = jp + 1 := by omega
          have hc := HC.out dj xj xp hsj m
          clear hHj
          have cj' : ((putRow enc w blk off dj).drewN m).cell? ⟨blk, off + (jp + 1), none⟩ = some (enc xj) := cj
          have cp' : ((putRow enc w blk off dj).drewN m).cell? ⟨blk, off + jp, none⟩ = some (enc xp) := cp
          have fj' : ((putRow enc w blk off dj).drewN m).frozen? ⟨blk, off + (jp + 1), none⟩ = false := fj
          have fp' : ((putRow enc w blk off dj).drewN m).frozen? ⟨blk, off + jp, none⟩ = false := fp
          clear cj cp fj fp
          generalize hwq : (putRow enc w blk off dj).drewN m = wq at cj' cp' fj' fp' hc ⊢
          by_cases hlv : cf xj xp < 0
          · go_wp2_with fail
            go_quiet ((refine Calls.quiet_of (hc _)))
            go_wp2_with fail
            have hw2 : wq.drewN nq = (putRow enc w blk off dj).drewN (m + nq) := by rw [← hwq, World.drewN_drewN]
            have cj2 : (wq.drewN nq).cell? ⟨blk, off + (jp + 1), none⟩ = some (enc xj) := cj'
            have cp2 : (wq.drewN nq).cell? ⟨blk, off + jp, none⟩ = some (enc xp) := cp'
            have fj2 : (wq.drewN nq).frozen? ⟨blk, off + (jp + 1), none⟩ = false := fj'
            have fp2 : (wq.drewN nq).frozen? ⟨blk, off + jp, none⟩ = false := fp'
            clear cj' cp' fj' fp' hc
            generalize wq.drewN nq = wq2 at hw2 cj2 cp2 fj2 fp2 ⊢
            obtain ⟨j1, hj1⟩ : ∃ j1, j1 = jp + 1 := ⟨_, rfl⟩
            rw [← hj1] at cj2 fj2 e0
            have J1 : Hid (j1 = jp + 1) := hj1
            have HW2 : Hid (wq2 = (putRow enc w blk off dj).drewN (m + nq)) := hw2
            clear hj1 hw2
            go_big_region
            all_goals go_wp2
            go_roundg jp
            case measure => omega
            case rel =>
              refine ⟨jp, m + nq + 1, swp dj (jp + 1) jp, by first | rfl | go_num | (congr 1; omega), by omega, by omega, Nat.le_refl _, by rw [size_swp]; exact hsj, ?_, (show Hid _ from ?_)⟩
              · rw [J1.out, HW2.out, ← hxp, ← hxj]
                exact swap_worldC enc w blk off dj (m + nq) (jp + 1) jp (by omega) (by omega)
              · show _ = _
                have := insInner_go (ltOf cf) a (jp + 1) dj hja (by simp only [Nat.add_sub_cancel]; rw [hxj, hxp]; exact decide_eq_true hlv)
                simp only [Nat.add_sub_cancel] at this
                rw [← HI.out, this]
          · go_wp2_with fail
            go_quiet ((refine Calls.quiet_of (hc _)))
            go_wp2
            go_roundg (b - (i + 1))
            case measure => omega
            case rel => exact ⟨i + 1, _, dj, by go_num, by omega, by omega, by omega, hsj, by rw [← hwq, World.drewN_drewN], OUT.out (Or.inr (by simp only [Nat.add_sub_cancel]; rw [hxj, hxp]; exact decide_eq_false (by omega)))⟩
        · have hjaz : decide ((j : Int) > (a : Int)) = false := decide_eq_false (by omega)
          have hjaz' : ¬ (a : Int) < (j : Int) := by omega
          generalize hwq : (putRow enc w blk off dj).drewN m = wq
          go_wp2_with fail
          go_big_region
          all_goals go_wp2
          go_roundg (b - (i + 1))
          case measure => omega
          case rel => exact ⟨i + 1, _, dj, by go_num, by omega, by omega, by omega, hsj, (show _ = (putRow enc w blk off dj).drewN (m + 1) from by first | rfl | (rw [← hwq]; rfl)), OUT.out (Or.inl (by omega))⟩
    · have hltz : ¬ (i : Int) < (b : Int) := by omega
      go_wp2
      go_end0
      exact ⟨rfl, n, by unfold Sort.insertionSort; rw [← HO.out, insOuter_stop _ _ _ _ _ hlt]⟩

set_option maxHeartbeats 2000000 in
set_option maxRecDepth 100000 in
/-- fewer than twenty: one insertion sort -/
theorem stable_small (f : α → Int) (cf : α → α → Int) (g : Nat) (cb : Array Value) (blk off cap : Nat) (d : Array α) (w : World)
    (eg : ∀ args w, (callFunc g args).run Try.prog w = .ok (.enter g args) w) (hcmp : CmpR g cb (fun x => Value.int .i64 (f x)) cf blk off d.size w) (hH : Holds (fun x => Value.int .i64 (f x)) w blk off d) (hsz : d.size < 20) :
    Calls Try.prog 19 #[.slice (some ⟨blk, off, none⟩) d.size cap, .int .i64 d.size, .func (.func g) #[] cb] w fun e w' =>
      e = .returned (.tuple #[]) ∧ ∃ n, w' = (putRow (fun x => Value.int .i64 (f x)) w blk off (Sort.insertionSort (ltOf cf) d 0 d.size)).drewN n := by
  have hi := insertion f cf g cb blk off cap 0 d.size d w eg hcmp hH (Nat.zero_le _) (Nat.le_refl _) (by omega)
  clear hH hcmp
  have n1 : decide ((20 : Int) ≤ (d.size : Int)) = false := decide_eq_false (by omega)
  have n2 : decide ((20 : Int) < (d.size : Int)) = false := decide_eq_false (by omega)
  have n3 : ¬ ((20 : Int) ≤ (d.size : Int)) := by omega
  have n4 : ¬ ((20 : Int) < (d.size : Int)) := by omega
  go_enter Try.func19, Try.ntmps19
  go_wp2
  refine wp_loop_rounds 1 ?_
  rw [rounds_succ]
  go_wp2_with (go_at_call 22; refine hi.mono ?_; rintro e w' ⟨rfl, n, rfl⟩)
  refine wp_loop_rounds 1 ?_
  rw [rounds_succ]
  go_wp2
  (try simp only [Exit.inBlock, Exit.then]); first | go_end0 | (refine bodyPost_ret (results_none rfl _ _ _) rfl ?_)
  exact ⟨rfl, n, rfl⟩

set_option maxHeartbeats 2000000 in
set_option maxRecDepth 100000 in
theorem sortStable_small (f : α → Int) (cf : α → α → Int) (g : Nat) (cb : Array Value) (blk off cap : Nat) (d : Array α) (w : World)
    (eg : ∀ args w, (callFunc g args).run Try.prog w = .ok (.enter g args) w) (hcmp : CmpR g cb (fun x => Value.int .i64 (f x)) cf blk off d.size w) (hH : Holds (fun x => Value.int .i64 (f x)) w blk off d) (hsz : d.size < 20) :
    Calls Try.prog 13 #[.slice (some ⟨blk, off, none⟩) d.size cap, .func (.func g) #[] cb] w fun e w' =>
      e = .returned (.tuple #[]) ∧ ∃ n, w' = (putRow (fun x => Value.int .i64 (f x)) w blk off (Sort.insertionSort (ltOf cf) d 0 d.size)).drewN n := by
  have hi := stable_small f cf g cb blk off cap d w eg hcmp hH hsz
  clear hH hcmp
  go_enter Try.func13, Try.ntmps13
  go_wp2_with (go_at_call 19; refine hi.mono ?_; rintro e w' ⟨rfl, n, rfl⟩)
  go_end0
  exact ⟨rfl, n, rfl⟩

/-! ### cmp.Compare, and the closure of lengths.Make -/
theorem isNaN (x : Int) (w : World) : Calls Try.prog 20 #[.int .i64 x] w fun e w' => e = .returned (.bool false) ∧ w' = w := by
  go_enter Try.func20, Try.ntmps20
  go_wp2
  go_ret
  exact ⟨by simp, rfl⟩
set_option maxHeartbeats 1000000 in
theorem cmpInt (x y : Int) (w : World) : Calls Try.prog 15 #[.int .i64 x, .int .i64 y] w fun e w' => e = .returned (.int .i64 (Lib.compareInt x y)) ∧ w' = w := by
  go_enter Try.func15, Try.ntmps15
  go_wp2_with (go_at_call 20; refine (isNaN _ _).mono ?_; rintro e w' ⟨rfl, hw⟩; rw [hw])
  all_goals (go_ret; refine ⟨?_, rfl⟩; unfold Lib.compareInt; (repeat' split) <;> first | rfl | (exfalso; omega))
set_option maxHeartbeats 1000000 in
theorem closure (B : Nat) (ad : Addr) (n c : Nat) (x y u v : Int) (W : World) (hbox : W.cell? ⟨B, 0, none⟩ = some (.slice (some ad) n c)) (hcx : W.cell? (ad.add x.toNat) = some (.int .i64 u)) (hcy : W.cell? (ad.add y.toNat) = some (.int .i64 v))
    (x0 : 0 ≤ x) (x1 : x < n) (y0 : 0 ≤ y) (y1 : y < n) :
    Calls Try.prog 14 #[.int .i64 x, .int .i64 y, .pointer (some ⟨B, 0, none⟩)] W fun e w' => e = .returned (.int .i64 (Lib.compareInt u v)) ∧ ∃ q, w' = W.drewN q := by
  have hcon := cmpInt u v
  generalize Lib.compareInt u v = r at hcon ⊢
  go_enter Try.func14, Try.ntmps14
  go_wp2_with fail
  go_quiet ((go_at_call 15; exact Calls.quiet_of_same (hcon _)))
  go_wp2
  go_ret
  exact ⟨rfl, _, rfl⟩
theorem enters_closure : ∀ args w, (callFunc 14 args).run Try.prog w = .ok (.enter 14 args) w := Go.Proofs.enters_of Try.func14 (by kernel_rfl) rfl
end Go.Proofs.Yticokbmafhpebaa.SortI
