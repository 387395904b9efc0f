-- Written by a program of this work (wip/tools/pr.py), out of the translation. Not trusted: Lean checks it.
import Derived.Test.YticokbmafhpebaaPLengthsx0
import Derived.Test.YticokbmafhpebaaPLengthsx2
namespace Go.Proofs.Yticokbmafhpebaa.PLengths
open Go.RowKit Go.Proofs.YticokbmafhpebaaW.PrintWords Go.Proofs.YticokbmafhpebaaW.PrintLast Go.Proofs.YticokbmafhpebaaW.PrintMore
attribute [local go_sem] max2_int min2_int max_two min_two max_three min_three max_four min_four   -- for this text's walks alone
set_option linter.unusedVariables false
set_option linter.unusedSimpArgs false

/-! ### lengths_depths: function 16 -/
mutual
def lengths_depths.l0 : Nat → List Int → Int → List (List Bool) → List Int → Int → Int → Option (List Int)
  | 0, _, _, _, _, _, _ => none
  | k + 1, x0, x1, x5, x6, x17, x18 => if x18 < x17 then ((lengths_merge.f k x0 x6).bind fun bt152 => (if 0 ≤ x18 then (if x18 < (x5.length : Int) then (lengths_depths.l0 k x0 x1 (x5.set (x18 : Int).toNat bt152.2) bt152.1 x17 (wrap64 (x18 + 1))) else (none)) else (none))) else (if 0 ≤ (x0.length : Int) then (if ((x0.length : Int) : Int).toNat ≤ 35184372088832 then (lengths_depths.l1 k x5 (List.replicate ((x0.length : Int) : Int).toNat 0) (wrap64 ((wrap64 (2 * (x0.length : Int))) - 2)) (wrap64 (x1 - 1))) else (none)) else (none))
def lengths_depths.l1 : Nat → List (List Bool) → List Int → Int → Int → Option (List Int)
  | 0, _, _, _, _ => none
  | k + 1, x5, x8, x9, x10 => if x10 ≥ 0 then (if 0 ≤ x10 then (if x10 < (x5.length : Int) then (if 0 ≤ x9 then (if x9 ≤ ((rd_L2 x5 x10).length : Int) then ((some ((rd_L2 x5 x10).take (x9 : Int).toNat : List Bool)).bind fun y163 => (lengths_depths.l2 k x5 x8 x10 0 y163 (y163.length : Int) 0)) else (none)) else (none)) else (none)) else (none)) else (some x8)
def lengths_depths.l2 : Nat → List (List Bool) → List Int → Int → Int → List Bool → Int → Int → Option (List Int)
  | 0, _, _, _, _, _, _, _ => none
  | k + 1, x5, x8, x10, x11, x49, x50, x51 => if x51 < x50 then (if 0 ≤ x51 then (if x51 < (x49.length : Int) then (if rdOf false x49 x51 = true then (lengths_depths.l2 k x5 x8 x10 (wrap64 (x11 + 1)) x49 x50 (wrap64 (x51 + 1))) else (if 0 ≤ (wrap64 (x51 - x11)) then (if (wrap64 (x51 - x11)) < (x8.length : Int) then (lengths_depths.l2 k x5 (x8.set ((wrap64 (x51 - x11)) : Int).toNat (wrap64 ((rd x8 (wrap64 (x51 - x11))) + 1))) x10 x11 x49 x50 (wrap64 (x51 + 1))) else (none)) else (none))) else (none)) else (none)) else (lengths_depths.l1 k x5 x8 (wrap64 (2 * x11)) (wrap64 (x10 - 1)))
end
def lengths_depths.f (k : Nat) (l0 : List Int) (a1 : Int) : Option (List Int) := if 0 ≤ a1 then (if (a1 : Int).toNat ≤ 11728124029610 then ((some (List.replicate (a1 : Int).toNat [] : List (List Bool))).bind fun y149 => (lengths_depths.l0 k l0 a1 y149 ([] : List Int) (y149.length : Int) 0)) else (none)) else (none)
theorem lengths_depths.mono_l : ∀ k, (∀ y0 y1 y2 y3 y4 y5, LeO (lengths_depths.l0 k y0 y1 y2 y3 y4 y5) (lengths_depths.l0 (k + 1) y0 y1 y2 y3 y4 y5)) ∧ (∀ y0 y1 y2 y3, LeO (lengths_depths.l1 k y0 y1 y2 y3) (lengths_depths.l1 (k + 1) y0 y1 y2 y3)) ∧ (∀ y0 y1 y2 y3 y4 y5 y6, LeO (lengths_depths.l2 k y0 y1 y2 y3 y4 y5 y6) (lengths_depths.l2 (k + 1) y0 y1 y2 y3 y4 y5 y6))
  | 0 => ⟨fun _ _ _ _ _ _ r h => by simp [lengths_depths.l0] at h, fun _ _ _ _ r h => by simp [lengths_depths.l1] at h, fun _ _ _ _ _ _ _ r h => by simp [lengths_depths.l2] at h⟩
  | k + 1 => by
    obtain ⟨ih0, ih1, ih2⟩ := lengths_depths.mono_l k
    refine ⟨?_, ?_, ?_⟩
    · intro y0 y1 y2 y3 y4 y5
      unfold lengths_depths.l0
      repeat' first
      | (with_reducible exact ih0 _ _ _ _ _ _)
      | (with_reducible exact ih1 _ _ _ _)
      | (with_reducible exact ih2 _ _ _ _ _ _ _)
      | (with_reducible exact lengths_merge.mono _ _ _)
      | (with_reducible exact LeO.refl _)
      | (with_reducible exact LeO.none _)
      | (with_reducible refine LeO.ite ?_ ?_)
      | (with_reducible refine LeO.bind ?_ (fun _ => ?_))
      | exact ih0 _ _ _ _ _ _
      | exact ih1 _ _ _ _
      | exact ih2 _ _ _ _ _ _ _
      | exact lengths_merge.mono _ _ _
      | exact LeO.none _
      | refine LeO.ite ?_ ?_
      | refine LeO.bind ?_ (fun _ => ?_)
    · intro y0 y1 y2 y3
      unfold lengths_depths.l1
      repeat' first
      | (with_reducible exact ih0 _ _ _ _ _ _)
      | (with_reducible exact ih1 _ _ _ _)
      | (with_reducible exact ih2 _ _ _ _ _ _ _)
      | (with_reducible exact lengths_merge.mono _ _ _)
      | (with_reducible exact LeO.refl _)
      | (with_reducible exact LeO.none _)
      | (with_reducible refine LeO.ite ?_ ?_)
      | (with_reducible refine LeO.bind ?_ (fun _ => ?_))
      | exact ih0 _ _ _ _ _ _
      | exact ih1 _ _ _ _
      | exact ih2 _ _ _ _ _ _ _
      | exact lengths_merge.mono _ _ _
      | exact LeO.none _
      | refine LeO.ite ?_ ?_
      | refine LeO.bind ?_ (fun _ => ?_)
    · intro y0 y1 y2 y3 y4 y5 y6
      unfold lengths_depths.l2
      repeat' first
      | (with_reducible exact ih0 _ _ _ _ _ _)
      | (with_reducible exact ih1 _ _ _ _)
      | (with_reducible exact ih2 _ _ _ _ _ _ _)
      | (with_reducible exact lengths_merge.mono _ _ _)
      | (with_reducible exact LeO.refl _)
      | (with_reducible exact LeO.none _)
      | (with_reducible refine LeO.ite ?_ ?_)
      | (with_reducible refine LeO.bind ?_ (fun _ => ?_))
      | exact ih0 _ _ _ _ _ _
      | exact ih1 _ _ _ _
      | exact ih2 _ _ _ _ _ _ _
      | exact lengths_merge.mono _ _ _
      | exact LeO.none _
      | refine LeO.ite ?_ ?_
      | refine LeO.bind ?_ (fun _ => ?_)
theorem lengths_depths.mono : ∀ a0 a1 k, LeO (lengths_depths.f k a0 a1) (lengths_depths.f (k + 1) a0 a1) := by
  intro a0 a1 k
  obtain ⟨ih0, ih1, ih2⟩ := lengths_depths.mono_l k
  unfold lengths_depths.f
  repeat' first
      | (with_reducible exact ih0 _ _ _ _ _ _)
      | (with_reducible exact ih1 _ _ _ _)
      | (with_reducible exact ih2 _ _ _ _ _ _ _)
      | (with_reducible exact lengths_merge.mono _ _ _)
      | (with_reducible exact LeO.refl _)
      | (with_reducible exact LeO.none _)
      | (with_reducible refine LeO.ite ?_ ?_)
      | (with_reducible refine LeO.bind ?_ (fun _ => ?_))
      | exact ih0 _ _ _ _ _ _
      | exact ih1 _ _ _ _
      | exact ih2 _ _ _ _ _ _ _
      | exact lengths_merge.mono _ _ _
      | exact LeO.none _
      | refine LeO.ite ?_ ?_
      | refine LeO.bind ?_ (fun _ => ?_)
set_option maxHeartbeats 8000000 in
set_option maxRecDepth 100000 in
theorem lengths_depths.calls (k : Nat) (A0 : Option Addr) (c0 : Nat) (l0 : List Int) (a1 : Int) (r : List Int) (w : World) (hr0 : Kd.C (Kd.int .i64) w A0 l0.length l0) (hc0 : l0.length ≤ c0) (h : lengths_depths.f k l0 a1 = some r) :
    Calls Try.prog 16 #[.slice A0 l0.length c0, .int .i64 a1] w fun e w' => ∃ v0_ : Value, e = .returned (v0_) ∧ Kd.R (Kd.int .i64) 3 w' w.heap.size (fun _ => True) v0_ r ∧ Below w.heap.size w w' := by
  have HR0 := Aside0.mk hr0
  have HC0 := Aside0.mk hc0
  clear hr0 hc0
  have HB := Aside0.mk (Below.refl w.heap.size w)
  have H : (if 0 ≤ a1 then (if (a1 : Int).toNat ≤ 11728124029610 then ((some (List.replicate (a1 : Int).toNat [] : List (List Bool))).bind fun y149 => (lengths_depths.l0 k l0 a1 y149 ([] : List Int) (y149.length : Int) 0)) else (none)) else (none)) = some r := h
  clear h
  by_cases c3 : 0 ≤ a1
  · rw [if_pos c3] at H
    have c3b0 := eq_true c3
    have c3b1 : decide (0 ≤ a1) = true := decide_eq_true c3
    clear c3
    by_cases c4 : (a1 : Int).toNat ≤ 11728124029610
    · rw [if_pos c4] at H
      have c4b0 := eq_true c4
      have c4b1 : decide ((a1 : Int).toNat ≤ 11728124029610) = true := decide_eq_true c4
      clear c4
      obtain ⟨y149, hy149⟩ : ∃ y_ : List (List Bool), y_ = (List.replicate (a1 : Int).toNat []) := ⟨_, rfl⟩
      replace H : (lengths_depths.l0 k l0 a1 y149 ([] : List Int) (y149.length : Int) 0) = some r := by first | (rw [hy149]; with_reducible exact H) | (have H2_ := (Option.bind_some _ _).symm.trans H; rw [hy149]; with_reducible exact H2_) | (have H2_ := (Option.bind_some _ _).symm.trans H; with_reducible exact H2_) | with_reducible exact H | (rw [hy149]; exact H) | exact H
      have Ny149 := Aside0.mk hy149
      clear hy149
      have H' := Aside0.mk H
      clear H
      go_enter Try.func16, Try.ntmps16
      go_wp2_with (first | ((with_reducible refine gate_dst (N := 15) rfl ?_); refine Kd.S_make (Kd.slice 4 Kd.bool) _ 43 rfl (N := 15) rfl 42 _ _ rfl a1 rfl rfl Try.underlying42 (.slice none 0 0) 24 info43 rfl (by decide) (by omega) [] (ok := fun _ => True) (okp := fun _ => True) ⟨_, rfl, Kd.R_nil _ _ _ _ _⟩ (fun _ hk => hk) trivial (of_decide_eq_true (by first | (with_reducible assumption) | assumption)) (Nat.le_trans (Nat.mul_le_mul_right _ (of_decide_eq_true (by first | (with_reducible assumption) | assumption) : a1.toNat ≤ 11728124029610)) (by omega)) (Below.refl _ _) (Nat.le_refl _) ?_; intro v150 w5 ho6 hb hg_ hnew_; clear hg_ hnew_; (first | rw [← Ny149.out] at ho6 | (simp only [Int.reduceToNat] at ho6; rw [← Ny149.out] at ho6)); have n0_ := Aside0.mk (Kd.S_lower ho6 (below_size (by repeat (first | (with_reducible first | exact HB.out | apply below_alloc | apply pw_below_drewN | apply below_drew1) | exact HB.out)))); have n1_ := Aside0.mk (below_step (by repeat (first | (with_reducible first | exact HB.out | apply below_alloc | apply pw_below_drewN | apply below_drew1) | exact HB.out)) hb); clear HB; have HO151 := n0_; have HB := n1_; clear n0_ n1_; clear hb ho6; obtain ⟨Ao7, co7, eo7⟩ := Kd.S_slice HO151.out; subst eo7))
      go_loopg [6, 18] k (fun kq v6 v18 w' => ∃ (x5_1 : List (List Bool)) (x6_1 : List Int) (x18_1 : Int), v18 = .int .i64 x18_1 ∧ Aside0 (lengths_depths.l0 kq l0 a1 x5_1 x6_1 (y149.length : Int) x18_1 = some r) ∧ Aside0 (kq ≤ k) ∧ Aside0 (Kd.S (Kd.slice 4 Kd.bool) 43 w' w.heap.size (fun _ => True) (.slice Ao7 y149.length co7) x5_1) ∧ Aside0 (Kd.R (Kd.int .i64) 3 w' w.heap.size (fun _ => True) v6 x6_1) ∧ Aside0 (Below w.heap.size w w'))
      case atStart => exact ⟨(y149), (([] : List Int)), (0), (by first | rfl | (simp; done) | (simp [*]; done)), H', ⟨Nat.le_refl _⟩, ⟨by (with_reducible repeat (first | apply Kd.S_alloc | apply Kd.S_drewN | apply Kd.S_drew)); exact HO151.out⟩, ⟨by first | exact Kd.R_nil _ _ _ _ _ | exact Kd.N_nil _ _ _ _ _ | exact Kd.V_nil _ _ _ _ _ | exact Kd.Q_nil _ _ _ _ _ | exact Kd.S_nil _ _ _ _ _⟩, ⟨by repeat (first | (with_reducible first | exact HB.out | apply below_alloc | apply pw_below_drewN | apply below_drew1) | exact HB.out)⟩⟩
      case round =>
        clear H'
        try clear c1
        try clear p2
        try clear c3
        try clear c3b0
        try clear c3b1
        try clear c4
        try clear c4b0
        try clear c4b1
        obtain ⟨x5_1, x6_1, x18_1, rfl, HA, HK1, HO_5, HO_6, HB⟩ := hrel
        have hl5_1 := (Kd.S_reads' HO_5.out).1
        rw [hl5_1] at HO_5
        (try simp only [hl5_1])
        (try simp only [hl5_1] at HO_6)
        cases gk with
        | zero => exact absurd HA.out (by simp [lengths_depths.l0])
        | succ k1 =>
          have H := HA.out
          clear HA
          simp only [lengths_depths.l0] at H
          by_cases c8 : x18_1 < (y149.length : Int)
          · rw [if_pos c8] at H
            have c8b0 : decide (x18_1 < (y149.length : Int)) = true := decide_eq_true c8
            (try (have c8b0h := c8b0; simp only [hl5_1] at c8b0h))
            clear c8
            replace H := Option.bind_eq_some_iff.mp H
            obtain ⟨⟨t152, t153⟩, A90, H⟩ := H
            replace H : (if 0 ≤ x18_1 then (if x18_1 < (x5_1.length : Int) then (lengths_depths.l0 k1 l0 a1 (x5_1.set (x18_1 : Int).toNat t153) t152 (y149.length : Int) (wrap64 (x18_1 + 1))) else (none)) else (none)) = some r := H
            have A9 := Aside0.mk A90
            clear A90
            by_cases c10 : 0 ≤ x18_1
            · rw [if_pos c10] at H
              have c10b0 : decide (0 ≤ x18_1) = true := decide_eq_true c10
              clear c10
              by_cases c11 : x18_1 < (x5_1.length : Int)
              · rw [if_pos c11] at H
                have c11b0 : decide (x18_1 < (x5_1.length : Int)) = true := decide_eq_true c11
                (try (have c11b0h := c11b0; simp only [hl5_1] at c11b0h))
                clear c11
                obtain ⟨y158, hy158⟩ : ∃ y_ : List (List Bool), y_ = (x5_1.set (x18_1 : Int).toNat t153) := ⟨_, rfl⟩
                replace H : (lengths_depths.l0 k1 l0 a1 y158 t152 (y149.length : Int) (wrap64 (x18_1 + 1))) = some r := by first | (rw [hy158]; with_reducible exact H) | (have H2_ := (Option.bind_some _ _).symm.trans H; rw [hy158]; with_reducible exact H2_) | (have H2_ := (Option.bind_some _ _).symm.trans H; with_reducible exact H2_) | with_reducible exact H | (rw [hy158]; exact H) | exact H
                have Ny158 := Aside0.mk hy158
                clear hy158
                have H' := Aside0.mk H
                clear H
                obtain ⟨Ao13, co13, eo13⟩ := Kd.R_slice HO_6.out
                subst eo13
                go_wp2_with (first | ((with_reducible refine gate_callee (f := 21) rfl ?_); refine goesL_ (some 26) rfl rfl Try.func21 (by kernel_rfl) rfl #[.slice A0 l0.length c0, .slice Ao13 x6_1.length co13] rfl (by (try simp only [List.map_toArray, List.map_cons, List.map_nil]); first | done | rfl | (simp only [List.length_drop, List.length_take]; rfl)) ?_; (with_reducible refine (lengths_merge.calls k1 _ _ l0 _ _ x6_1 t152 t153 _ ?side1 ?side2 ?side3 ?side4 A9.out).mono ?_); (case side1 => repeat (first | exact (Kd.C_below HR0.out HB.out) | (with_reducible refine Kd.C_alloc ?_ _) | (with_reducible refine Kd.C_drewN ?_ _) | (with_reducible refine Kd.C_drew ?_))); (case side2 => exact HC0.out); (case side3 => repeat (first | exact (Kd.R_reads' HO_6.out).2.2 | (with_reducible refine Kd.C_alloc ?_ _) | (with_reducible refine Kd.C_drewN ?_ _) | (with_reducible refine Kd.C_drew ?_))); (case side4 => exact (Kd.R_reads' HO_6.out).2.1); rintro e w14 ⟨v154, v156, rfl, ho0, ho1, hb⟩; refine ⟨_, rfl, ?_⟩; have n0_ := Aside0.mk (Kd.S_elder' (by (with_reducible repeat (first | apply Kd.S_alloc | apply Kd.S_drewN | apply Kd.S_drew)); exact HO_5.out) (Kd.R_base ho1) hb); have n1_ := Aside0.mk (Kd.R_elder' (by (with_reducible repeat (first | apply Kd.R_alloc | apply Kd.R_drewN | apply Kd.R_drew)); exact HO_6.out) (Kd.R_base ho0) hb); have n2_ := Aside0.mk (Kd.R_lower (Kd.R_new' ho0 (Kd.R_lt (by (with_reducible repeat (first | apply Kd.R_alloc | apply Kd.R_drewN | apply Kd.R_drew)); exact HO_6.out))) (below_size (by repeat (first | (with_reducible first | exact HB.out | apply below_alloc | apply pw_below_drewN | apply below_drew1) | exact HB.out)))); have n3_ := Aside0.mk (Kd.R_lower ho1 (below_size (by repeat (first | (with_reducible first | exact HB.out | apply below_alloc | apply pw_below_drewN | apply below_drew1) | exact HB.out)))); have n4_ := Aside0.mk (below_step (by repeat (first | (with_reducible first | exact HB.out | apply below_alloc | apply pw_below_drewN | apply below_drew1) | exact HB.out)) hb); clear HO_5; clear HO_6; clear HB; have HO_5 := n0_; have HO_6 := n1_; have HO155 := n2_; have HO157 := n3_; have HB := n4_; clear n0_ n1_ n2_ n3_ n4_; (try clear hb); (try clear hb2); (try clear hk); (try clear hi); (try clear ho0); (try clear ho1); have p12 : 0 ≤ (x18_1 : Int) := of_decide_eq_true (by first | (with_reducible assumption) | assumption); have q12 : (x18_1 : Int) < ((x5_1.length : Int) : Int) := of_decide_eq_true (by first | (with_reducible assumption) | assumption); obtain ⟨go12, co12, eo12, gb12, gl12, cl12, HG12⟩ := Kd.S_form HO_5.out (by omega); (first | cases eo12 | (injection eo12 with ea_ en_ ec_; (first | subst ea_ | (injection ea_ with ea_; subst ea_)); subst ec_; clear en_)); have GB12 := Aside0.mk gb12; have GG12 := Aside0.mk HG12; clear gb12 gl12 HG12; obtain ⟨_, ce12, hcl12, hM12, hcc12, hfr12, _, _⟩ := Kd.S_elem HO_5.out [] (x18_1 : Int) p12 q12; obtain ⟨ve12_0, rfl, ge12_0⟩ := hM12; have hx12_0 := hcc12 0 _ rfl; have hf12_0 := hfr12 0; (try simp only [show ((Kd.slice 4 Kd.bool)).sz = 1 from rfl, Nat.mul_one, Nat.add_zero] at hx12_0); (try simp only [show ((Kd.slice 4 Kd.bool)).sz = 1 from rfl, Nat.mul_one, Nat.add_zero] at hf12_0); (try clear hM12); clear hcl12 hcc12 hfr12; replace p12 := eq_true p12; replace q12 := eq_true q12; have n_ := Aside0.mk (Kd.S_mono (ok' := (fun k_ => some k_ ≠ (v156 : Value).ownBlock)) HO_5.out (fun k_ hk => hk.2)); clear HO_5; have HO_5 := n_; clear n_; have HX15 := Aside0.mk (show Kd.S (Kd.slice 4 Kd.bool) 43 w14 w.heap.size (fun k_ => ((fun _ => True)) k_ ∧ ¬ ((fun k_ => some k_ = (v156 : Value).ownBlock)) k_) (.slice (some ⟨go12, 0, none⟩) x5_1.length co7) x5_1 from (by (with_reducible repeat (first | apply Kd.S_alloc | apply Kd.S_drewN | apply Kd.S_drew)); exact Kd.S_mono HO_5.out (fun k_ hk => ⟨trivial, fun e_ => hk e_⟩))); obtain ⟨oki15, ce15, hcl15, hM15, hcc15, hfr15, hoki15, hH15⟩ := Kd.S_elem HX15.out [] (x18_1 : Int) (of_decide_eq_true (by first | (with_reducible assumption) | assumption)) (by have h_ : (x18_1 : Int) < ((x5_1.length : Int) : Int) := of_decide_eq_true (by first | (with_reducible assumption) | assumption); first | exact h_ | (have e_ := (Kd.S_reads' HO_5.out).1; omega) | simpa using h_); obtain ⟨ve15_0, rfl, ge15_0⟩ := hM15; have HP15 := Kd.S_seg hH15 (of_decide_eq_true (by first | (with_reducible assumption) | assumption)) (by have h_ : (x18_1 : Int) < ((x5_1.length : Int) : Int) := of_decide_eq_true (by first | (with_reducible assumption) | assumption); first | exact h_ | (have e_ := (Kd.S_reads' HO_5.out).1; omega) | simpa using h_) (seg := [v156]) (j := 0) (show 1 ≤ 1 from by decide) (x' := t153) (Kd.M_row (Kd.R_mono (Kd.R_tight rfl (Kd.R_mono (ok' := fun k_ => ((fun _ => True)) k_ ∧ k_ ≠ go12) (Kd.R_apart' (HO157.out) (Kd.S_typed HO_5.out) (by decide)) (fun k_ hk => ⟨trivial, fun e_ => (hk.2) (by rw [e_]; rfl)⟩))) (fun _ h_ => Or.inr (h_)))) (fun _ hk => hk) (fun k_ hk_ => ((Kd.R_mono (ok' := fun k_ => ((fun _ => True)) k_ ∧ k_ ≠ go12) (Kd.R_apart' (HO157.out) (Kd.S_typed HO_5.out) (by decide)) (fun k_ hk => ⟨trivial, fun e_ => (hk.2) (by rw [e_]; rfl)⟩))).1 k_ hk_.symm); have hx15_0 := hcc15 0 _ rfl; (try simp only [show ((Kd.slice 4 Kd.bool)).sz = 1 from rfl, Nat.mul_one, Nat.add_zero] at hx15_0); have hf15_0 := hfr15 0; (try simp only [show ((Kd.slice 4 Kd.bool)).sz = 1 from rfl, Nat.mul_one, Nat.add_zero] at hf15_0); (try clear hM15); clear hcl15 hcc15 hfr15 hoki15 hH15; (try simp only [show ((Kd.slice 4 Kd.bool)).sz = 1 from rfl, Nat.mul_one, Nat.add_zero] at HP15)) | ((with_reducible refine gate_store (t := 43) (p := 29) rfl ?_); refine store_event (t := 43) (p := 29) (v := ?vo_w16) (w1 := (w14.setCell ⟨go12, (x18_1 : Int).toNat, none⟩ (v156))) ?hg ?ho ?hn ?hr ?_; (case ho => rfl); (case hg => rfl); (case hn => rfl); (case hr => first | (go_simp; done) | (go_simp; rfl) | (obtain ⟨_, _, es_⟩ := Kd.R_slice HO157.out; rw [es_]; first | (go_simp; done) | (go_simp; rfl))); intro w16 hw; have hg : w14.grownBy w16 (some go12) := (by rw [hw]; exact HP15.2); have hp_ : Kd.S (Kd.slice 4 Kd.bool) 43 w16 w.heap.size (fun _ => True) (.slice (some ⟨go12, 0, none⟩) x5_1.length co7) y158 := (by rw [hw, Ny158.out]; exact HP15.1); clear HP15; have n0_ := Aside0.mk (hp_); have n1_ := Aside0.mk (Kd.R_over' (v := (.slice (some ⟨go12, 0, none⟩) x5_1.length co7)) (by (with_reducible repeat (first | apply Kd.R_alloc | apply Kd.R_drewN | apply Kd.R_drew)); exact HO_6.out) (Kd.S_typed HO_5.out) (by decide) hg); have n2_ := Aside0.mk (Kd.R_over' (v := (.slice (some ⟨go12, 0, none⟩) x5_1.length co7)) (by (with_reducible repeat (first | apply Kd.R_alloc | apply Kd.R_drewN | apply Kd.R_drew)); exact HO155.out) (Kd.S_typed HO_5.out) (by decide) hg); have n3_ := Aside0.mk ((by rw [hw]; exact below_set (HB.out) GB12.out : Below w.heap.size w w16)); clear HO_5; clear HO_6; clear HO155; clear HB; clear HO157; have HO_5 := n0_; have HO_6 := n1_; have HO155 := n2_; have HB := n3_; clear n0_ n1_ n2_ n3_; clear hg hw hp_))
                (try simp only [← hl5_1])
                go_roundg k1
                case measure => have := HK1.out; omega
                case rel => exact ⟨(y158), (t152), (wrap64 (x18_1 + 1)), (by first | rfl | (simp; done) | (simp [*]; done)), H', ⟨by have := HK1.out; omega⟩, ⟨by (try simp only [hl5_1]); (with_reducible repeat (first | apply Kd.S_alloc | apply Kd.S_drewN | apply Kd.S_drew)); exact HO_5.out⟩, ⟨by (try simp only [hl5_1]); (with_reducible repeat (first | apply Kd.R_alloc | apply Kd.R_drewN | apply Kd.R_drew)); exact Kd.R_mono HO155.out (fun _ hk => trivial)⟩, ⟨by repeat (first | (with_reducible first | exact HB.out | apply below_alloc | apply pw_below_drewN | apply below_drew1) | exact HB.out)⟩⟩
              · rw [if_neg c11] at H
                exact absurd H (by simp)
            · rw [if_neg c10] at H
              exact absurd H (by simp)
          · rw [if_neg c8] at H
            have c8b0 : decide (x18_1 < (y149.length : Int)) = false := decide_eq_false c8
            (try (have c8b0h := c8b0; simp only [hl5_1] at c8b0h))
            clear c8
            by_cases c17 : 0 ≤ (l0.length : Int)
            · rw [if_pos c17] at H
              have c17b0 := eq_true c17
              have c17b1 : decide (0 ≤ (l0.length : Int)) = true := decide_eq_true c17
              clear c17
              by_cases c18 : ((l0.length : Int) : Int).toNat ≤ 35184372088832
              · rw [if_pos c18] at H
                have c18b0 := eq_true c18
                have c18b1 : decide (((l0.length : Int) : Int).toNat ≤ 35184372088832) = true := decide_eq_true c18
                clear c18
                obtain ⟨y159, hy159⟩ : ∃ y_ : List Int, y_ = (List.replicate ((l0.length : Int) : Int).toNat 0) := ⟨_, rfl⟩
                replace H : (lengths_depths.l1 k1 x5_1 y159 (wrap64 ((wrap64 (2 * (l0.length : Int))) - 2)) (wrap64 (a1 - 1))) = some r := by first | (rw [hy159]; with_reducible exact H) | (have H2_ := (Option.bind_some _ _).symm.trans H; rw [hy159]; with_reducible exact H2_) | (have H2_ := (Option.bind_some _ _).symm.trans H; with_reducible exact H2_) | with_reducible exact H | (rw [hy159]; exact H) | exact H
                have Ny159 := Aside0.mk hy159
                clear hy159
                have H' := Aside0.mk H
                clear H
                go_wp2_with (first | ((with_reducible refine gate_dst (N := 33) rfl ?_); refine Kd.R_make (Kd.int .i64) _ 3 rfl (N := 33) rfl 22 _ _ rfl (l0.length : Int) rfl rfl Try.underlying22 (.int .i64 0) 8 info3 rfl (by decide) (by omega) 0 (ok := fun _ => True) (okp := fun _ => True) rfl (fun _ hk => hk) trivial (of_decide_eq_true (by first | (with_reducible assumption) | assumption)) (Nat.le_trans (Nat.mul_le_mul_right _ (of_decide_eq_true (by first | (with_reducible assumption) | assumption) : (l0.length : Int).toNat ≤ 35184372088832)) (by omega)) (Below.refl _ _) (Nat.le_refl _) ?_; intro v160 w19 ho20 hb hg_ hnew_; clear hg_ hnew_; (first | rw [← Ny159.out] at ho20 | (simp only [Int.reduceToNat] at ho20; rw [← Ny159.out] at ho20)); have n0_ := Aside0.mk (Kd.S_below (by (with_reducible repeat (first | apply Kd.S_alloc | apply Kd.S_drewN | apply Kd.S_drew)); exact HO_5.out) hb); have n1_ := Aside0.mk (Kd.R_elder' (by (with_reducible repeat (first | apply Kd.R_alloc | apply Kd.R_drewN | apply Kd.R_drew)); exact HO_6.out) (Kd.R_base ho20) hb); have n2_ := Aside0.mk (Kd.R_lower (Kd.R_new' ho20 (Kd.R_lt (by (with_reducible repeat (first | apply Kd.R_alloc | apply Kd.R_drewN | apply Kd.R_drew)); exact HO_6.out))) (below_size (by repeat (first | (with_reducible first | exact HB.out | apply below_alloc | apply pw_below_drewN | apply below_drew1) | exact HB.out)))); have n3_ := Aside0.mk (below_step (by repeat (first | (with_reducible first | exact HB.out | apply below_alloc | apply pw_below_drewN | apply below_drew1) | exact HB.out)) hb); clear HO_5; clear HO_6; clear HB; have HO_5 := n0_; have HO_6 := n1_; have HO161 := n2_; have HB := n3_; clear n0_ n1_ n2_ n3_; clear hb ho20))
                go_loopg [9, 10] k1 (fun kq v9 v10 w' => ∃ (x8_2 : List Int) (x9_2 : Int) (x10_2 : Int), v9 = .int .i64 x9_2 ∧ v10 = .int .i64 x10_2 ∧ Aside0 (lengths_depths.l1 kq x5_1 x8_2 x9_2 x10_2 = some r) ∧ Aside0 (kq ≤ k1) ∧ Aside0 (Kd.S (Kd.slice 4 Kd.bool) 43 w' w.heap.size (fun _ => True) (.slice Ao7 x5_1.length co7) x5_1) ∧ Aside0 (Kd.R (Kd.int .i64) 3 w' w.heap.size (fun _ => True) v160 x8_2) ∧ Aside0 (Below w.heap.size w w'))
                case atStart => exact ⟨(y159), (wrap64 ((wrap64 (2 * (l0.length : Int))) - 2)), (wrap64 (a1 - 1)), (by first | rfl | (simp; done) | (simp [*]; done)), (by first | rfl | (simp; done) | (simp [*]; done)), H', ⟨Nat.le_refl _⟩, ⟨by (try simp only [hl5_1]); (with_reducible repeat (first | apply Kd.S_alloc | apply Kd.S_drewN | apply Kd.S_drew)); exact HO_5.out⟩, ⟨by (try simp only [hl5_1]); (with_reducible repeat (first | apply Kd.R_alloc | apply Kd.R_drewN | apply Kd.R_drew)); exact Kd.R_mono HO161.out (fun _ hk => trivial)⟩, ⟨by repeat (first | (with_reducible first | exact HB.out | apply below_alloc | apply pw_below_drewN | apply below_drew1) | exact HB.out)⟩⟩
                case round =>
                  clear H'
                  try clear c1
                  try clear p1
                  try clear q1
                  try clear hx1
                  try clear c2
                  try clear p2
                  try clear c3
                  try clear c3b0
                  try clear c3b1
                  try clear c4
                  try clear c4b0
                  try clear c4b1
                  try clear p6
                  try clear c8
                  try clear c8b0
                  try clear c10
                  try clear c10b0
                  try clear c11
                  try clear c11b0
                  try clear c12
                  try clear p12
                  try clear q12
                  try clear hx12
                  try clear hf12
                  try clear c15
                  try clear hx15
                  try clear hf15
                  try clear c16
                  try clear c17
                  try clear c17b0
                  try clear c17b1
                  try clear c18
                  try clear c18b0
                  try clear c18b1
                  try clear hx12_0
                  try clear hx15_0
                  try clear p12
                  try clear p2
                  try clear q12
                  obtain ⟨x8_2, x9_2, x10_2, rfl, rfl, HA, HK2, HO_5, HO_8, HB⟩ := hrel
                  cases gk with
                  | zero => exact absurd HA.out (by simp [lengths_depths.l1])
                  | succ k2 =>
                    have H := HA.out
                    clear HA
                    simp only [lengths_depths.l1] at H
                    by_cases c21 : x10_2 ≥ 0
                    · rw [if_pos c21] at H
                      have c21b0 : decide (0 ≤ x10_2) = true := decide_eq_true c21
                      clear c21
                      by_cases c22 : 0 ≤ x10_2
                      · rw [if_pos c22] at H
                        have c22b0 : decide (0 ≤ x10_2) = true := decide_eq_true c22
                        clear c22
                        by_cases c23 : x10_2 < (x5_1.length : Int)
                        · rw [if_pos c23] at H
                          have c23b0 : decide (x10_2 < (x5_1.length : Int)) = true := decide_eq_true c23
                          (try (have c23b0h := c23b0; simp only [hl5_1] at c23b0h))
                          clear c23
                          by_cases c24 : 0 ≤ x9_2
                          · rw [if_pos c24] at H
                            have c24b0 := eq_true c24
                            have c24b1 : decide (0 ≤ x9_2) = true := decide_eq_true c24
                            clear c24
                            by_cases c25 : x9_2 ≤ ((rd_L2 x5_1 x10_2).length : Int)
                            · rw [if_pos c25] at H
                              have c25b0 := eq_true c25
                              have c25b1 : decide (x9_2 ≤ ((rd_L2 x5_1 x10_2).length : Int)) = true := decide_eq_true c25
                              clear c25
                              obtain ⟨y163, hy163⟩ : ∃ y_ : List Bool, y_ = ((rd_L2 x5_1 x10_2).take (x9_2 : Int).toNat) := ⟨_, rfl⟩
                              replace H : (lengths_depths.l2 k2 x5_1 x8_2 x10_2 0 y163 (y163.length : Int) 0) = some r := by first | (rw [hy163]; with_reducible exact H) | (have H2_ := (Option.bind_some _ _).symm.trans H; rw [hy163]; with_reducible exact H2_) | (have H2_ := (Option.bind_some _ _).symm.trans H; with_reducible exact H2_) | with_reducible exact H | (rw [hy163]; exact H) | exact H
                              have Ny163 := Aside0.mk hy163
                              clear hy163
                              have H' := Aside0.mk H
                              clear H
                              have p162 : 0 ≤ (x10_2 : Int) := of_decide_eq_true (by first | (with_reducible assumption) | assumption)
                              have q162 : x10_2 < (x5_1.length : Int) := of_decide_eq_true (by first | (with_reducible assumption) | assumption)
                              obtain ⟨ad162, A162_0, c162_0, e162, hx162_0, hl162_0, hi162_0⟩ := at_L2 (Kd.S_reads' HO_5.out).2.2 x10_2 p162 q162
                              cases e162
                              obtain ⟨ce162, hce162, hMe162, hcc162⟩ := Kd.S_get HO_5.out [] x10_2 p162 (by first | exact q162 | exact of_decide_eq_true (by first | (with_reducible assumption) | assumption) | (have e_ := (Kd.S_reads' HO_5.out).1; omega))
                              obtain ⟨ve162_0, rfl, ge162_0⟩ := hMe162
                              have hv162_0 := hcc162 0 _ rfl
                              rw [Nat.add_zero, show ((Kd.slice 4 Kd.bool)).sz = 1 from rfl, Nat.mul_one] at hv162_0
                              replace hv162_0 := Option.some.inj (hv162_0.symm.trans hx162_0)
                              rw [hv162_0] at ge162_0
                              have HL162_0 := Aside0.mk (show Kd.R Kd.bool 4 _ _ _ _ (rd_L2 x5_1 x10_2) from ge162_0)
                              clear hv162_0 ge162_0
                              clear hcc162 hce162
                              have HR162_0 := Aside0.mk hi162_0
                              have HC162_0 := Aside0.mk hl162_0
                              clear hi162_0 hl162_0
                              replace p162 := eq_true p162
                              replace q162 := eq_true q162
                              have q26 : (x9_2 : Int) ≤ (((rd_L2 x5_1 x10_2).length : Int) : Int) := of_decide_eq_true (by first | (with_reducible assumption) | assumption)
                              obtain ⟨i026, hi026, _, hsz26, _⟩ := info_parts info4
                              have hroom26 : (rd_L2 x5_1 x10_2).length ≤ c162_0 := HC162_0.out
                              have hC26 : Kd.C Kd.bool _ A162_0 (rd_L2 x5_1 x10_2).length (rd_L2 x5_1 x10_2) := (by repeat (first | (with_reducible exact HR162_0.out) | (with_reducible refine Kd.C_alloc ?_ _) | (with_reducible refine Kd.C_drewN ?_ _) | (with_reducible refine Kd.C_drew ?_) | exact HR162_0.out))
                              have hcut26 := cut_to (P := Try.prog) 43 4 .i64 Try.underlying43 hi026 A162_0 (rd_L2 x5_1 x10_2).length c162_0 x9_2 (of_decide_eq_true (by first | (with_reducible assumption) | assumption)) q26 hroom26
                              have hr26 := Kd.C_take (m := (x9_2 : Int).toNat) hC26 (by omega)
                              have hy26 : y163.length = (x9_2 : Int).toNat := (by rw [Ny163.out, List.length_take]; omega)
                              rw [← Ny163.out] at hr26
                              rw [← hy26] at hcut26
                              have HR166 := Aside0.mk hr26
                              have HC166 := Aside0.mk (show y163.length ≤ c162_0 from by omega)
                              clear hr26 hC26 hroom26 hi026 hsz26
                              have KY26 := Aside0.mk hy26
                              clear hy26
                              replace q26 := eq_true q26
                              go_wp2
                              go_loopg [11, 51] k2 (fun kq v11 v51 w' => ∃ (x8_3 : List Int) (x11_3 : Int) (x51_3 : Int), v11 = .int .i64 x11_3 ∧ v51 = .int .i64 x51_3 ∧ Aside0 (lengths_depths.l2 kq x5_1 x8_3 x10_2 x11_3 y163 (y163.length : Int) x51_3 = some r) ∧ Aside0 (kq ≤ k2) ∧ Aside0 (Kd.S (Kd.slice 4 Kd.bool) 43 w' w.heap.size (fun _ => True) (.slice (some ad162) x5_1.length co7) x5_1) ∧ Aside0 (Kd.R (Kd.int .i64) 3 w' w.heap.size (fun _ => True) v160 x8_3) ∧ Aside0 (Kd.R Kd.bool 4 w' w.heap.size (fun _ => True) (.slice A162_0 (rd_L2 x5_1 x10_2).length c162_0) (rd_L2 x5_1 x10_2)) ∧ Aside0 (Below w.heap.size w w'))
                              case atStart => exact ⟨(x8_2), (0), (0), (by first | rfl | (simp; done) | (simp [*]; done)), (by first | rfl | (simp; done) | (simp [*]; done)), H', ⟨Nat.le_refl _⟩, ⟨by (try simp only [hl5_1]); (with_reducible repeat (first | apply Kd.S_alloc | apply Kd.S_drewN | apply Kd.S_drew)); exact HO_5.out⟩, ⟨by (try simp only [hl5_1]); (with_reducible repeat (first | apply Kd.R_alloc | apply Kd.R_drewN | apply Kd.R_drew)); exact HO_8.out⟩, ⟨by (with_reducible repeat (first | apply Kd.R_alloc | apply Kd.R_drewN | apply Kd.R_drew)); exact Kd.R_mono HL162_0.out (fun _ _ => trivial)⟩, ⟨by repeat (first | (with_reducible first | exact HB.out | apply below_alloc | apply pw_below_drewN | apply below_drew1) | exact HB.out)⟩⟩
                              case round =>
                                clear H'
                                try clear c1
                                try clear p1
                                try clear q1
                                try clear hx1
                                try clear c2
                                try clear p2
                                try clear q2
                                try clear c3
                                try clear c3b0
                                try clear c3b1
                                try clear c4
                                try clear c4b0
                                try clear c4b1
                                try clear p6
                                try clear c8
                                try clear c8b0
                                try clear c10
                                try clear c10b0
                                try clear c11
                                try clear c11b0
                                try clear c12
                                try clear p12
                                try clear q12
                                try clear hx12
                                try clear hf12
                                try clear c15
                                try clear hx15
                                try clear hf15
                                try clear c16
                                try clear p16
                                try clear q16
                                try clear hx16
                                try clear c17
                                try clear c17b0
                                try clear c17b1
                                try clear c18
                                try clear c18b0
                                try clear c18b1
                                try clear c21
                                try clear c21b0
                                try clear c22
                                try clear c22b0
                                try clear c23
                                try clear c23b0
                                try clear c24
                                try clear c24b0
                                try clear c24b1
                                try clear c25
                                try clear c25b0
                                try clear c25b1
                                try clear q26
                                try clear hx12_0
                                try clear hx15_0
                                try clear hx162_0
                                try clear p1
                                try clear p12
                                try clear p162
                                try clear p2
                                try clear p6
                                try clear q1
                                try clear q12
                                try clear q162
                                try clear q26
                                obtain ⟨x8_3, x11_3, x51_3, rfl, rfl, HA, HK3, HO_5, HO_8, HE_, HB⟩ := hrel
                                have hC_ := Kd.C_take (m := (x9_2 : Int).toNat) (Kd.R_reads' HE_.out).2.2 (by have h_ := KY26.out; rw [Ny163.out, List.length_take] at h_; omega)
                                rw [← Ny163.out] at hC_
                                have HC_ := Aside0.mk hC_
                                clear hC_
                                cases gk with
                                | zero => exact absurd HA.out (by simp [lengths_depths.l2])
                                | succ k3 =>
                                  have H := HA.out
                                  clear HA
                                  simp only [lengths_depths.l2] at H
                                  by_cases c27 : x51_3 < (y163.length : Int)
                                  · rw [if_pos c27] at H
                                    have c27b0 : decide (x51_3 < (y163.length : Int)) = true := decide_eq_true c27
                                    (try (have c27b0h := c27b0; simp only [hl5_1] at c27b0h))
                                    clear c27
                                    by_cases c28 : 0 ≤ x51_3
                                    · rw [if_pos c28] at H
                                      have c28b0 : decide (0 ≤ x51_3) = true := decide_eq_true c28
                                      clear c28
                                      by_cases c29 : x51_3 < (y163.length : Int)
                                      · rw [if_pos c29] at H
                                        have c29b0 : decide (x51_3 < (y163.length : Int)) = true := decide_eq_true c29
                                        (try (have c29b0h := c29b0; simp only [hl5_1] at c29b0h))
                                        clear c29
                                        obtain ⟨bq30, hbq30⟩ : ∃ b_ : Bool, b_ = (rdOf false y163 x51_3) := ⟨_, rfl⟩
                                        replace H : (if bq30 = true then (lengths_depths.l2 k3 x5_1 x8_3 x10_2 (wrap64 (x11_3 + 1)) y163 (y163.length : Int) (wrap64 (x51_3 + 1))) else (if 0 ≤ (wrap64 (x51_3 - x11_3)) then (if (wrap64 (x51_3 - x11_3)) < (x8_3.length : Int) then (lengths_depths.l2 k3 x5_1 (x8_3.set ((wrap64 (x51_3 - x11_3)) : Int).toNat (wrap64 ((rd x8_3 (wrap64 (x51_3 - x11_3))) + 1))) x10_2 x11_3 y163 (y163.length : Int) (wrap64 (x51_3 + 1))) else (none)) else (none))) = some r := by rw [← hbq30] at H; exact H
                                        have Nbq30 := Aside0.mk hbq30
                                        clear hbq30
                                        by_cases c31 : bq30 = true
                                        · subst c31
                                          have H1 : (lengths_depths.l2 k3 x5_1 x8_3 x10_2 (wrap64 (x11_3 + 1)) y163 (y163.length : Int) (wrap64 (x51_3 + 1))) = some r := by rw [if_pos rfl] at H; exact H
                                          clear H
                                          have H := H1
                                          clear H1
                                          have H' := Aside0.mk H
                                          clear H
                                          have p167 : 0 ≤ (x51_3 : Int) := of_decide_eq_true (by first | (with_reducible assumption) | assumption)
                                          have q167 : x51_3 < (y163.length : Int) := of_decide_eq_true (by first | (with_reducible assumption) | assumption)
                                          obtain ⟨ad167, e167, hx167_0⟩ := Kd.at_bool HC_.out x51_3 p167 q167
                                          (try rw [← Nbq30.out] at hx167_0)
                                          cases e167
                                          (try replace hx167_0 := (HB.out.cell (World.block_lt_of_cell? w _ hx167_0)).trans hx167_0)
                                          replace p167 := eq_true p167
                                          replace q167 := eq_true q167
                                          go_wp2
                                          go_roundg k3
                                          case measure => have := HK1.out; have := HK2.out; have := HK3.out; omega
                                          case rel => exact ⟨(x8_3), (wrap64 (x11_3 + 1)), (wrap64 (x51_3 + 1)), (by first | rfl | (simp; done) | (simp [*]; done)), (by first | rfl | (simp; done) | (simp [*]; done)), H', ⟨by have := HK1.out; have := HK2.out; have := HK3.out; omega⟩, ⟨by (try simp only [hl5_1]); (with_reducible repeat (first | apply Kd.S_alloc | apply Kd.S_drewN | apply Kd.S_drew)); exact HO_5.out⟩, ⟨by (try simp only [hl5_1]); (with_reducible repeat (first | apply Kd.R_alloc | apply Kd.R_drewN | apply Kd.R_drew)); exact HO_8.out⟩, ⟨by (with_reducible repeat (first | apply Kd.R_alloc | apply Kd.R_drewN | apply Kd.R_drew)); exact HE_.out⟩, ⟨by repeat (first | (with_reducible first | exact HB.out | apply below_alloc | apply pw_below_drewN | apply below_drew1) | exact HB.out)⟩⟩
                                        · replace c31 := Bool.eq_false_iff.mpr c31
                                          subst c31
                                          have H1 : (if 0 ≤ (wrap64 (x51_3 - x11_3)) then (if (wrap64 (x51_3 - x11_3)) < (x8_3.length : Int) then (lengths_depths.l2 k3 x5_1 (x8_3.set ((wrap64 (x51_3 - x11_3)) : Int).toNat (wrap64 ((rd x8_3 (wrap64 (x51_3 - x11_3))) + 1))) x10_2 x11_3 y163 (y163.length : Int) (wrap64 (x51_3 + 1))) else (none)) else (none)) = some r := by rw [if_neg (show ¬ (false = true) by decide)] at H; exact H
                                          clear H
                                          have H := H1
                                          clear H1
                                          obtain ⟨ji32, hji32⟩ : ∃ j_ : Int, (wrap64 (x51_3 - x11_3)) = j_ := ⟨_, rfl⟩
                                          replace H : (if 0 ≤ (ji32) then (if (ji32) < (x8_3.length : Int) then (lengths_depths.l2 k3 x5_1 (x8_3.set ((ji32) : Int).toNat (wrap64 ((rd x8_3 (ji32)) + 1))) x10_2 x11_3 y163 (y163.length : Int) (wrap64 (x51_3 + 1))) else (none)) else (none)) = some r := by first | (rw [hji32] at H; exact H) | (simp only [hji32] at H ⊢; exact H)
                                          have hji32w : (IntKind.i64.wrap (x51_3 - x11_3)) = ji32 := (i64_w _).trans hji32
                                          by_cases c33 : 0 ≤ (ji32)
                                          · rw [if_pos c33] at H
                                            have c33b0 : decide (0 ≤ (ji32)) = true := decide_eq_true c33
                                            clear c33
                                            by_cases c34 : (ji32) < (x8_3.length : Int)
                                            · rw [if_pos c34] at H
                                              have c34b0 : decide ((ji32) < (x8_3.length : Int)) = true := decide_eq_true c34
                                              (try (have c34b0h := c34b0; simp only [hl5_1] at c34b0h))
                                              clear c34
                                              obtain ⟨y169, hy169⟩ : ∃ y_ : List Int, y_ = (x8_3.set ((ji32) : Int).toNat (wrap64 ((rd x8_3 (ji32)) + 1))) := ⟨_, rfl⟩
                                              replace H : (lengths_depths.l2 k3 x5_1 y169 x10_2 x11_3 y163 (y163.length : Int) (wrap64 (x51_3 + 1))) = some r := by first | (rw [hy169]; with_reducible exact H) | (have H2_ := (Option.bind_some _ _).symm.trans H; rw [hy169]; with_reducible exact H2_) | (have H2_ := (Option.bind_some _ _).symm.trans H; with_reducible exact H2_) | with_reducible exact H | (rw [hy169]; exact H) | exact H
                                              have Ny169 := Aside0.mk hy169
                                              clear hy169
                                              have H' := Aside0.mk H
                                              clear H
                                              have p167 : 0 ≤ (x51_3 : Int) := of_decide_eq_true (by first | (with_reducible assumption) | assumption)
                                              have q167 : x51_3 < (y163.length : Int) := of_decide_eq_true (by first | (with_reducible assumption) | assumption)
                                              obtain ⟨ad167, e167, hx167_0⟩ := Kd.at_bool HC_.out x51_3 p167 q167
                                              (try rw [← Nbq30.out] at hx167_0)
                                              cases e167
                                              (try replace hx167_0 := (HB.out.cell (World.block_lt_of_cell? w _ hx167_0)).trans hx167_0)
                                              replace p167 := eq_true p167
                                              replace q167 := eq_true q167
                                              obtain ⟨Ao36, co36, eo36⟩ := Kd.R_slice HO_8.out
                                              subst eo36
                                              have p168 : 0 ≤ ((ji32) : Int) := of_decide_eq_true (by first | (with_reducible assumption) | assumption)
                                              have q168 : (ji32) < (x8_3.length : Int) := of_decide_eq_true (by first | (with_reducible assumption) | assumption)
                                              obtain ⟨ad168, e168, hx168_0⟩ := Kd.at_int (Kd.R_reads' HO_8.out).2.2 (ji32) p168 q168
                                              cases e168
                                              replace p168 := eq_true p168
                                              replace q168 := eq_true q168
                                              have p35 : 0 ≤ ((ji32) : Int) := of_decide_eq_true (by first | (with_reducible assumption) | assumption)
                                              have q35 : ((ji32) : Int) < ((x8_3.length : Int) : Int) := of_decide_eq_true (by first | (with_reducible assumption) | assumption)
                                              obtain ⟨go35, co35, eo35, gb35, gl35, cl35, HG35⟩ := Kd.R_form HO_8.out (by omega)
                                              (first | cases eo35 | (injection eo35 with ea_ en_ ec_; (first | subst ea_ | (injection ea_ with ea_; subst ea_)); subst ec_; clear en_))
                                              have GB35 := Aside0.mk gb35
                                              have GG35 := Aside0.mk HG35
                                              clear gb35 gl35 HG35
                                              (first | simp only [add_plain] at hx168_0 | skip)
                                              obtain ⟨hx35_0, hf35_0⟩ := Kd.R_celln 0 HO_8.out ((ji32) : Int) p35 q35
                                              replace p35 := eq_true p35
                                              replace q35 := eq_true q35
                                              have HP37 := Kd.R_putg HO_8.out ((ji32) : Int) (wrap64 ((rd x8_3 (ji32)) + 1))
                                              go_wp2_with (first | ((with_reducible refine gate_store (t := 3) (p := 66) rfl ?_); refine store_event (t := 3) (p := 66) (v := ?vo_w38) (w1 := (wr.setCell ⟨go35, ((ji32) : Int).toNat, none⟩ (.int .i64 (wrap64 ((rd x8_3 (ji32)) + 1))))) ?hg ?ho ?hn ?hr ?_; (case ho => rfl); (case hg => rfl); (case hn => rfl); (case hr => first | (go_simp; done) | (go_simp; rfl)); intro w38 hw; have hg : wr.grownBy w38 (some go35) := (by rw [hw]; exact HP37.2); have hp_ : Kd.R (Kd.int .i64) 3 w38 w.heap.size (fun _ => True) (.slice (some ⟨go35, 0, none⟩) x8_3.length co36) y169 := (by rw [hw, Ny169.out]; exact HP37.1); clear HP37; have n0_ := Aside0.mk (Kd.S_over' (v := (.slice (some ⟨go35, 0, none⟩) x8_3.length co36)) (by (with_reducible repeat (first | apply Kd.S_alloc | apply Kd.S_drewN | apply Kd.S_drew)); exact HO_5.out) (Kd.R_typed HO_8.out) (by decide) hg); have n1_ := Aside0.mk (hp_); have n2_ := Aside0.mk ((by rw [hw]; exact below_set (HB.out) GB35.out : Below w.heap.size w w38)); have n3_ := Aside0.mk (Kd.R_over' (v := (.slice (some ⟨go35, 0, none⟩) x8_3.length co36)) (by (with_reducible repeat (first | apply Kd.R_alloc | apply Kd.R_drewN | apply Kd.R_drew)); exact HE_.out) (Kd.R_typed HO_8.out) (by decide) hg); clear HO_5; clear HO_8; clear HB; clear HE_; have HO_5 := n0_; have HO_8 := n1_; have HB := n2_; have HE_ := n3_; clear n0_ n1_ n2_ n3_; (try clear HC_); clear hg hw hp_))
                                              go_roundg k3
                                              case measure => have := HK1.out; have := HK2.out; have := HK3.out; omega
                                              case rel => exact ⟨(y169), (x11_3), (wrap64 (x51_3 + 1)), (by first | rfl | (simp; done) | (simp [*]; done)), (by first | rfl | (simp; done) | (simp [*]; done)), H', ⟨by have := HK1.out; have := HK2.out; have := HK3.out; omega⟩, ⟨by (try simp only [hl5_1]); (with_reducible repeat (first | apply Kd.S_alloc | apply Kd.S_drewN | apply Kd.S_drew)); exact HO_5.out⟩, ⟨by (try simp only [hl5_1]); (with_reducible repeat (first | apply Kd.R_alloc | apply Kd.R_drewN | apply Kd.R_drew)); exact HO_8.out⟩, ⟨by (with_reducible repeat (first | apply Kd.R_alloc | apply Kd.R_drewN | apply Kd.R_drew)); exact HE_.out⟩, ⟨by repeat (first | (with_reducible first | exact HB.out | apply below_alloc | apply pw_below_drewN | apply below_drew1) | exact HB.out)⟩⟩
                                            · rw [if_neg c34] at H
                                              exact absurd H (by simp)
                                          · rw [if_neg c33] at H
                                            exact absurd H (by simp)
                                      · rw [if_neg c29] at H
                                        exact absurd H (by simp)
                                    · rw [if_neg c28] at H
                                      exact absurd H (by simp)
                                  · rw [if_neg c27] at H
                                    have c27b0 : decide (x51_3 < (y163.length : Int)) = false := decide_eq_false c27
                                    (try (have c27b0h := c27b0; simp only [hl5_1] at c27b0h))
                                    clear c27
                                    have H' := Aside0.mk H
                                    clear H
                                    go_wp2
                                    go_roundg k3
                                    case measure => have := HK1.out; have := HK2.out; have := HK3.out; omega
                                    case rel => exact ⟨(x8_3), (wrap64 (2 * x11_3)), (wrap64 (x10_2 - 1)), (by first | rfl | (simp; done) | (simp [*]; done)), (by first | rfl | (simp; done) | (simp [*]; done)), H', ⟨by have := HK1.out; have := HK2.out; have := HK3.out; omega⟩, ⟨by (try simp only [hl5_1]); (with_reducible repeat (first | apply Kd.S_alloc | apply Kd.S_drewN | apply Kd.S_drew)); exact HO_5.out⟩, ⟨by (try simp only [hl5_1]); (with_reducible repeat (first | apply Kd.R_alloc | apply Kd.R_drewN | apply Kd.R_drew)); exact HO_8.out⟩, ⟨by repeat (first | (with_reducible first | exact HB.out | apply below_alloc | apply pw_below_drewN | apply below_drew1) | exact HB.out)⟩⟩
                            · rw [if_neg c25] at H
                              exact absurd H (by simp)
                          · rw [if_neg c24] at H
                            exact absurd H (by simp)
                        · rw [if_neg c23] at H
                          exact absurd H (by simp)
                      · rw [if_neg c22] at H
                        exact absurd H (by simp)
                    · rw [if_neg c21] at H
                      have c21b0 : decide (0 ≤ x10_2) = false := decide_eq_false c21
                      clear c21
                      obtain rfl := Option.some.inj H
                      go_wp2
                      go_ret
                      exact ⟨_, by first | rfl | (simp [errW_none, errW_some] <;> rfl) | (simp [*, errW_none, errW_some] <;> rfl), by (with_reducible repeat (first | apply Kd.R_alloc | apply Kd.R_drewN | apply Kd.R_drew)); exact HO_8.out, by repeat (first | (with_reducible first | exact HB.out | apply below_alloc | apply pw_below_drewN | apply below_drew1) | exact HB.out)⟩
              · rw [if_neg c18] at H
                exact absurd H (by simp)
            · rw [if_neg c17] at H
              exact absurd H (by simp)
    · rw [if_neg c4] at H
      exact absurd H (by simp)
  · rw [if_neg c3] at H
    exact absurd H (by simp)

end Go.Proofs.Yticokbmafhpebaa.PLengths
