-- Written by a program of this work (wip/tools/pr.py), out of the translation. Not trusted: Lean checks it.
import Derived.Test.YticokbmafhpebaaPLengthsx0
import Derived.Test.YticokbmafhpebaaPLengthsx1
import Derived.Test.YticokbmafhpebaaPLengthsx3
namespace Go.Proofs.Yticokbmafhpebaa.PLengths
open Go.RowKit Go.Proofs.YticokbmafhpebaaW.PrintWords Go.Proofs.YticokbmafhpebaaW.PrintLast Go.Proofs.YticokbmafhpebaaW.PrintMore
attribute [local go_sem] max2_int min2_int max_two min_two max_three min_three max_four min_four   -- for this text's walks alone
set_option linter.unusedVariables false
set_option linter.unusedSimpArgs false

/-! ### lengths_Make: function 8 -/
def clampI (n : Nat) (i : Int) : Int := if 0 ≤ i ∧ i < n then i else 0
def cmpC (l0 : List Int) (x y : Int) : Int := Lib.compareInt (rd l0 (clampI l0.length x)) (rd l0 (clampI l0.length y))
def sortSy (l0 sy : List Int) : List Int := (Sort.insertionSort (SortI.ltOf (cmpC l0)) sy.toArray 0 sy.length).toList
def scat : List Int → List Int → List Int → List Int
  | lens, s :: ss, n :: ns => scat (lens.set s.toNat n) ss ns
  | lens, _, _ => lens
def inRange (n : Nat) (sy : List Int) : Bool := sy.all fun s => decide (0 ≤ s ∧ s < n)
def lengths_Make.f (k : Nat) (l0 : List Int) (a1 : Int) : Option (List Int × Int) :=
  (lengths_Check.f k l0 a1).bind fun e => if e = 0 then (lengths_occurring.f k l0).bind fun sy =>
      (if l0.length < 17592186044416 ∧ inRange l0.length sy = true then
      (if sy.length = 1 then some ((List.replicate l0.length 0).set (rd sy 0).toNat 1, 0)
       else if sy.length < 2 then some (List.replicate l0.length 0, 0)
       else if sy.length < 20 then (lengths_depths.f k ((sortSy l0 sy).map fun s => rd l0 s) a1).bind fun ds => (if ds.length ≤ sy.length then some (scat (List.replicate l0.length 0) (sortSy l0 sy) ds, 0) else none)
       else none) else none)
    else some ([], e)
theorem lengths_Make.mono : ∀ a0 a1 k, LeO (lengths_Make.f k a0 a1) (lengths_Make.f (k + 1) a0 a1) := by
  intro a0 a1 k
  unfold lengths_Make.f
  refine LeO.bind (lengths_Check.mono _ _ _) fun e => LeO.ite (LeO.bind (lengths_occurring.mono _ _) fun sy => LeO.ite (LeO.ite (LeO.refl _) (LeO.ite (LeO.refl _) (LeO.ite (LeO.bind (lengths_depths.mono _ _ _) fun ds => LeO.refl _) (LeO.refl _)))) (LeO.refl _)) (LeO.refl _)
theorem box_new (w : World) (v : Value) (t : TypeId) : (w.alloc (.cells #[v] t)).cell? ⟨w.heap.size, 0, none⟩ = some v := by
  have h : (w.alloc (.cells #[v] t)).heap[w.heap.size]? = some (.cells #[v] t (0, 0)) := by simpa using heap_alloc_new w (.cells #[v] t)
  exact (blk_cell h 0).trans rfl
theorem sortSy_swo (l0 : List Int) : Sort.SWO (SortI.ltOf (cmpC l0)) := by
  have h : ∀ x y, SortI.ltOf (cmpC l0) x y = decide (rd l0 (clampI l0.length x) < rd l0 (clampI l0.length y)) := by
    intro x y
    unfold SortI.ltOf cmpC Lib.compareInt
    by_cases h1 : rd l0 (clampI l0.length x) < rd l0 (clampI l0.length y)
    · simp [h1]
    · by_cases h2 : rd l0 (clampI l0.length x) > rd l0 (clampI l0.length y) <;> simp [h1, h2]
  refine ⟨fun x => by rw [h]; simp, fun x y z => ?_, fun x y z => ?_⟩
  · rw [h, h, h]
    simp only [decide_eq_true_eq]
    omega
  · rw [h, h, h]
    simp only [decide_eq_false_iff_not]
    omega
theorem sortSy_perm (l0 sy : List Int) : (sortSy l0 sy).Perm sy := by
  have h := (Sort.insertionSort_holds (sortSy_swo l0) sy.toArray 0 sy.toArray.size (Nat.zero_le _) (Nat.le_refl _)).1
  obtain ⟨hs, _, hp⟩ := h
  have e1 : ∀ (A : Array Int), A.size = sy.toArray.size → A.extract 0 sy.toArray.size = A := fun A hA => by rw [← hA, Array.extract_size]
  rw [e1 _ hs, e1 _ rfl] at hp
  simpa [sortSy] using hp
theorem sortSy_length (l0 sy : List Int) : (sortSy l0 sy).length = sy.length := (sortSy_perm l0 sy).length_eq
theorem inRange_mem {n : Nat} {sy : List Int} (h : inRange n sy = true) : ∀ s ∈ sy, 0 ≤ s ∧ s < n := by simpa [inRange] using h
theorem sortSy_range {l0 sy : List Int} (h : inRange l0.length sy = true) : ∀ s ∈ sortSy l0 sy, 0 ≤ s ∧ s < l0.length := fun s hs => inRange_mem h s ((sortSy_perm l0 sy).mem_iff.1 hs)
theorem clamp_id {n : Nat} {l : List Int} (h : ∀ s ∈ l, 0 ≤ s ∧ s < n) : l.map (clampI n) = l := by
  rw [List.map_congr_left (g := id)]
  · simp
  · intro s hs
    simp [clampI, h s hs]
theorem clamp_range {n : Nat} (hn : 0 < n) (x : Int) : 0 ≤ clampI n x ∧ clampI n x < n := by
  unfold clampI
  split <;> omega
theorem rd_mem {l : List Int} {x : Int} (h0 : 0 ≤ x) (h1 : x < l.length) : rd l x ∈ l := by
  unfold rd
  have h : x.toNat < l.length := by omega
  rw [List.getD_eq_getElem?_getD, List.getElem?_eq_getElem h]
  exact List.getElem_mem h
/-- the row of the call's own behind the sort -/
theorem R_sorted {e : Nat} {W : World} {base : Nat} {ok : Nat → Prop} {g cap : Nat} {xs : List Int} (h : (Kd.int .i64).R e W base ok (.slice (some ⟨g, 0, none⟩) xs.length cap) xs) (fe : Int → Int) (d : Array Int) (hd : d.size = xs.length) (m : Nat) :
    (Kd.int .i64).R e ((Sort.putRow (fun x => Value.int .i64 (fe x)) W g 0 d).drewN m) base ok (.slice (some ⟨g, 0, none⟩) xs.length cap) (d.toList.map fe) ∧ W.grownBy ((Sort.putRow (fun x => Value.int .i64 (fe x)) W g 0 d).drewN m) (some g) := by
  have ho := Kd.own_of_R h
  obtain ⟨h1, h2⟩ := ho
  have hok := h.1
  refine ⟨Kd.R_drewN ?_ m, ?_⟩
  · refine Kd.R_of_own (enc := Value.int .i64) (h1 := fun _ => rfl) ⟨by simp [encs, hd], ?_⟩ hok
    rcases h2 with ⟨he, h0⟩ | ⟨g', cap', cur, he, hb, hh, hnc, hcm, hcs, ht⟩
    · injection he with he
      cases he
    · injection he with he1 he2 he3
      injection he1 with he1
      injection he1 with he1
      subst he1; subst he3
      refine .inr ⟨g, cap, Sort.putCells (fun x => Value.int .i64 (fe x)) 0 d cur, by simp [hd], hb, ?_, by simpa [hd] using hnc, hcm, by simpa [Sort.putCells] using hcs, ?_⟩
      · unfold Sort.putRow Sort.mapBlock
        simp [Array.getElem?_modify, hh, Sort.onCells]
      · apply List.ext_getElem?
        intro j
        simp only [List.length_map, Array.length_toList, Nat.mul_one]
        by_cases hj : j < d.size
        · rw [List.getElem?_take, if_pos (by simpa using hj)]
          have hjc : j < cur.size := by omega
          simp [Sort.putCells, encs, hjc, hj]
        · rw [List.getElem?_eq_none (by simp; omega), List.getElem?_eq_none (by simp [encs]; omega)]
  · refine ⟨rfl, rfl, rfl, ?_, ?_⟩
    · show W.heap.size ≤ ((Sort.putRow _ W g 0 d).drewN m).heap.size
      simp [Sort.putRow, Sort.mapBlock]
    · intro k hk hne
      have hgk : g ≠ k := fun e => hne (by rw [e])
      simp [Sort.putRow, Sort.mapBlock, Array.getElem?_modify, hgk]
theorem holds_of_R {e : Nat} {W : World} {base : Nat} {ok : Nat → Prop} {g cap n : Nat} {xs : List Int} (h : (Kd.int .i64).R e W base ok (.slice (some ⟨g, 0, none⟩) xs.length cap) xs) (hx : ∀ s ∈ xs, 0 ≤ s ∧ s < n) :
    Sort.Holds (fun x => Value.int .i64 (clampI n x)) W g 0 xs.toArray := by
  intro j hj
  have hj' : j < xs.length := by simpa using hj
  have hc := Kd.R_celln 0 h (j : Int) (by omega) (by omega)
  simp only [Int.toNat_natCast] at hc
  have he : clampI n (xs.toArray)[j]! = xs[j] := by
    rw [getElem!_pos _ j hj]
    simp [clampI, hx _ (List.getElem_mem hj')]
  refine ⟨?_, by simpa using hc.2⟩
  have h1 := hc.1
  simp only [Nat.zero_add]
  rw [h1, he]
  simp [rdOf, hj', List.getD_eq_getElem?_getD]
theorem set_step (S : List Int) (f : Int → Int) (i : Int) (h0 : 0 ≤ i) (hi : i < S.length) :
    ((S.take i.toNat).map f ++ List.replicate (S.length - i.toNat) 0).set i.toNat (f (rd S i)) = (S.take (i + 1).toNat).map f ++ List.replicate (S.length - (i + 1).toNat) 0 := by
  obtain ⟨n, rfl⟩ := Int.eq_ofNat_of_zero_le h0
  have hn : n < S.length := by omega
  simp only [Int.toNat_natCast, show ((n : Int) + 1).toNat = n + 1 from by omega]
  obtain ⟨m, hm⟩ : ∃ m, S.length - n = m + 1 := ⟨S.length - n - 1, by omega⟩
  have hm' : S.length - (n + 1) = m := by omega
  have hl : ((S.take n).map f).length = n := by simp; omega
  rw [hm, hm', List.replicate_succ, List.take_succ_eq_append_getElem hn, List.map_append, List.set_append_right _ _ (by omega), hl, Nat.sub_self, List.set_cons_zero]
  simp [rd, List.getD_eq_getElem?_getD, hn]
theorem scat_snoc (L : List Int) : ∀ (S D : List Int) (s n : Int), S.length = D.length → scat L (S ++ [s]) (D ++ [n]) = (scat L S D).set s.toNat n := by
  intro S
  induction S generalizing L with
  | nil => intro D s n h; cases D with
    | nil => rfl
    | cons d D => simp at h
  | cons a S ih => intro D s n h; cases D with
    | nil => simp at h
    | cons d D => exact ih (L.set a.toNat d) D s n (by simpa using h)
theorem scat_step (L S D : List Int) (i : Int) (h0 : 0 ≤ i) (h1 : i < S.length) (h2 : i < D.length) :
    scat L (S.take (i + 1).toNat) (D.take (i + 1).toNat) = (scat L (S.take i.toNat) (D.take i.toNat)).set (rd S i).toNat (rd D i) := by
  obtain ⟨n, rfl⟩ := Int.eq_ofNat_of_zero_le h0
  simp only [Int.toNat_natCast, show ((n : Int) + 1).toNat = n + 1 from by omega]
  have a1 : n < S.length := by omega
  have a2 : n < D.length := by omega
  rw [List.take_succ_eq_append_getElem a1, List.take_succ_eq_append_getElem a2, scat_snoc _ _ _ _ _ (by simp; omega)]
  simp [rd, List.getD_eq_getElem?_getD, a1, a2]
theorem scat_short (L : List Int) : ∀ (S D : List Int), D.length ≤ S.length → scat L (S.take D.length) D = scat L S D := by
  intro S
  induction S generalizing L with
  | nil => intro D h; simp
  | cons a S ih => intro D h; cases D with
    | nil => cases S <;> simp [scat]
    | cons d D => exact ih (L.set a.toNat d) D (by simpa using h)
theorem scat_length (L : List Int) : ∀ (S D : List Int), (scat L S D).length = L.length := by
  intro S
  induction S generalizing L with
  | nil => intro D; cases D <;> rfl
  | cons a S ih => intro D; cases D with
    | nil => rfl
    | cons d D => exact (ih (L.set a.toNat d) D).trans (by simp)
theorem ne_own {k g n c : Nat} (h : some k ≠ (Value.slice (some ⟨g, 0, none⟩) n c).ownBlock) : k ≠ g := fun e => h (by rw [e]; rfl)
theorem own_ne_ {k g n c : Nat} (h : k ≠ g) : some k ≠ (Value.slice (some ⟨g, 0, none⟩) n c).ownBlock := fun e => h (by simpa [Value.ownBlock] using e)
theorem make_cmp {w w4 : World} (ad : Addr) (c0 : Nat) (l0 : List Int) (hC : Kd.C (Kd.int .i64) w (some ad) l0.length l0) (hB : Below w.heap.size w w4) (hx : w4.cell? ⟨w.heap.size, 0, none⟩ = some (.slice (some ad) l0.length c0)) (g4 : Nat) (hg : w.heap.size < g4) (hn : 0 < l0.length) (size : Nat) :
    SortI.CmpR 14 #[.pointer (some ⟨w.heap.size, 0, none⟩)] (fun x => Value.int .i64 (clampI l0.length x)) (cmpC l0) g4 0 size w4 := by
  intro X hX x y m
  have hcell : ∀ a : Addr, a.block ≠ g4 → ((Sort.putRow (fun x => Value.int .i64 (clampI l0.length x)) w4 g4 0 X).drewN m).cell? a = w4.cell? a := fun a h => Sort.cell?_putRow_other _ w4 g4 0 X a (.inl h)
  have hat : ∀ z : Int, ((Sort.putRow (fun x => Value.int .i64 (clampI l0.length x)) w4 g4 0 X).drewN m).cell? (ad.add (clampI l0.length z).toNat) = some (.int .i64 (rd l0 (clampI l0.length z))) := by
    intro z
    obtain ⟨z0, z1⟩ := clamp_range hn z
    obtain ⟨ad', he, hc⟩ := Kd.at_int hC _ z0 z1
    injection he with he
    subst he
    have hlt := World.block_lt_of_cell? w _ hc
    rw [hcell _ (by omega), hB.cell hlt, hc]
  obtain ⟨x0, x1⟩ := clamp_range hn x
  obtain ⟨y0, y1⟩ := clamp_range hn y
  exact SortI.closure w.heap.size ad l0.length c0 _ _ _ _ _ (by rw [hcell _ (by show w.heap.size ≠ g4; omega)]; exact hx) (hat x) (hat y) x0 x1 y0 y1
/-- what stands behind the sort -/
theorem after_sort {w w4 w5 : World} {ad : Addr} {c0 : Nat} {l0 sy S lens : List Int} {g3 cap3 g4 co4 m5 : Nat} (hin : inRange l0.length sy = true) (hS : S = sortSy l0 sy)
    (HS : (Kd.int .i64).R 3 w4 w.heap.size (fun k => k ≠ g3) (.slice (some ⟨g4, 0, none⟩) sy.length co4) sy) (HL : (Kd.int .i64).R 3 w4 w.heap.size (fun k => k ≠ g4) (.slice (some ⟨g3, 0, none⟩) l0.length cap3) lens) (HB : Below w.heap.size w w4)
    (hx : w4.cell? ⟨w.heap.size, 0, none⟩ = some (.slice (some ad) l0.length c0)) (hg : w.heap.size < g4)
    (hw : w5 = (Sort.putRow (fun x => Value.int .i64 (clampI l0.length x)) w4 g4 0 (Sort.insertionSort (SortI.ltOf (cmpC l0)) sy.toArray 0 sy.toArray.size)).drewN m5) :
    (Kd.int .i64).R 3 w5 w.heap.size (fun k => k ≠ g3) (.slice (some ⟨g4, 0, none⟩) sy.length co4) S ∧ (Kd.int .i64).R 3 w5 w.heap.size (fun k => k ≠ g4) (.slice (some ⟨g3, 0, none⟩) l0.length cap3) lens ∧ Below w.heap.size w w5 ∧ w5.cell? ⟨w.heap.size, 0, none⟩ = some (.slice (some ad) l0.length c0) := by
  have hsz := (Sort.insertionSort_holds (sortSy_swo l0) sy.toArray 0 sy.toArray.size (Nat.zero_le _) (Nat.le_refl _)).1.1
  have h := R_sorted HS (clampI l0.length) (Sort.insertionSort (SortI.ltOf (cmpC l0)) sy.toArray 0 sy.toArray.size) (by rw [hsz]; simp) m5
  rw [← hw] at h
  have e1 : (Sort.insertionSort (SortI.ltOf (cmpC l0)) sy.toArray 0 sy.toArray.size).toList.map (clampI l0.length) = S := by
    rw [hS]
    exact clamp_id (sortSy_range hin)
  rw [e1] at h
  refine ⟨h.1, Kd.R_grown HL h.2 (fun k hk e => hk (by injection e)), HB.grown h.2 HB.size (fun k e => by injection e with e; omega), h.2.cell hx (by simp; omega)⟩
/-- a row is made (or handed back): what is held is none of it -/
theorem elder_ {W W1 : World} {e e' base : Nat} {ok ok1 : Nat → Prop} {u : Value} {xs ys : List Int} {g n c : Nat} (h : (Kd.int .i64).R e W base ok u xs) (hn : (Kd.int .i64).R e' W1 W.heap.size ok1 (.slice (some ⟨g, 0, none⟩) n c) ys) (hb : Below W.heap.size W W1) : (Kd.int .i64).R e W1 base (fun k => ok k ∧ k ≠ g) u xs :=
  Kd.R_mono (Kd.R_elder' h (Kd.R_base hn) hb) (fun k hk => ⟨hk.1, ne_own hk.2⟩)
theorem newer_ {W W1 : World} {e e' base base' : Nat} {ok ok1 : Nat → Prop} {xs ys : List Int} {g n c : Nat} {v : Value} (hn : (Kd.int .i64).R e' W1 W.heap.size ok1 v ys) (h : (Kd.int .i64).R e W base ok (.slice (some ⟨g, 0, none⟩) n c) xs) (hle : base' ≤ W.heap.size) : (Kd.int .i64).R e' W1 base' (fun k => ok1 k ∧ k ≠ g) v ys :=
  Kd.R_mono (Kd.R_lower (Kd.R_new' hn (Kd.R_lt h)) hle) (fun k hk => ⟨hk.1, ne_own hk.2⟩)
set_option maxHeartbeats 8000000 in
set_option maxRecDepth 100000 in
theorem make_err (k : Nat) (A0 : Option Addr) (c0 : Nat) (l0 : List Int) (a1 : Int) (e : Int) (w : World) (hr0 : Kd.C (Kd.int .i64) w A0 l0.length l0) (hc0 : l0.length ≤ c0) (hE : lengths_Check.f k l0 a1 = some e) (he : e ≠ 0) :
    Calls Try.prog 8 #[.slice A0 l0.length c0, .int .i64 a1] w fun e' w' => ∃ v0_ : Value, e' = .returned (.tuple #[v0_, .int .i64 e]) ∧ Kd.R (Kd.int .i64) 3 w' w.heap.size (fun _ => True) v0_ [] ∧ Below w.heap.size w w' := by
  have HR0 := Aside0.mk hr0
  have HC0 := Aside0.mk hc0
  have HE := Aside0.mk hE
  have e1 : (e != 0) = true := by simpa using he
  clear hr0 hc0 hE he
  go_enter Try.func8, Try.ntmps8
  go_wp2_with (go_at_call 11; refine (lengths_Check.calls k A0 c0 l0 a1 e _ (Kd.C_alloc HR0.out _) HC0.out HE.out).mono ?_; rintro e' w2 ⟨rfl, hb⟩)
  go_ret2
  exact ⟨_, rfl, Kd.R_nil _ _ _ _ _, below_then ((Below.refl w.heap.size w).alloc (Nat.le_refl _) _) (by simp) hb⟩

set_option maxHeartbeats 8000000 in
set_option maxRecDepth 100000 in
theorem make_few (k : Nat) (A0 : Option Addr) (c0 : Nat) (l0 : List Int) (a1 : Int) (sy : List Int) (w : World) (hr0 : Kd.C (Kd.int .i64) w A0 l0.length l0) (hc0 : l0.length ≤ c0) (hE : lengths_Check.f k l0 a1 = some 0) (hS : lengths_occurring.f k l0 = some sy)
    (hlen : l0.length < 17592186044416) (hin : inRange l0.length sy = true) (h2 : sy.length < 2) (h1 : sy.length ≠ 1) :
    Calls Try.prog 8 #[.slice A0 l0.length c0, .int .i64 a1] w fun e' w' => ∃ v0_ : Value, e' = .returned (.tuple #[v0_, .int .i64 0]) ∧ Kd.R (Kd.int .i64) 3 w' w.heap.size (fun _ => True) v0_ (List.replicate l0.length 0) ∧ Below w.heap.size w w' := by
  have HR0 := Aside0.mk hr0
  have HC0 := Aside0.mk hc0
  have HE := Aside0.mk hE
  have HS := Aside0.mk hS
  clear hr0 hc0 hE hS
  have e1 : ((sy.length : Int) == 1) = false := by simp; omega
  have e2 : decide ((sy.length : Int) < 2) = true := by simp; omega
  go_enter Try.func8, Try.ntmps8
  go_wp2_with (first | (go_at_call 11; refine (lengths_Check.calls k A0 c0 l0 a1 0 _ (Kd.C_alloc HR0.out _) HC0.out HE.out).mono ?_; rintro e' w2 ⟨rfl, hb2⟩; have HB2 := Aside0.mk (below_then ((Below.refl w.heap.size w).alloc (Nat.le_refl _) _) (by simp) hb2); have hx2 := (hb2.cell (p := ⟨w.heap.size, 0, none⟩) (by simp)).trans (box_new w _ _); clear hb2) | ((with_reducible refine gate_dst (N := 22) rfl ?_); refine Kd.R_make (Kd.int .i64) _ 3 rfl (N := 22) rfl 22 _ _ rfl (l0.length : Int) rfl rfl Try.underlying22 (.int .i64 0) 8 info3 rfl (by decide) (by omega) 0 (ok := fun _ => True) (okp := fun _ => True) rfl (fun _ hk => hk) trivial (by omega) (by omega) (Below.refl _ _) (Nat.le_refl _) ?_; intro v3 w3 ho3 hb3 hg3 hn3; clear hg3 hn3; simp only [Int.toNat_natCast] at ho3; have HL3 := Aside0.mk (Kd.R_lower ho3 HB2.out.size); have HB3 := Aside0.mk (below_step HB2.out hb3); have hx3 := (hb3.cell (p := ⟨w.heap.size, 0, none⟩) (World.block_lt_of_cell? _ _ hx2)).trans hx2; clear ho3 hb3 hx2 HB2) | (go_at_call 12; refine (lengths_occurring.calls k A0 c0 l0 _ _ (Kd.C_below HR0.out HB3.out) HC0.out HS.out).mono ?_; rintro e' w4 ⟨v4, rfl, ho4, hb4⟩; have HL4 := Aside0.mk (Kd.R_elder' HL3.out (Kd.R_base ho4) hb4); have HS4 := Aside0.mk (Kd.R_lower (Kd.R_new' ho4 (Kd.R_lt HL3.out)) HB3.out.size); have HB4 := Aside0.mk (below_step HB3.out hb4); have hx4 := (hb4.cell (p := ⟨w.heap.size, 0, none⟩) (World.block_lt_of_cell? _ _ hx3)).trans hx3; obtain ⟨Ao4, co4, eo4⟩ := Kd.R_slice ho4; subst eo4; clear ho4 hb4 hx3 HL3 HB3))
  go_ret2
  exact ⟨_, rfl, Kd.R_mono HL4.out (fun _ _ => trivial), HB4.out⟩

set_option maxHeartbeats 8000000 in
set_option maxRecDepth 100000 in
theorem make_one (k : Nat) (A0 : Option Addr) (c0 : Nat) (l0 : List Int) (a1 : Int) (sy : List Int) (w : World) (hr0 : Kd.C (Kd.int .i64) w A0 l0.length l0) (hc0 : l0.length ≤ c0) (hE : lengths_Check.f k l0 a1 = some 0) (hS : lengths_occurring.f k l0 = some sy)
    (hlen : l0.length < 17592186044416) (hin : inRange l0.length sy = true) (h1 : sy.length = 1) :
    Calls Try.prog 8 #[.slice A0 l0.length c0, .int .i64 a1] w fun e' w' => ∃ v0_ : Value, e' = .returned (.tuple #[v0_, .int .i64 0]) ∧ Kd.R (Kd.int .i64) 3 w' w.heap.size (fun _ => True) v0_ ((List.replicate l0.length 0).set (rd sy 0).toNat 1) ∧ Below w.heap.size w w' := by
  obtain ⟨s, rfl⟩ : ∃ s, sy = [s] := by
    match sy, h1 with
    | [s], _ => exact ⟨s, rfl⟩
  have hs : 0 ≤ s ∧ s < l0.length := by simpa [inRange] using hin
  obtain ⟨s0, s1⟩ := hs
  have hrd : rd [s] 0 = s := rfl
  rw [hrd]
  clear hin h1 hrd
  have HR0 := Aside0.mk hr0
  have HC0 := Aside0.mk hc0
  have HE := Aside0.mk hE
  have HS := Aside0.mk hS
  clear hr0 hc0 hE hS
  go_enter Try.func8, Try.ntmps8
  go_wp2_with (first | (go_at_call 11; refine (lengths_Check.calls k A0 c0 l0 a1 0 _ (Kd.C_alloc HR0.out _) HC0.out HE.out).mono ?_; rintro e' w2 ⟨rfl, hb2⟩; have HB2 := Aside0.mk (below_then ((Below.refl w.heap.size w).alloc (Nat.le_refl _) _) (by simp) hb2); have hx2 := (hb2.cell (p := ⟨w.heap.size, 0, none⟩) (by simp)).trans (box_new w _ _); clear hb2) | ((with_reducible refine gate_dst (N := 22) rfl ?_); refine Kd.R_make (Kd.int .i64) _ 3 rfl (N := 22) rfl 22 _ _ rfl (l0.length : Int) rfl rfl Try.underlying22 (.int .i64 0) 8 info3 rfl (by decide) (by omega) 0 (ok := fun _ => True) (okp := fun _ => True) rfl (fun _ hk => hk) trivial (by omega) (by omega) (Below.refl _ _) (Nat.le_refl _) ?_; intro v3 w3 ho3 hb3 hg3 hn3; clear hg3 hn3; simp only [Int.toNat_natCast] at ho3; have HL3 := Aside0.mk (Kd.R_lower ho3 HB2.out.size); have HB3 := Aside0.mk (below_step HB2.out hb3); have hx3 := (hb3.cell (p := ⟨w.heap.size, 0, none⟩) (World.block_lt_of_cell? _ _ hx2)).trans hx2; clear ho3 hb3 hx2 HB2) | (go_at_call 12; refine (lengths_occurring.calls k A0 c0 l0 _ _ (Kd.C_below HR0.out HB3.out) HC0.out HS.out).mono ?_; rintro e' w4 ⟨v4, rfl, ho4, hb4⟩; have HL4 := Aside0.mk (Kd.R_elder' HL3.out (Kd.R_base ho4) hb4); have HS4 := Aside0.mk (Kd.R_lower (Kd.R_new' ho4 (Kd.R_lt HL3.out)) HB3.out.size); have HB4 := Aside0.mk (below_step HB3.out hb4); have hx4 := (hb4.cell (p := ⟨w.heap.size, 0, none⟩) (World.block_lt_of_cell? _ _ hx3)).trans hx3; obtain ⟨Ao4, co4, eo4⟩ := Kd.R_slice ho4; subst eo4; clear ho4 hb4 hx3 HL3 HB3; obtain ⟨ad4, ea4, hc4⟩ := Kd.at_int (Kd.R_reads' HS4.out).2.2 0 (by omega) (by simp); subst ea4; obtain ⟨g3, cap3, e3, gb3, gl3, _⟩ := Kd.R_form HL4.out (by simp; omega); subst e3; obtain ⟨hs5, hf5⟩ := Kd.R_celln 0 HL4.out s s0 (by simp; omega); have GB3 := Aside0.mk gb3; clear gb3 gl3; (try rw [show ((0 : Int)).toNat = 0 from rfl] at hc4); (try rw [Addr.add_zero'] at hc4); replace hc4 : w4.cell? ad4 = some (.int .i64 s) := hc4; have HP4 := Kd.R_putg HL4.out s 1; rw [List.length_replicate] at HP4; have hs1 : s < ((List.replicate l0.length (0 : Int)).length : Int) := (by simp; omega); clear HS4))
  go_ret2
  exact ⟨_, rfl, Kd.R_mono (show Kd.R (Kd.int .i64) 3 _ _ _ (.slice (some ⟨g3, 0, none⟩) l0.length cap3) _ from HP4.1) (fun _ _ => trivial), below_set HB4.out GB3.out⟩

set_option maxHeartbeats 8000000 in
set_option maxRecDepth 100000 in
theorem make_many (k : Nat) (ad : Addr) (c0 : Nat) (l0 : List Int) (a1 : Int) (sy S ds : List Int) (w : World) (hr0 : Kd.C (Kd.int .i64) w (some ad) l0.length l0) (hc0 : l0.length ≤ c0) (hE : lengths_Check.f k l0 a1 = some 0) (hS : lengths_occurring.f k l0 = some sy)
    (hlen : l0.length < 17592186044416) (hin : inRange l0.length sy = true) (h2 : 2 ≤ sy.length) (h20 : sy.length < 20) (hn : 0 < l0.length) (hSD : S = sortSy l0 sy) (hSL : S.length = sy.length) (hSR : ∀ s ∈ S, 0 ≤ s ∧ s < l0.length) (hD : lengths_depths.f k (S.map fun s => rd l0 s) a1 = some ds) (hDL : ds.length ≤ sy.length) :
    Calls Try.prog 8 #[.slice (some ad) l0.length c0, .int .i64 a1] w fun e' w' => ∃ v0_ : Value, e' = .returned (.tuple #[v0_, .int .i64 0]) ∧ Kd.R (Kd.int .i64) 3 w' w.heap.size (fun _ => True) v0_ (scat (List.replicate l0.length 0) S ds) ∧ Below w.heap.size w w' := by
  have HR0 := Aside0.mk hr0
  have HC0 := Aside0.mk hc0
  have HE := Aside0.mk hE
  have HS := Aside0.mk hS
  clear hr0 hc0 hE hS
  have HIN := Aside0.mk hin
  have HSD := Aside0.mk hSD
  have HSL := Aside0.mk hSL
  have HSR := Aside0.mk hSR
  have HD := Aside0.mk hD
  have HN := Aside0.mk hn
  have EG := Aside0.mk SortI.enters_closure
  clear hin hSD hSL hSR hD
  have e1 : ((sy.length : Int) == 1) = false := by simp; omega
  have e2 : decide ((sy.length : Int) < 2) = false := by simp; omega
  have e3 : ¬ (sy.length : Int) < 2 := by omega
  go_enter Try.func8, Try.ntmps8
  go_wp2_with (first | (go_at_call 11; refine (lengths_Check.calls k (some ad) c0 l0 a1 0 _ (Kd.C_alloc HR0.out _) HC0.out HE.out).mono ?_; rintro e' w2 ⟨rfl, hb2⟩; have HB2 := Aside0.mk (below_then ((Below.refl w.heap.size w).alloc (Nat.le_refl _) _) (by simp) hb2); have hx2 := (hb2.cell (p := ⟨w.heap.size, 0, none⟩) (by simp)).trans (box_new w _ _); clear hb2) | ((with_reducible refine gate_dst (N := 22) rfl ?_); refine Kd.R_make (Kd.int .i64) _ 3 rfl (N := 22) rfl 22 _ _ rfl (l0.length : Int) rfl rfl Try.underlying22 (.int .i64 0) 8 info3 rfl (by decide) (by omega) 0 (ok := fun _ => True) (okp := fun _ => True) rfl (fun _ hk => hk) trivial (by omega) (by omega) (Below.refl _ _) (Nat.le_refl _) ?_; intro v3 w3 ho3 hb3 hg3 hn3; clear hg3 hn3; simp only [Int.toNat_natCast] at ho3; have HL3 := Aside0.mk (Kd.R_lower ho3 HB2.out.size); have HB3 := Aside0.mk (below_step HB2.out hb3); have hx3 := (hb3.cell (p := ⟨w.heap.size, 0, none⟩) (World.block_lt_of_cell? _ _ hx2)).trans hx2; clear ho3 hb3 hx2 HB2) | (go_at_call 12; refine (lengths_occurring.calls k (some ad) c0 l0 _ _ (Kd.C_below HR0.out HB3.out) HC0.out HS.out).mono ?_; rintro e' w4 ⟨v4, rfl, ho4, hb4⟩; obtain ⟨g3, cap3, e3, gb3, gl3, _⟩ := Kd.R_form HL3.out (by simp; omega); subst e3; obtain ⟨g4, co4, e4, gb4, gl4, _⟩ := Kd.R_form ho4 (by omega); subst e4; have HL4 := Aside0.mk (elder_ HL3.out ho4 hb4); have HS4 := Aside0.mk (newer_ ho4 HL3.out HB3.out.size); have HB4 := Aside0.mk (below_step HB3.out hb4); have hx4 := (hb4.cell (p := ⟨w.heap.size, 0, none⟩) (World.block_lt_of_cell? _ _ hx3)).trans hx3; have HG4 := Aside0.mk (show w.heap.size < g4 from Nat.lt_of_lt_of_le (World.block_lt_of_cell? _ _ hx3) gb4); have GB3 := Aside0.mk gb3; have GL3 := Aside0.mk gl3; rw [List.length_replicate] at HL4; clear ho4 hb4 hx3 HL3 HB3 gb3 gl3 gb4 gl4) | (go_at_call 13; refine (SortI.sortStable_small (clampI l0.length) (cmpC l0) 14 #[.pointer (some ⟨w.heap.size, 0, none⟩)] g4 0 co4 sy.toArray _ EG.out (make_cmp ad c0 l0 HR0.out HB4.out hx4 g4 HG4.out HN.out _) (holds_of_R HS4.out (inRange_mem HIN.out)) (by simp; omega)).mono ?_; rintro e' w5 ⟨rfl, m5, hw5⟩; have HA5 := after_sort HIN.out HSD.out (Kd.R_mono HS4.out (fun k hk => hk.2)) (Kd.R_mono HL4.out (fun k hk => hk.2)) HB4.out hx4 HG4.out hw5; clear hw5 HL4 HS4 HB4 hx4; obtain ⟨hs5, hl5, hb5, hx5⟩ := HA5; have HS5 := Aside0.mk hs5; have HL5 := Aside0.mk hl5; have HB5 := Aside0.mk hb5; clear hs5 hl5 hb5) | ((with_reducible refine gate_dst (N := 42) rfl ?_); refine Kd.R_make (Kd.int .i64) _ 3 rfl (N := 42) rfl 22 _ _ rfl (sy.length : Int) rfl rfl Try.underlying22 (.int .i64 0) 8 info3 rfl (by decide) (by omega) 0 (ok := fun _ => True) (okp := fun _ => True) rfl (fun _ hk => hk) trivial (by omega) (by omega) (Below.refl _ _) (Nat.le_refl _) ?_; intro v6 w6 ho6 hb6 hg6 hn6; clear hg6 hn6; simp only [Int.toNat_natCast] at ho6; obtain ⟨g6, cap6, e6, gb6, gl6, _⟩ := Kd.R_form ho6 (by simp; omega); subst e6; rw [List.length_replicate] at ho6; have HS6 := Aside0.mk (elder_ HS5.out ho6 hb6); have HL6 := Aside0.mk (elder_ HL5.out ho6 hb6); have HV6 := Aside0.mk (Kd.R_lower ho6 HB5.out.size); have HB6 := Aside0.mk (below_step HB5.out hb6); have hx6 := (hb6.cell (p := ⟨w.heap.size, 0, none⟩) (World.block_lt_of_cell? _ _ hx5)).trans hx5; have HG6 := Aside0.mk (show w.heap.size < g6 from Nat.lt_of_lt_of_le (World.block_lt_of_cell? _ _ hx5) gb6); clear ho6 hb6 hx5 HS5 HL5 HB5 gb6 gl6))
  replace HV6 : Aside0 (Kd.R (Kd.int .i64) 3 w6 w.heap.size (fun _ => True) (.slice (some ⟨g6, 0, none⟩) sy.length cap6) ((S.take (0 : Int).toNat).map (fun s => rd l0 s) ++ List.replicate (S.length - (0 : Int).toNat) 0)) := by
    refine ⟨?_⟩
    have h_ := HV6.out
    rw [HSL.out]
    simpa using h_
  go_loopg [45] sy.length (fun gq v45 w' => ∃ x : Int, v45 = .int .i64 x ∧ 0 ≤ x ∧ x ≤ (sy.length : Int) ∧ ((sy.length : Int) - x).toNat ≤ gq ∧ Aside0 (Kd.R (Kd.int .i64) 3 w' w.heap.size (fun k => k ≠ g3 ∧ k ≠ g6) (.slice (some ⟨g4, 0, none⟩) sy.length co4) S) ∧ Aside0 (Kd.R (Kd.int .i64) 3 w' w.heap.size (fun k => k ≠ g4 ∧ k ≠ g6) (.slice (some ⟨g3, 0, none⟩) l0.length cap3) (List.replicate l0.length 0)) ∧ Aside0 (Kd.R (Kd.int .i64) 3 w' w.heap.size (fun _ => True) (.slice (some ⟨g6, 0, none⟩) sy.length cap6) ((S.take x.toNat).map (fun s => rd l0 s) ++ List.replicate (S.length - x.toNat) 0)) ∧ Aside0 (Below w.heap.size w w') ∧ w'.cell? ⟨w.heap.size, 0, none⟩ = some (.slice (some ad) l0.length c0))
  case atStart => exact ⟨0, rfl, by omega, by omega, by omega, HS6, HL6, HV6, HB6, hx6⟩
  case round =>
    obtain ⟨x, rfl, x0, x1, x2, HS7, HL7, HV7, HB7, hx7⟩ := hrel
    clear hx6 HS6 HL6 HV6 HB6
    by_cases hlt : x < (sy.length : Int)
    · obtain ⟨cS, fS⟩ := Kd.R_celln 0 HS7.out x x0 hlt
      obtain ⟨s, hs⟩ : ∃ s, s = rd S x := ⟨_, rfl⟩
      replace cS : wr.cell? ⟨g4, x.toNat, none⟩ = some (.int .i64 s) := by rw [hs]; exact cS
      obtain ⟨s0, s1⟩ := HSR.out s (by rw [hs]; exact rd_mem x0 (by rw [HSL.out]; exact hlt))
      have HSX := Aside0.mk hs
      obtain ⟨ad', he', cC⟩ := Kd.at_int (Kd.C_below HR0.out HB7.out) s s0 s1
      obtain rfl : ad = ad' := by injection he'
      obtain ⟨cV, fV⟩ := Kd.R_celln 0 HV7.out x x0 hlt
      have HP := Aside0.mk (Kd.R_putg HV7.out x (rd l0 s))
      clear hs fS he'
      go_wp2
      go_roundg (sy.length - 1 - x.toNat)
      case measure => omega
      case rel =>
        refine ⟨x + 1, by first | rfl | go_num, by omega, by omega, by omega, ⟨Kd.R_grown HS7.out HP.out.2 (fun k hk e => hk.2 (by injection e))⟩, ⟨Kd.R_grown HL7.out HP.out.2 (fun k hk e => hk.2 (by injection e))⟩, ⟨?_⟩, ⟨below_set HB7.out (Nat.le_of_lt HG6.out)⟩, HP.out.2.cell hx7 (by have := HG6.out; simp; omega)⟩
        have h_ := set_step S (fun s => rd l0 s) x x0 (by rw [HSL.out]; exact hlt)
        rw [← HSX.out] at h_
        rw [← h_]
        exact HP.out.1
    · obtain rfl : x = (sy.length : Int) := by omega
      have hV := HV7.out
      have eV : (S.take (sy.length : Int).toNat).map (fun s => rd l0 s) ++ List.replicate (S.length - (sy.length : Int).toNat) 0 = S.map (fun s => rd l0 s) := by
        rw [Int.toNat_natCast, ← HSL.out, List.take_length, Nat.sub_self]
        simp
      rw [eV] at hV
      have hlm : (S.map fun s => rd l0 s).length = sy.length := by rw [List.length_map, HSL.out]
      have hdep := lengths_depths.calls k (some ⟨g6, 0, none⟩) cap6 (S.map fun s => rd l0 s) a1 ds wr (Kd.R_reads' hV).2.2 (by rw [hlm]; exact (Kd.R_reads' hV).2.1) HD.out
      rw [hlm] at hdep
      have HDEP := Aside0.mk hdep
      have e4 : decide ((sy.length : Int) < (sy.length : Int)) = false := by simp
      clear hV eV hlm hdep HV7 hx7 x0 x1 x2
      go_wp2_with (go_at_call 16; refine HDEP.out.mono ?_; rintro e' w8 ⟨v8, rfl, ho8, hb8⟩; obtain ⟨A8, co8, eo8⟩ := Kd.R_slice ho8; subst eo8; have HS8 := Aside0.mk (Kd.R_below HS7.out hb8); have HL8 := Aside0.mk (Kd.R_mono (Kd.R_elder' HL7.out (Kd.R_base ho8) hb8) (ok' := fun k => some k ≠ (Value.slice A8 ds.length co8).ownBlock) (fun k hk => hk.2)); have HD8 := Aside0.mk (newer_ ho8 HL7.out HB7.out.size); have HB8 := Aside0.mk (below_step HB7.out hb8); clear ho8 hb8 HS7 HL7 HB7 HDEP)
      replace HL8 : Aside0 (Kd.R (Kd.int .i64) 3 w8 w.heap.size (fun k => some k ≠ (Value.slice A8 ds.length co8).ownBlock) (.slice (some ⟨g3, 0, none⟩) l0.length cap3) (scat (List.replicate l0.length 0) (S.take (0 : Int).toNat) (ds.take (0 : Int).toNat))) := HL8
      go_loopg [62] ds.length (fun gq v62 w' => ∃ x : Int, v62 = .int .i64 x ∧ 0 ≤ x ∧ x ≤ (ds.length : Int) ∧ ((ds.length : Int) - x).toNat ≤ gq ∧ Aside0 (Kd.R (Kd.int .i64) 3 w' w.heap.size (fun k => k ≠ g3 ∧ k ≠ g6) (.slice (some ⟨g4, 0, none⟩) sy.length co4) S) ∧ Aside0 (Kd.R (Kd.int .i64) 3 w' w.heap.size (fun k => some k ≠ (Value.slice A8 ds.length co8).ownBlock) (.slice (some ⟨g3, 0, none⟩) l0.length cap3) (scat (List.replicate l0.length 0) (S.take x.toNat) (ds.take x.toNat))) ∧ Aside0 (Kd.R (Kd.int .i64) 3 w' w.heap.size (fun k => True ∧ k ≠ g3) (.slice A8 ds.length co8) ds) ∧ Aside0 (Below w.heap.size w w'))
      case atStart => exact ⟨0, rfl, by omega, by omega, by omega, HS8, HL8, HD8, HB8⟩
      case round =>
        obtain ⟨x, rfl, x0, x1, x2, HS9, HL9, HD9, HB9⟩ := hrel
        clear HS8 HL8 HD8 HB8
        by_cases hlt : x < (ds.length : Int)
        · have hls : x < (sy.length : Int) := by omega
          obtain ⟨cS, fS⟩ := Kd.R_celln 0 HS9.out x x0 hls
          obtain ⟨s, hs⟩ : ∃ s, s = rd S x := ⟨_, rfl⟩
          replace cS : wr.cell? ⟨g4, x.toNat, none⟩ = some (.int .i64 s) := by rw [hs]; exact cS
          obtain ⟨s0, s1⟩ := HSR.out s (by rw [hs]; exact rd_mem x0 (by rw [HSL.out]; exact hls))
          have HSX := Aside0.mk hs
          obtain ⟨ad', he', cD⟩ := Kd.at_int (Kd.R_reads' HD9.out).2.2 x x0 hlt
          subst he'
          obtain ⟨cL, fL⟩ := Kd.R_celln 0 HL9.out s s0 s1
          have HP := Aside0.mk (Kd.R_putg HL9.out s (rd ds x))
          clear hs fS
          go_wp2
          go_roundg (ds.length - 1 - x.toNat)
          case measure => omega
          case rel =>
            refine ⟨x + 1, by first | rfl | go_num, by omega, by omega, by omega, ⟨Kd.R_grown HS9.out HP.out.2 (fun k hk e => hk.1 (by injection e))⟩, ⟨?_⟩, ⟨Kd.R_grown HD9.out HP.out.2 (fun k hk e => hk.2 (by injection e))⟩, ⟨below_set HB9.out GB3.out⟩⟩
            rw [scat_step _ S ds x x0 (by rw [HSL.out]; exact hls) hlt, ← HSX.out]
            exact HP.out.1
        · obtain rfl : x = (ds.length : Int) := by omega
          have h_ := HL9.out
          rw [Int.toNat_natCast, List.take_length, scat_short _ _ _ (by rw [HSL.out]; omega)] at h_
          have HZ := Aside0.mk (Kd.R_mono (ok' := fun _ => True) h_ (fun _ _ => trivial))
          clear h_ HL9 HS9 HD9
          go_wp2
          go_ret2
          exact ⟨_, rfl, HZ.out, HB9.out⟩

theorem lengths_Make.calls (k : Nat) (A0 : Option Addr) (c0 : Nat) (l0 : List Int) (a1 : Int) (r1 : List Int) (r2 : Int) (w : World) (hr0 : Kd.C (Kd.int .i64) w A0 l0.length l0) (hc0 : l0.length ≤ c0) (h : lengths_Make.f k l0 a1 = some (r1, r2)) :
    Calls Try.prog 8 #[.slice A0 l0.length c0, .int .i64 a1] w fun e w' => ∃ v0_ : Value, e = .returned (.tuple #[v0_, .int .i64 r2]) ∧ Kd.R (Kd.int .i64) 3 w' w.heap.size (fun _ => True) v0_ r1 ∧ Below w.heap.size w w' := by
  unfold lengths_Make.f at h
  obtain ⟨e, hE, h⟩ := Option.bind_eq_some_iff.mp h
  by_cases he : e = 0
  · subst he
    rw [if_pos rfl] at h
    obtain ⟨sy, hS, h⟩ := Option.bind_eq_some_iff.mp h
    by_cases hc : l0.length < 17592186044416 ∧ inRange l0.length sy = true
    · rw [if_pos hc] at h
      obtain ⟨hlen, hin⟩ := hc
      by_cases h1 : sy.length = 1
      · rw [if_pos h1] at h
        simp only [Option.some.injEq, Prod.mk.injEq] at h
        obtain ⟨rfl, rfl⟩ := h
        exact make_one k A0 c0 l0 a1 sy w hr0 hc0 hE hS hlen hin h1
      · rw [if_neg h1] at h
        by_cases h2 : sy.length < 2
        · rw [if_pos h2] at h
          simp only [Option.some.injEq, Prod.mk.injEq] at h
          obtain ⟨rfl, rfl⟩ := h
          exact make_few k A0 c0 l0 a1 sy w hr0 hc0 hE hS hlen hin h2 h1
        · rw [if_neg h2] at h
          by_cases h20 : sy.length < 20
          · rw [if_pos h20] at h
            obtain ⟨ds, hD, h⟩ := Option.bind_eq_some_iff.mp h
            by_cases hDL : ds.length ≤ sy.length
            · rw [if_pos hDL] at h
              simp only [Option.some.injEq, Prod.mk.injEq] at h
              obtain ⟨rfl, rfl⟩ := h
              have hn : 0 < l0.length := by
                match sy, h2 with
                | s :: _, _ =>
                  have := inRange_mem hin s List.mem_cons_self
                  omega
              obtain ⟨ad, rfl, _⟩ := Kd.at_int hr0 0 (by omega) (by omega)
              exact make_many k ad c0 l0 a1 sy (sortSy l0 sy) ds w hr0 hc0 hE hS hlen hin (by omega) h20 hn rfl (sortSy_length l0 sy) (sortSy_range hin) hD hDL
            · rw [if_neg hDL] at h
              exact absurd h (by simp)
          · rw [if_neg h20] at h
            exact absurd h (by simp)
    · rw [if_neg hc] at h
      exact absurd h (by simp)
  · rw [if_neg he] at h
    simp only [Option.some.injEq, Prod.mk.injEq] at h
    obtain ⟨rfl, rfl⟩ := h
    exact make_err k A0 c0 l0 a1 e w hr0 hc0 hE he


/-! ### punnetlaw07_awake: function 5 -/
def punnetlaw07_awake.f (k : Nat)  : Option (Bool) := (lengths_Make.f k (([1, 1, 2] : List Int)) 15).bind fun bt173 => (if bt173.2 = 0 then (if (bt173.1.length : Int) = 3 then (if 0 < (bt173.1.length : Int) then (if (rd bt173.1 0) = 2 then (if 1 < (bt173.1.length : Int) then (if (rd bt173.1 1) = 2 then (if 2 < (bt173.1.length : Int) then (if (rd bt173.1 2) = 1 then (some true) else (some false)) else (none)) else (some false)) else (none)) else (some false)) else (none)) else (some false)) else (some false))
theorem punnetlaw07_awake.mono : ∀ k, LeO (punnetlaw07_awake.f k ) (punnetlaw07_awake.f (k + 1) ) := by
  intro  k
  unfold punnetlaw07_awake.f
  repeat' first
      | (with_reducible exact lengths_Make.mono _ _ _)
      | (with_reducible exact LeO.refl _)
      | (with_reducible exact LeO.none _)
      | (with_reducible refine LeO.ite ?_ ?_)
      | (with_reducible refine LeO.bind ?_ (fun _ => ?_))
      | exact lengths_Make.mono _ _ _
      | exact LeO.none _
      | refine LeO.ite ?_ ?_
      | refine LeO.bind ?_ (fun _ => ?_)
set_option maxHeartbeats 8000000 in
set_option maxRecDepth 100000 in
theorem punnetlaw07_awake.calls (k : Nat)  (r : Bool) (w : World) (h : punnetlaw07_awake.f k  = some r) :
    Calls Try.prog 5 #[] w fun e w' => e = .returned (.bool r) ∧ Below w.heap.size w w' := by
  have HB := Aside0.mk (Below.refl w.heap.size w)
  have H : ((lengths_Make.f k (([1, 1, 2] : List Int)) 15).bind fun bt173 => (if bt173.2 = 0 then (if (bt173.1.length : Int) = 3 then (if 0 < (bt173.1.length : Int) then (if (rd bt173.1 0) = 2 then (if 1 < (bt173.1.length : Int) then (if (rd bt173.1 1) = 2 then (if 2 < (bt173.1.length : Int) then (if (rd bt173.1 2) = 1 then (some true) else (some false)) else (none)) else (some false)) else (none)) else (some false)) else (none)) else (some false)) else (some false))) = some r := h
  clear h
  obtain ⟨y170, hy170⟩ : ∃ y_ : List Int, y_ = (([1, 1, 2] : List Int)) := ⟨_, rfl⟩
  replace H : ((lengths_Make.f k y170 15).bind fun bt173 => (if bt173.2 = 0 then (if (bt173.1.length : Int) = 3 then (if 0 < (bt173.1.length : Int) then (if (rd bt173.1 0) = 2 then (if 1 < (bt173.1.length : Int) then (if (rd bt173.1 1) = 2 then (if 2 < (bt173.1.length : Int) then (if (rd bt173.1 2) = 1 then (some true) else (some false)) else (none)) else (some false)) else (none)) else (some false)) else (none)) else (some false)) else (some false))) = some r := by first | (rw [hy170]; with_reducible exact H) | (have H2_ := (Option.bind_some _ _).symm.trans H; rw [hy170]; with_reducible exact H2_) | (have H2_ := (Option.bind_some _ _).symm.trans H; with_reducible exact H2_) | with_reducible exact H | (rw [hy170]; exact H) | exact H
  have Ny170 := Aside0.mk hy170
  clear hy170
  replace H := Option.bind_eq_some_iff.mp H
  obtain ⟨⟨t173, t174⟩, A10, H⟩ := H
  replace H : (if t174 = 0 then (if (t173.length : Int) = 3 then (if 0 < (t173.length : Int) then (if (rd t173 0) = 2 then (if 1 < (t173.length : Int) then (if (rd t173 1) = 2 then (if 2 < (t173.length : Int) then (if (rd t173 2) = 1 then (some true) else (some false)) else (none)) else (some false)) else (none)) else (some false)) else (none)) else (some false)) else (some false)) = some r := H
  have A1 := Aside0.mk A10
  clear A10
  by_cases c2 : t174 = 0
  · rw [if_pos c2] at H
    have c2b0 : (t174 == 0) = true := beq_iff_eq.mpr c2
    have c2b1 : (t174 != 0) = false := bne_eq_false_iff_eq.mpr c2
    clear c2
    by_cases c3 : (t173.length : Int) = 3
    · rw [if_pos c3] at H
      have c3b0 : ((t173.length : Int) == 3) = true := beq_iff_eq.mpr c3
      have c3b1 : ((t173.length : Int) != 3) = false := bne_eq_false_iff_eq.mpr c3
      clear c3
      by_cases c4 : 0 < (t173.length : Int)
      · rw [if_pos c4] at H
        have c4b0 : decide (0 < (t173.length : Int)) = true := decide_eq_true c4
        have c4b1 : decide (0 < t173.length) = true := decide_eq_true (by omega)
        clear c4
        by_cases c5 : (rd t173 0) = 2
        · rw [if_pos c5] at H
          have c5b0 : ((rd t173 0) == 2) = true := beq_iff_eq.mpr c5
          have c5b1 : ((rd t173 0) != 2) = false := bne_eq_false_iff_eq.mpr c5
          clear c5
          by_cases c6 : 1 < (t173.length : Int)
          · rw [if_pos c6] at H
            have c6b0 : decide (1 < (t173.length : Int)) = true := decide_eq_true c6
            have c6b1 : decide (1 < t173.length) = true := decide_eq_true (by omega)
            clear c6
            by_cases c7 : (rd t173 1) = 2
            · rw [if_pos c7] at H
              have c7b0 : ((rd t173 1) == 2) = true := beq_iff_eq.mpr c7
              have c7b1 : ((rd t173 1) != 2) = false := bne_eq_false_iff_eq.mpr c7
              clear c7
              by_cases c8 : 2 < (t173.length : Int)
              · rw [if_pos c8] at H
                have c8b0 : decide (2 < (t173.length : Int)) = true := decide_eq_true c8
                have c8b1 : decide (2 < t173.length) = true := decide_eq_true (by omega)
                clear c8
                by_cases c9 : (rd t173 2) = 1
                · rw [if_pos c9] at H
                  have c9b0 : ((rd t173 2) == 1) = true := beq_iff_eq.mpr c9
                  have c9b1 : ((rd t173 2) != 1) = false := bne_eq_false_iff_eq.mpr c9
                  clear c9
                  obtain rfl := Option.some.inj H
                  go_enter Try.func5, Try.ntmps5
                  go_wp2_with (first | ((with_reducible refine gate_dst (N := 4) rfl ?_); (try (refine gate_guard (by rfl) ?_; dsimp only)); refine Kd.R_lit (Kd.int .i64) _ 3 ?hg (N := 4) ?hd (xs := ([1, 1, 2] : List Int)) (inner := [.int .i64 1, .int .i64 1, .int .i64 2]) (ok := fun _ => True) (okp := fun _ => True) ?hr ?hp (fun _ hk => hk) trivial (Below.refl _ _) (Nat.le_refl _) (by simp) ?_; (case hd => rfl); (case hg => rfl); (case hr => first | (go_simp; done) | (go_simp; rfl)); (case hp => exact (Reps.one (show Kd.M (Kd.int .i64) _ _ _ 1 [.int .i64 1] from rfl) (Reps.one (show Kd.M (Kd.int .i64) _ _ _ 1 [.int .i64 1] from rfl) (Reps.one (show Kd.M (Kd.int .i64) _ _ _ 2 [.int .i64 2] from rfl) (Reps.none _ _))))); intro v171 w10 ho11 hb hg_ hnew_; clear hg_ hnew_; (first | rw [← Ny170.out] at ho11 | (simp only [Int.reduceToNat] at ho11; rw [← Ny170.out] at ho11)); have n0_ := Aside0.mk (Kd.R_lower ho11 (below_size (by repeat (first | (with_reducible first | exact HB.out | apply below_alloc | apply pw_below_drewN | apply below_drew1) | exact HB.out)))); have n1_ := Aside0.mk (below_step (by repeat (first | (with_reducible first | exact HB.out | apply below_alloc | apply pw_below_drewN | apply below_drew1) | exact HB.out)) hb); clear HB; have HO172 := n0_; have HB := n1_; clear n0_ n1_; clear hb ho11; obtain ⟨Ao12, co12, eo12⟩ := Kd.R_slice HO172.out; subst eo12) | ((with_reducible refine gate_callee (f := 8) rfl ?_); refine goesL_ (some 5) rfl rfl Try.func8 (by kernel_rfl) rfl #[.slice Ao12 y170.length co12, .int .i64 15] rfl (by (try simp only [List.map_toArray, List.map_cons, List.map_nil]); first | done | rfl | (simp only [List.length_drop, List.length_take]; rfl)) ?_; (with_reducible refine (lengths_Make.calls k _ _ y170 15 t173 t174 _ ?side1 ?side2 A1.out).mono ?_); (case side1 => repeat (first | exact (Kd.R_reads' HO172.out).2.2 | (with_reducible refine Kd.C_alloc ?_ _) | (with_reducible refine Kd.C_drewN ?_ _) | (with_reducible refine Kd.C_drew ?_))); (case side2 => exact (Kd.R_reads' HO172.out).2.1); rintro e w13 ⟨v175, rfl, ho0, hb⟩; refine ⟨_, rfl, ?_⟩; have n0_ := Aside0.mk (Kd.R_elder' (by (with_reducible repeat (first | apply Kd.R_alloc | apply Kd.R_drewN | apply Kd.R_drew)); exact HO172.out) (Kd.R_base ho0) hb); have n1_ := Aside0.mk (Kd.R_lower (Kd.R_new' ho0 (Kd.R_lt (by (with_reducible repeat (first | apply Kd.R_alloc | apply Kd.R_drewN | apply Kd.R_drew)); exact HO172.out))) (below_size (by repeat (first | (with_reducible first | exact HB.out | apply below_alloc | apply pw_below_drewN | apply below_drew1) | exact HB.out)))); have n2_ := Aside0.mk (below_step (by repeat (first | (with_reducible first | exact HB.out | apply below_alloc | apply pw_below_drewN | apply below_drew1) | exact HB.out)) hb); clear HO172; clear HB; have HO172 := n0_; have HO176 := n1_; have HB := n2_; clear n0_ n1_ n2_; (try clear hb); (try clear hb2); (try clear hk); (try clear hi); (try clear ho0); obtain ⟨Ao14, co14, eo14⟩ := Kd.R_slice HO176.out; subst eo14; have p177 : 0 ≤ (0 : Int) := (by omega); have q177 : 0 < (t173.length : Int) := of_decide_eq_true (by first | (with_reducible assumption) | assumption); obtain ⟨ad177, e177, hx177_0⟩ := Kd.at_int (Kd.R_reads' HO176.out).2.2 0 p177 q177; cases e177; have qi177 : (0 < t173.length) = True := eq_true (by omega); (try rw [show ((0 : Int)).toNat = 0 from rfl] at hx177_0); (try rw [Addr.add_zero'] at hx177_0); replace p177 := eq_true p177; replace q177 := eq_true q177; have p178 : 0 ≤ (1 : Int) := (by omega); have q178 : 1 < (t173.length : Int) := of_decide_eq_true (by first | (with_reducible assumption) | assumption); obtain ⟨ad178, e178, hx178_0⟩ := Kd.at_int (Kd.R_reads' HO176.out).2.2 1 p178 q178; obtain rfl : ad177 = ad178 := (by injection e178); (try simp only [show (1 : Int).toNat = 1 from rfl, Nat.reduceMul, Nat.reduceEqDiff, Go.Addr.add, ↓reduceIte] at hx178_0); have qi178 : (1 < t173.length) = True := eq_true (by omega); (try rw [show ((1 : Int)).toNat = 1 from rfl] at hx178_0); replace p178 := eq_true p178; replace q178 := eq_true q178; have p179 : 0 ≤ (2 : Int) := (by omega); have q179 : 2 < (t173.length : Int) := of_decide_eq_true (by first | (with_reducible assumption) | assumption); obtain ⟨ad179, e179, hx179_0⟩ := Kd.at_int (Kd.R_reads' HO176.out).2.2 2 p179 q179; obtain rfl : ad177 = ad179 := (by injection e179); (try simp only [show (2 : Int).toNat = 2 from rfl, Nat.reduceMul, Nat.reduceEqDiff, Go.Addr.add, ↓reduceIte] at hx179_0); have qi179 : (2 < t173.length) = True := eq_true (by omega); (try rw [show ((2 : Int)).toNat = 2 from rfl] at hx179_0); replace p179 := eq_true p179; replace q179 := eq_true q179))
                  go_ret
                  exact ⟨by first | rfl | (simp [errW_none, errW_some] <;> rfl) | (simp [*, errW_none, errW_some] <;> rfl), by repeat (first | (with_reducible first | exact HB.out | apply below_alloc | apply pw_below_drewN | apply below_drew1) | exact HB.out)⟩
                · rw [if_neg c9] at H
                  have c9b0 : ((rd t173 2) == 1) = false := beq_eq_false_iff_ne.mpr c9
                  have c9b1 : ((rd t173 2) != 1) = true := bne_iff_ne.mpr c9
                  obtain rfl := Option.some.inj H
                  go_enter Try.func5, Try.ntmps5
                  go_wp2_with (first | ((with_reducible refine gate_dst (N := 4) rfl ?_); (try (refine gate_guard (by rfl) ?_; dsimp only)); refine Kd.R_lit (Kd.int .i64) _ 3 ?hg (N := 4) ?hd (xs := ([1, 1, 2] : List Int)) (inner := [.int .i64 1, .int .i64 1, .int .i64 2]) (ok := fun _ => True) (okp := fun _ => True) ?hr ?hp (fun _ hk => hk) trivial (Below.refl _ _) (Nat.le_refl _) (by simp) ?_; (case hd => rfl); (case hg => rfl); (case hr => first | (go_simp; done) | (go_simp; rfl)); (case hp => exact (Reps.one (show Kd.M (Kd.int .i64) _ _ _ 1 [.int .i64 1] from rfl) (Reps.one (show Kd.M (Kd.int .i64) _ _ _ 1 [.int .i64 1] from rfl) (Reps.one (show Kd.M (Kd.int .i64) _ _ _ 2 [.int .i64 2] from rfl) (Reps.none _ _))))); intro v171 w15 ho16 hb hg_ hnew_; clear hg_ hnew_; (first | rw [← Ny170.out] at ho16 | (simp only [Int.reduceToNat] at ho16; rw [← Ny170.out] at ho16)); have n0_ := Aside0.mk (Kd.R_lower ho16 (below_size (by repeat (first | (with_reducible first | exact HB.out | apply below_alloc | apply pw_below_drewN | apply below_drew1) | exact HB.out)))); have n1_ := Aside0.mk (below_step (by repeat (first | (with_reducible first | exact HB.out | apply below_alloc | apply pw_below_drewN | apply below_drew1) | exact HB.out)) hb); clear HB; have HO172 := n0_; have HB := n1_; clear n0_ n1_; clear hb ho16; obtain ⟨Ao17, co17, eo17⟩ := Kd.R_slice HO172.out; subst eo17) | ((with_reducible refine gate_callee (f := 8) rfl ?_); refine goesL_ (some 5) rfl rfl Try.func8 (by kernel_rfl) rfl #[.slice Ao17 y170.length co17, .int .i64 15] rfl (by (try simp only [List.map_toArray, List.map_cons, List.map_nil]); first | done | rfl | (simp only [List.length_drop, List.length_take]; rfl)) ?_; (with_reducible refine (lengths_Make.calls k _ _ y170 15 t173 t174 _ ?side1 ?side2 A1.out).mono ?_); (case side1 => repeat (first | exact (Kd.R_reads' HO172.out).2.2 | (with_reducible refine Kd.C_alloc ?_ _) | (with_reducible refine Kd.C_drewN ?_ _) | (with_reducible refine Kd.C_drew ?_))); (case side2 => exact (Kd.R_reads' HO172.out).2.1); rintro e w18 ⟨v175, rfl, ho0, hb⟩; refine ⟨_, rfl, ?_⟩; have n0_ := Aside0.mk (Kd.R_elder' (by (with_reducible repeat (first | apply Kd.R_alloc | apply Kd.R_drewN | apply Kd.R_drew)); exact HO172.out) (Kd.R_base ho0) hb); have n1_ := Aside0.mk (Kd.R_lower (Kd.R_new' ho0 (Kd.R_lt (by (with_reducible repeat (first | apply Kd.R_alloc | apply Kd.R_drewN | apply Kd.R_drew)); exact HO172.out))) (below_size (by repeat (first | (with_reducible first | exact HB.out | apply below_alloc | apply pw_below_drewN | apply below_drew1) | exact HB.out)))); have n2_ := Aside0.mk (below_step (by repeat (first | (with_reducible first | exact HB.out | apply below_alloc | apply pw_below_drewN | apply below_drew1) | exact HB.out)) hb); clear HO172; clear HB; have HO172 := n0_; have HO176 := n1_; have HB := n2_; clear n0_ n1_ n2_; (try clear hb); (try clear hb2); (try clear hk); (try clear hi); (try clear ho0); obtain ⟨Ao19, co19, eo19⟩ := Kd.R_slice HO176.out; subst eo19; have p177 : 0 ≤ (0 : Int) := (by omega); have q177 : 0 < (t173.length : Int) := of_decide_eq_true (by first | (with_reducible assumption) | assumption); obtain ⟨ad177, e177, hx177_0⟩ := Kd.at_int (Kd.R_reads' HO176.out).2.2 0 p177 q177; cases e177; have qi177 : (0 < t173.length) = True := eq_true (by omega); (try rw [show ((0 : Int)).toNat = 0 from rfl] at hx177_0); (try rw [Addr.add_zero'] at hx177_0); replace p177 := eq_true p177; replace q177 := eq_true q177; have p178 : 0 ≤ (1 : Int) := (by omega); have q178 : 1 < (t173.length : Int) := of_decide_eq_true (by first | (with_reducible assumption) | assumption); obtain ⟨ad178, e178, hx178_0⟩ := Kd.at_int (Kd.R_reads' HO176.out).2.2 1 p178 q178; obtain rfl : ad177 = ad178 := (by injection e178); (try simp only [show (1 : Int).toNat = 1 from rfl, Nat.reduceMul, Nat.reduceEqDiff, Go.Addr.add, ↓reduceIte] at hx178_0); have qi178 : (1 < t173.length) = True := eq_true (by omega); (try rw [show ((1 : Int)).toNat = 1 from rfl] at hx178_0); replace p178 := eq_true p178; replace q178 := eq_true q178; have p179 : 0 ≤ (2 : Int) := (by omega); have q179 : 2 < (t173.length : Int) := of_decide_eq_true (by first | (with_reducible assumption) | assumption); obtain ⟨ad179, e179, hx179_0⟩ := Kd.at_int (Kd.R_reads' HO176.out).2.2 2 p179 q179; obtain rfl : ad177 = ad179 := (by injection e179); (try simp only [show (2 : Int).toNat = 2 from rfl, Nat.reduceMul, Nat.reduceEqDiff, Go.Addr.add, ↓reduceIte] at hx179_0); have qi179 : (2 < t173.length) = True := eq_true (by omega); (try rw [show ((2 : Int)).toNat = 2 from rfl] at hx179_0); replace p179 := eq_true p179; replace q179 := eq_true q179))
                  go_ret
                  exact ⟨by first | rfl | (simp [errW_none, errW_some] <;> rfl) | (simp [*, errW_none, errW_some] <;> rfl), by repeat (first | (with_reducible first | exact HB.out | apply below_alloc | apply pw_below_drewN | apply below_drew1) | exact HB.out)⟩
              · rw [if_neg c8] at H
                exact absurd H (by simp)
            · rw [if_neg c7] at H
              have c7b0 : ((rd t173 1) == 2) = false := beq_eq_false_iff_ne.mpr c7
              have c7b1 : ((rd t173 1) != 2) = true := bne_iff_ne.mpr c7
              obtain rfl := Option.some.inj H
              go_enter Try.func5, Try.ntmps5
              go_wp2_with (first | ((with_reducible refine gate_dst (N := 4) rfl ?_); (try (refine gate_guard (by rfl) ?_; dsimp only)); refine Kd.R_lit (Kd.int .i64) _ 3 ?hg (N := 4) ?hd (xs := ([1, 1, 2] : List Int)) (inner := [.int .i64 1, .int .i64 1, .int .i64 2]) (ok := fun _ => True) (okp := fun _ => True) ?hr ?hp (fun _ hk => hk) trivial (Below.refl _ _) (Nat.le_refl _) (by simp) ?_; (case hd => rfl); (case hg => rfl); (case hr => first | (go_simp; done) | (go_simp; rfl)); (case hp => exact (Reps.one (show Kd.M (Kd.int .i64) _ _ _ 1 [.int .i64 1] from rfl) (Reps.one (show Kd.M (Kd.int .i64) _ _ _ 1 [.int .i64 1] from rfl) (Reps.one (show Kd.M (Kd.int .i64) _ _ _ 2 [.int .i64 2] from rfl) (Reps.none _ _))))); intro v171 w20 ho21 hb hg_ hnew_; clear hg_ hnew_; (first | rw [← Ny170.out] at ho21 | (simp only [Int.reduceToNat] at ho21; rw [← Ny170.out] at ho21)); have n0_ := Aside0.mk (Kd.R_lower ho21 (below_size (by repeat (first | (with_reducible first | exact HB.out | apply below_alloc | apply pw_below_drewN | apply below_drew1) | exact HB.out)))); have n1_ := Aside0.mk (below_step (by repeat (first | (with_reducible first | exact HB.out | apply below_alloc | apply pw_below_drewN | apply below_drew1) | exact HB.out)) hb); clear HB; have HO172 := n0_; have HB := n1_; clear n0_ n1_; clear hb ho21; obtain ⟨Ao22, co22, eo22⟩ := Kd.R_slice HO172.out; subst eo22) | ((with_reducible refine gate_callee (f := 8) rfl ?_); refine goesL_ (some 5) rfl rfl Try.func8 (by kernel_rfl) rfl #[.slice Ao22 y170.length co22, .int .i64 15] rfl (by (try simp only [List.map_toArray, List.map_cons, List.map_nil]); first | done | rfl | (simp only [List.length_drop, List.length_take]; rfl)) ?_; (with_reducible refine (lengths_Make.calls k _ _ y170 15 t173 t174 _ ?side1 ?side2 A1.out).mono ?_); (case side1 => repeat (first | exact (Kd.R_reads' HO172.out).2.2 | (with_reducible refine Kd.C_alloc ?_ _) | (with_reducible refine Kd.C_drewN ?_ _) | (with_reducible refine Kd.C_drew ?_))); (case side2 => exact (Kd.R_reads' HO172.out).2.1); rintro e w23 ⟨v175, rfl, ho0, hb⟩; refine ⟨_, rfl, ?_⟩; have n0_ := Aside0.mk (Kd.R_elder' (by (with_reducible repeat (first | apply Kd.R_alloc | apply Kd.R_drewN | apply Kd.R_drew)); exact HO172.out) (Kd.R_base ho0) hb); have n1_ := Aside0.mk (Kd.R_lower (Kd.R_new' ho0 (Kd.R_lt (by (with_reducible repeat (first | apply Kd.R_alloc | apply Kd.R_drewN | apply Kd.R_drew)); exact HO172.out))) (below_size (by repeat (first | (with_reducible first | exact HB.out | apply below_alloc | apply pw_below_drewN | apply below_drew1) | exact HB.out)))); have n2_ := Aside0.mk (below_step (by repeat (first | (with_reducible first | exact HB.out | apply below_alloc | apply pw_below_drewN | apply below_drew1) | exact HB.out)) hb); clear HO172; clear HB; have HO172 := n0_; have HO176 := n1_; have HB := n2_; clear n0_ n1_ n2_; (try clear hb); (try clear hb2); (try clear hk); (try clear hi); (try clear ho0); obtain ⟨Ao24, co24, eo24⟩ := Kd.R_slice HO176.out; subst eo24; have p177 : 0 ≤ (0 : Int) := (by omega); have q177 : 0 < (t173.length : Int) := of_decide_eq_true (by first | (with_reducible assumption) | assumption); obtain ⟨ad177, e177, hx177_0⟩ := Kd.at_int (Kd.R_reads' HO176.out).2.2 0 p177 q177; cases e177; have qi177 : (0 < t173.length) = True := eq_true (by omega); (try rw [show ((0 : Int)).toNat = 0 from rfl] at hx177_0); (try rw [Addr.add_zero'] at hx177_0); replace p177 := eq_true p177; replace q177 := eq_true q177; have p178 : 0 ≤ (1 : Int) := (by omega); have q178 : 1 < (t173.length : Int) := of_decide_eq_true (by first | (with_reducible assumption) | assumption); obtain ⟨ad178, e178, hx178_0⟩ := Kd.at_int (Kd.R_reads' HO176.out).2.2 1 p178 q178; obtain rfl : ad177 = ad178 := (by injection e178); (try simp only [show (1 : Int).toNat = 1 from rfl, Nat.reduceMul, Nat.reduceEqDiff, Go.Addr.add, ↓reduceIte] at hx178_0); have qi178 : (1 < t173.length) = True := eq_true (by omega); (try rw [show ((1 : Int)).toNat = 1 from rfl] at hx178_0); replace p178 := eq_true p178; replace q178 := eq_true q178))
              go_ret
              exact ⟨by first | rfl | (simp [errW_none, errW_some] <;> rfl) | (simp [*, errW_none, errW_some] <;> rfl), by repeat (first | (with_reducible first | exact HB.out | apply below_alloc | apply pw_below_drewN | apply below_drew1) | exact HB.out)⟩
          · rw [if_neg c6] at H
            exact absurd H (by simp)
        · rw [if_neg c5] at H
          have c5b0 : ((rd t173 0) == 2) = false := beq_eq_false_iff_ne.mpr c5
          have c5b1 : ((rd t173 0) != 2) = true := bne_iff_ne.mpr c5
          obtain rfl := Option.some.inj H
          go_enter Try.func5, Try.ntmps5
          go_wp2_with (first | ((with_reducible refine gate_dst (N := 4) rfl ?_); (try (refine gate_guard (by rfl) ?_; dsimp only)); refine Kd.R_lit (Kd.int .i64) _ 3 ?hg (N := 4) ?hd (xs := ([1, 1, 2] : List Int)) (inner := [.int .i64 1, .int .i64 1, .int .i64 2]) (ok := fun _ => True) (okp := fun _ => True) ?hr ?hp (fun _ hk => hk) trivial (Below.refl _ _) (Nat.le_refl _) (by simp) ?_; (case hd => rfl); (case hg => rfl); (case hr => first | (go_simp; done) | (go_simp; rfl)); (case hp => exact (Reps.one (show Kd.M (Kd.int .i64) _ _ _ 1 [.int .i64 1] from rfl) (Reps.one (show Kd.M (Kd.int .i64) _ _ _ 1 [.int .i64 1] from rfl) (Reps.one (show Kd.M (Kd.int .i64) _ _ _ 2 [.int .i64 2] from rfl) (Reps.none _ _))))); intro v171 w25 ho26 hb hg_ hnew_; clear hg_ hnew_; (first | rw [← Ny170.out] at ho26 | (simp only [Int.reduceToNat] at ho26; rw [← Ny170.out] at ho26)); have n0_ := Aside0.mk (Kd.R_lower ho26 (below_size (by repeat (first | (with_reducible first | exact HB.out | apply below_alloc | apply pw_below_drewN | apply below_drew1) | exact HB.out)))); have n1_ := Aside0.mk (below_step (by repeat (first | (with_reducible first | exact HB.out | apply below_alloc | apply pw_below_drewN | apply below_drew1) | exact HB.out)) hb); clear HB; have HO172 := n0_; have HB := n1_; clear n0_ n1_; clear hb ho26; obtain ⟨Ao27, co27, eo27⟩ := Kd.R_slice HO172.out; subst eo27) | ((with_reducible refine gate_callee (f := 8) rfl ?_); refine goesL_ (some 5) rfl rfl Try.func8 (by kernel_rfl) rfl #[.slice Ao27 y170.length co27, .int .i64 15] rfl (by (try simp only [List.map_toArray, List.map_cons, List.map_nil]); first | done | rfl | (simp only [List.length_drop, List.length_take]; rfl)) ?_; (with_reducible refine (lengths_Make.calls k _ _ y170 15 t173 t174 _ ?side1 ?side2 A1.out).mono ?_); (case side1 => repeat (first | exact (Kd.R_reads' HO172.out).2.2 | (with_reducible refine Kd.C_alloc ?_ _) | (with_reducible refine Kd.C_drewN ?_ _) | (with_reducible refine Kd.C_drew ?_))); (case side2 => exact (Kd.R_reads' HO172.out).2.1); rintro e w28 ⟨v175, rfl, ho0, hb⟩; refine ⟨_, rfl, ?_⟩; have n0_ := Aside0.mk (Kd.R_elder' (by (with_reducible repeat (first | apply Kd.R_alloc | apply Kd.R_drewN | apply Kd.R_drew)); exact HO172.out) (Kd.R_base ho0) hb); have n1_ := Aside0.mk (Kd.R_lower (Kd.R_new' ho0 (Kd.R_lt (by (with_reducible repeat (first | apply Kd.R_alloc | apply Kd.R_drewN | apply Kd.R_drew)); exact HO172.out))) (below_size (by repeat (first | (with_reducible first | exact HB.out | apply below_alloc | apply pw_below_drewN | apply below_drew1) | exact HB.out)))); have n2_ := Aside0.mk (below_step (by repeat (first | (with_reducible first | exact HB.out | apply below_alloc | apply pw_below_drewN | apply below_drew1) | exact HB.out)) hb); clear HO172; clear HB; have HO172 := n0_; have HO176 := n1_; have HB := n2_; clear n0_ n1_ n2_; (try clear hb); (try clear hb2); (try clear hk); (try clear hi); (try clear ho0); obtain ⟨Ao29, co29, eo29⟩ := Kd.R_slice HO176.out; subst eo29; have p177 : 0 ≤ (0 : Int) := (by omega); have q177 : 0 < (t173.length : Int) := of_decide_eq_true (by first | (with_reducible assumption) | assumption); obtain ⟨ad177, e177, hx177_0⟩ := Kd.at_int (Kd.R_reads' HO176.out).2.2 0 p177 q177; cases e177; have qi177 : (0 < t173.length) = True := eq_true (by omega); (try rw [show ((0 : Int)).toNat = 0 from rfl] at hx177_0); (try rw [Addr.add_zero'] at hx177_0); replace p177 := eq_true p177; replace q177 := eq_true q177))
          go_ret
          exact ⟨by first | rfl | (simp [errW_none, errW_some] <;> rfl) | (simp [*, errW_none, errW_some] <;> rfl), by repeat (first | (with_reducible first | exact HB.out | apply below_alloc | apply pw_below_drewN | apply below_drew1) | exact HB.out)⟩
      · rw [if_neg c4] at H
        exact absurd H (by simp)
    · rw [if_neg c3] at H
      have c3b0 : ((t173.length : Int) == 3) = false := beq_eq_false_iff_ne.mpr c3
      have c3b1 : ((t173.length : Int) != 3) = true := bne_iff_ne.mpr c3
      obtain rfl := Option.some.inj H
      go_enter Try.func5, Try.ntmps5
      go_wp2_with (first | ((with_reducible refine gate_dst (N := 4) rfl ?_); (try (refine gate_guard (by rfl) ?_; dsimp only)); refine Kd.R_lit (Kd.int .i64) _ 3 ?hg (N := 4) ?hd (xs := ([1, 1, 2] : List Int)) (inner := [.int .i64 1, .int .i64 1, .int .i64 2]) (ok := fun _ => True) (okp := fun _ => True) ?hr ?hp (fun _ hk => hk) trivial (Below.refl _ _) (Nat.le_refl _) (by simp) ?_; (case hd => rfl); (case hg => rfl); (case hr => first | (go_simp; done) | (go_simp; rfl)); (case hp => exact (Reps.one (show Kd.M (Kd.int .i64) _ _ _ 1 [.int .i64 1] from rfl) (Reps.one (show Kd.M (Kd.int .i64) _ _ _ 1 [.int .i64 1] from rfl) (Reps.one (show Kd.M (Kd.int .i64) _ _ _ 2 [.int .i64 2] from rfl) (Reps.none _ _))))); intro v171 w30 ho31 hb hg_ hnew_; clear hg_ hnew_; (first | rw [← Ny170.out] at ho31 | (simp only [Int.reduceToNat] at ho31; rw [← Ny170.out] at ho31)); have n0_ := Aside0.mk (Kd.R_lower ho31 (below_size (by repeat (first | (with_reducible first | exact HB.out | apply below_alloc | apply pw_below_drewN | apply below_drew1) | exact HB.out)))); have n1_ := Aside0.mk (below_step (by repeat (first | (with_reducible first | exact HB.out | apply below_alloc | apply pw_below_drewN | apply below_drew1) | exact HB.out)) hb); clear HB; have HO172 := n0_; have HB := n1_; clear n0_ n1_; clear hb ho31; obtain ⟨Ao32, co32, eo32⟩ := Kd.R_slice HO172.out; subst eo32) | ((with_reducible refine gate_callee (f := 8) rfl ?_); refine goesL_ (some 5) rfl rfl Try.func8 (by kernel_rfl) rfl #[.slice Ao32 y170.length co32, .int .i64 15] rfl (by (try simp only [List.map_toArray, List.map_cons, List.map_nil]); first | done | rfl | (simp only [List.length_drop, List.length_take]; rfl)) ?_; (with_reducible refine (lengths_Make.calls k _ _ y170 15 t173 t174 _ ?side1 ?side2 A1.out).mono ?_); (case side1 => repeat (first | exact (Kd.R_reads' HO172.out).2.2 | (with_reducible refine Kd.C_alloc ?_ _) | (with_reducible refine Kd.C_drewN ?_ _) | (with_reducible refine Kd.C_drew ?_))); (case side2 => exact (Kd.R_reads' HO172.out).2.1); rintro e w33 ⟨v175, rfl, ho0, hb⟩; refine ⟨_, rfl, ?_⟩; have n0_ := Aside0.mk (Kd.R_elder' (by (with_reducible repeat (first | apply Kd.R_alloc | apply Kd.R_drewN | apply Kd.R_drew)); exact HO172.out) (Kd.R_base ho0) hb); have n1_ := Aside0.mk (Kd.R_lower (Kd.R_new' ho0 (Kd.R_lt (by (with_reducible repeat (first | apply Kd.R_alloc | apply Kd.R_drewN | apply Kd.R_drew)); exact HO172.out))) (below_size (by repeat (first | (with_reducible first | exact HB.out | apply below_alloc | apply pw_below_drewN | apply below_drew1) | exact HB.out)))); have n2_ := Aside0.mk (below_step (by repeat (first | (with_reducible first | exact HB.out | apply below_alloc | apply pw_below_drewN | apply below_drew1) | exact HB.out)) hb); clear HO172; clear HB; have HO172 := n0_; have HO176 := n1_; have HB := n2_; clear n0_ n1_ n2_; (try clear hb); (try clear hb2); (try clear hk); (try clear hi); (try clear ho0); obtain ⟨Ao34, co34, eo34⟩ := Kd.R_slice HO176.out; subst eo34))
      go_ret
      exact ⟨by first | rfl | (simp [errW_none, errW_some] <;> rfl) | (simp [*, errW_none, errW_some] <;> rfl), by repeat (first | (with_reducible first | exact HB.out | apply below_alloc | apply pw_below_drewN | apply below_drew1) | exact HB.out)⟩
  · rw [if_neg c2] at H
    have c2b0 : (t174 == 0) = false := beq_eq_false_iff_ne.mpr c2
    have c2b1 : (t174 != 0) = true := bne_iff_ne.mpr c2
    obtain rfl := Option.some.inj H
    go_enter Try.func5, Try.ntmps5
    go_wp2_with (first | ((with_reducible refine gate_dst (N := 4) rfl ?_); (try (refine gate_guard (by rfl) ?_; dsimp only)); refine Kd.R_lit (Kd.int .i64) _ 3 ?hg (N := 4) ?hd (xs := ([1, 1, 2] : List Int)) (inner := [.int .i64 1, .int .i64 1, .int .i64 2]) (ok := fun _ => True) (okp := fun _ => True) ?hr ?hp (fun _ hk => hk) trivial (Below.refl _ _) (Nat.le_refl _) (by simp) ?_; (case hd => rfl); (case hg => rfl); (case hr => first | (go_simp; done) | (go_simp; rfl)); (case hp => exact (Reps.one (show Kd.M (Kd.int .i64) _ _ _ 1 [.int .i64 1] from rfl) (Reps.one (show Kd.M (Kd.int .i64) _ _ _ 1 [.int .i64 1] from rfl) (Reps.one (show Kd.M (Kd.int .i64) _ _ _ 2 [.int .i64 2] from rfl) (Reps.none _ _))))); intro v171 w35 ho36 hb hg_ hnew_; clear hg_ hnew_; (first | rw [← Ny170.out] at ho36 | (simp only [Int.reduceToNat] at ho36; rw [← Ny170.out] at ho36)); have n0_ := Aside0.mk (Kd.R_lower ho36 (below_size (by repeat (first | (with_reducible first | exact HB.out | apply below_alloc | apply pw_below_drewN | apply below_drew1) | exact HB.out)))); have n1_ := Aside0.mk (below_step (by repeat (first | (with_reducible first | exact HB.out | apply below_alloc | apply pw_below_drewN | apply below_drew1) | exact HB.out)) hb); clear HB; have HO172 := n0_; have HB := n1_; clear n0_ n1_; clear hb ho36; obtain ⟨Ao37, co37, eo37⟩ := Kd.R_slice HO172.out; subst eo37) | ((with_reducible refine gate_callee (f := 8) rfl ?_); refine goesL_ (some 5) rfl rfl Try.func8 (by kernel_rfl) rfl #[.slice Ao37 y170.length co37, .int .i64 15] rfl (by (try simp only [List.map_toArray, List.map_cons, List.map_nil]); first | done | rfl | (simp only [List.length_drop, List.length_take]; rfl)) ?_; (with_reducible refine (lengths_Make.calls k _ _ y170 15 t173 t174 _ ?side1 ?side2 A1.out).mono ?_); (case side1 => repeat (first | exact (Kd.R_reads' HO172.out).2.2 | (with_reducible refine Kd.C_alloc ?_ _) | (with_reducible refine Kd.C_drewN ?_ _) | (with_reducible refine Kd.C_drew ?_))); (case side2 => exact (Kd.R_reads' HO172.out).2.1); rintro e w38 ⟨v175, rfl, ho0, hb⟩; refine ⟨_, rfl, ?_⟩; have n0_ := Aside0.mk (Kd.R_elder' (by (with_reducible repeat (first | apply Kd.R_alloc | apply Kd.R_drewN | apply Kd.R_drew)); exact HO172.out) (Kd.R_base ho0) hb); have n1_ := Aside0.mk (Kd.R_lower (Kd.R_new' ho0 (Kd.R_lt (by (with_reducible repeat (first | apply Kd.R_alloc | apply Kd.R_drewN | apply Kd.R_drew)); exact HO172.out))) (below_size (by repeat (first | (with_reducible first | exact HB.out | apply below_alloc | apply pw_below_drewN | apply below_drew1) | exact HB.out)))); have n2_ := Aside0.mk (below_step (by repeat (first | (with_reducible first | exact HB.out | apply below_alloc | apply pw_below_drewN | apply below_drew1) | exact HB.out)) hb); clear HO172; clear HB; have HO172 := n0_; have HO176 := n1_; have HB := n2_; clear n0_ n1_ n2_; (try clear hb); (try clear hb2); (try clear hk); (try clear hi); (try clear ho0)))
    go_ret
    exact ⟨by first | rfl | (simp [errW_none, errW_some] <;> rfl) | (simp [*, errW_none, errW_some] <;> rfl), by repeat (first | (with_reducible first | exact HB.out | apply below_alloc | apply pw_below_drewN | apply below_drew1) | exact HB.out)⟩

/-! ### punnetref07_Check: function 6 -/
mutual
def punnetref07_Check.j0 : Nat → List Int → Int → Bool → Option (Int)
  | 0, _, _, _ => none
  | k + 1, x0, x1, x17 => if x17 = true then (some 1) else (punnetref07_Check.l0 k x0 x1 0 0)
def punnetref07_Check.l0 : Nat → List Int → Int → Int → Int → Option (Int)
  | 0, _, _, _, _ => none
  | k + 1, x0, x1, x5, x6 => if x6 < (x0.length : Int) then (if 0 ≤ x6 then (if (rd x0 x6) < 0 then (punnetref07_Check.j2 k x0 x1 x5 x6 true) else (punnetref07_Check.j2 k x0 x1 x5 x6 (decide ((rd x0 x6) > 1099511627776)))) else (none)) else (if 0 ≤ (IntKind.u64.wrap (x1)) then (if x5 > (shl .i64 1 (IntKind.u64.wrap (x1))) then (some 3) else (some 0)) else (none))
def punnetref07_Check.j2 : Nat → List Int → Int → Int → Int → Bool → Option (Int)
  | 0, _, _, _, _, _ => none
  | k + 1, x0, x1, x5, x6, x35 => if x35 = true then (some 1) else (if 0 ≤ x6 then (if x6 < (x0.length : Int) then (if (rd x0 x6) > 0 then (punnetref07_Check.l0 k x0 x1 (wrap64 (x5 + 1)) (wrap64 (x6 + 1))) else (punnetref07_Check.l0 k x0 x1 x5 (wrap64 (x6 + 1)))) else (none)) else (none))
end
def punnetref07_Check.f (k : Nat) (l0 : List Int) (a1 : Int) : Option (Int) := if a1 < 1 then (punnetref07_Check.j0 k l0 a1 true) else (if a1 > 15 then (punnetref07_Check.j0 k l0 a1 true) else (punnetref07_Check.j0 k l0 a1 (decide ((l0.length : Int) > 1024))))
theorem punnetref07_Check.mono_l : ∀ k, (∀ y0 y1 y2, LeO (punnetref07_Check.j0 k y0 y1 y2) (punnetref07_Check.j0 (k + 1) y0 y1 y2)) ∧ (∀ y0 y1 y2 y3, LeO (punnetref07_Check.l0 k y0 y1 y2 y3) (punnetref07_Check.l0 (k + 1) y0 y1 y2 y3)) ∧ (∀ y0 y1 y2 y3 y4, LeO (punnetref07_Check.j2 k y0 y1 y2 y3 y4) (punnetref07_Check.j2 (k + 1) y0 y1 y2 y3 y4))
  | 0 => ⟨fun _ _ _ r h => by simp [punnetref07_Check.j0] at h, fun _ _ _ _ r h => by simp [punnetref07_Check.l0] at h, fun _ _ _ _ _ r h => by simp [punnetref07_Check.j2] at h⟩
  | k + 1 => by
    obtain ⟨ih0, ih1, ih2⟩ := punnetref07_Check.mono_l k
    refine ⟨?_, ?_, ?_⟩
    · intro y0 y1 y2
      unfold punnetref07_Check.j0
      repeat' first
      | (with_reducible exact ih0 _ _ _)
      | (with_reducible exact ih1 _ _ _ _)
      | (with_reducible exact ih2 _ _ _ _ _)
      | (with_reducible exact LeO.refl _)
      | (with_reducible exact LeO.none _)
      | (with_reducible refine LeO.ite ?_ ?_)
      | (with_reducible refine LeO.bind ?_ (fun _ => ?_))
      | exact ih0 _ _ _
      | exact ih1 _ _ _ _
      | exact ih2 _ _ _ _ _
      | exact LeO.none _
      | refine LeO.ite ?_ ?_
      | refine LeO.bind ?_ (fun _ => ?_)
    · intro y0 y1 y2 y3
      unfold punnetref07_Check.l0
      repeat' first
      | (with_reducible exact ih0 _ _ _)
      | (with_reducible exact ih1 _ _ _ _)
      | (with_reducible exact ih2 _ _ _ _ _)
      | (with_reducible exact LeO.refl _)
      | (with_reducible exact LeO.none _)
      | (with_reducible refine LeO.ite ?_ ?_)
      | (with_reducible refine LeO.bind ?_ (fun _ => ?_))
      | exact ih0 _ _ _
      | exact ih1 _ _ _ _
      | exact ih2 _ _ _ _ _
      | exact LeO.none _
      | refine LeO.ite ?_ ?_
      | refine LeO.bind ?_ (fun _ => ?_)
    · intro y0 y1 y2 y3 y4
      unfold punnetref07_Check.j2
      repeat' first
      | (with_reducible exact ih0 _ _ _)
      | (with_reducible exact ih1 _ _ _ _)
      | (with_reducible exact ih2 _ _ _ _ _)
      | (with_reducible exact LeO.refl _)
      | (with_reducible exact LeO.none _)
      | (with_reducible refine LeO.ite ?_ ?_)
      | (with_reducible refine LeO.bind ?_ (fun _ => ?_))
      | exact ih0 _ _ _
      | exact ih1 _ _ _ _
      | exact ih2 _ _ _ _ _
      | exact LeO.none _
      | refine LeO.ite ?_ ?_
      | refine LeO.bind ?_ (fun _ => ?_)
theorem punnetref07_Check.mono : ∀ a0 a1 k, LeO (punnetref07_Check.f k a0 a1) (punnetref07_Check.f (k + 1) a0 a1) := by
  intro a0 a1 k
  obtain ⟨ih0, ih1, ih2⟩ := punnetref07_Check.mono_l k
  unfold punnetref07_Check.f
  repeat' first
      | (with_reducible exact ih0 _ _ _)
      | (with_reducible exact ih1 _ _ _ _)
      | (with_reducible exact ih2 _ _ _ _ _)
      | (with_reducible exact LeO.refl _)
      | (with_reducible exact LeO.none _)
      | (with_reducible refine LeO.ite ?_ ?_)
      | (with_reducible refine LeO.bind ?_ (fun _ => ?_))
      | exact ih0 _ _ _
      | exact ih1 _ _ _ _
      | exact ih2 _ _ _ _ _
      | exact LeO.none _
      | refine LeO.ite ?_ ?_
      | refine LeO.bind ?_ (fun _ => ?_)
set_option maxHeartbeats 8000000 in
set_option maxRecDepth 100000 in
theorem punnetref07_Check.calls (k : Nat) (A0 : Option Addr) (c0 : Nat) (l0 : List Int) (a1 : Int) (r : Int) (w : World) (hr0 : Kd.C (Kd.int .i64) w A0 l0.length l0) (hc0 : l0.length ≤ c0) (h : punnetref07_Check.f k l0 a1 = some r) :
    Calls Try.prog 6 #[.slice A0 l0.length c0, .int .i64 a1] w fun e w' => e = .returned (.int .i64 r) ∧ Drawn0 w w' := by
  have HR0 := Aside0.mk hr0
  have HC0 := Aside0.mk hc0
  clear hr0 hc0
  have H : (if a1 < 1 then (punnetref07_Check.j0 k l0 a1 true) else (if a1 > 15 then (punnetref07_Check.j0 k l0 a1 true) else (punnetref07_Check.j0 k l0 a1 (decide ((l0.length : Int) > 1024))))) = some r := h
  clear h
  have HC3 := Aside0.mk H
  clear H
  go_enter Try.func6, Try.ntmps6
  go_upto_region 1 with (fail)
  go_cut [17] (fun v17 wc => ∃ (kq : Nat) (x17_2 : Bool), v17 = .bool x17_2 ∧ Aside0 (punnetref07_Check.j0 kq l0 a1 x17_2 = some r) ∧ Aside0 (kq ≤ k) ∧ Drawn0 w wc)
  case first =>
    have H := HC3.out
    clear HC3
    by_cases c4 : a1 < 1
    · rw [if_pos c4] at H
      have c4b0 : decide (a1 < 1) = true := decide_eq_true c4
      clear c4
      (first | rw [c4b0] | (simp only [i64_w, i32_w]; rw [c4b0]) | skip)
      have H' := Aside0.mk H
      clear H
      go_wp2
      go_meet
      case rel => exact ⟨_, (true), (by first | rfl | (simp; done) | (simp [*]; done)), H', ⟨by first | omega | exact Nat.le_refl _⟩, by repeat (first | exact Drawn0.refl _ | apply Drawn0.step)⟩
    · rw [if_neg c4] at H
      have c4b0 : decide (a1 < 1) = false := decide_eq_false c4
      clear c4
      (first | rw [c4b0] | (simp only [i64_w, i32_w]; rw [c4b0]) | skip)
      by_cases c5 : a1 > 15
      · rw [if_pos c5] at H
        have c5b0 : decide (15 < a1) = true := decide_eq_true c5
        clear c5
        have H' := Aside0.mk H
        clear H
        go_wp2
        go_meet
        case rel => exact ⟨_, (true), (by first | rfl | (simp; done) | (simp [*]; done)), H', ⟨by first | omega | exact Nat.le_refl _⟩, by repeat (first | exact Drawn0.refl _ | apply Drawn0.step)⟩
      · rw [if_neg c5] at H
        have c5b0 : decide (15 < a1) = false := decide_eq_false c5
        clear c5
        have H' := Aside0.mk H
        clear H
        go_wp2
        go_meet
        case rel => exact ⟨_, (decide ((l0.length : Int) > 1024)), (by first | rfl | (simp; done) | (simp [*]; done)), H', ⟨by first | omega | exact Nat.le_refl _⟩, by repeat (first | exact Drawn0.refl _ | apply Drawn0.step)⟩
  case rest =>
    clear HC3
    try clear p2
    try clear c4
    try clear c4b0
    try clear c5
    try clear c5b0
    obtain ⟨kq, x17_2, rfl, HA, HJ2, ⟨mc2, rfl⟩⟩ := hcut
    cases kq with
    | zero => exact absurd HA.out (by simp [punnetref07_Check.j0])
    | succ kj2 =>
      have H := HA.out
      clear HA
      simp only [punnetref07_Check.j0] at H
      by_cases c6 : x17_2 = true
      · subst c6
        have H1 : (some 1) = some r := by rw [if_pos rfl] at H; exact H
        clear H
        have H := H1
        clear H1
        obtain rfl := Option.some.inj H
        go_wp2
        go_ret
        exact ⟨by first | rfl | (simp; done) | (simp [*]; done), by repeat (first | exact Drawn0.refl _ | apply Drawn0.step)⟩
      · replace c6 := Bool.eq_false_iff.mpr c6
        subst c6
        have H1 : (punnetref07_Check.l0 kj2 l0 a1 0 0) = some r := by rw [if_neg (show ¬ (false = true) by decide)] at H; exact H
        clear H
        have H := H1
        clear H1
        have H' := Aside0.mk H
        clear H
        go_wp2
        go_loopg [5, 6] kj2 (fun kq v5 v6 w' => ∃ (x5_2 : Int) (x6_2 : Int), v5 = .int .i64 x5_2 ∧ v6 = .int .i64 x6_2 ∧ Aside0 (punnetref07_Check.l0 kq l0 a1 x5_2 x6_2 = some r) ∧ Aside0 (kq ≤ kj2) ∧ Drawn0 w w')
        case atStart => exact ⟨(0), (0), (by first | rfl | (simp; done) | (simp [*]; done)), (by first | rfl | (simp; done) | (simp [*]; done)), H', ⟨Nat.le_refl _⟩, by repeat (first | exact Drawn0.refl _ | apply Drawn0.step)⟩
        case round =>
          clear H'
          try clear c2
          try clear p2
          try clear c4
          try clear c4b0
          try clear c5
          try clear c5b0
          try clear c6
          try clear p2
          obtain ⟨x5_2, x6_2, rfl, rfl, HA, HK2, ⟨m2, rfl⟩⟩ := hrel
          cases gk with
          | zero => exact absurd HA.out (by simp [punnetref07_Check.l0])
          | succ k2 =>
            have H := HA.out
            clear HA
            simp only [punnetref07_Check.l0] at H
            by_cases c7 : x6_2 < (l0.length : Int)
            · rw [if_pos c7] at H
              have c7b0 : decide (x6_2 < (l0.length : Int)) = true := decide_eq_true c7
              clear c7
              have HC8 := Aside0.mk H
              clear H
              go_upto_region 7 with (fail)
              go_cut [35] (fun v35 wc => ∃ (kq : Nat) (x35_7 : Bool), v35 = .bool x35_7 ∧ Aside0 (punnetref07_Check.j2 kq l0 a1 x5_2 x6_2 x35_7 = some r) ∧ Aside0 (kq ≤ k2) ∧ Drawn0 w wc)
              case first =>
                have H := HC8.out
                clear HC8
                by_cases c9 : 0 ≤ x6_2
                · rw [if_pos c9] at H
                  have c9b0 : decide (0 ≤ x6_2) = true := decide_eq_true c9
                  clear c9
                  (first | rw [c9b0] | (simp only [i64_w, i32_w]; rw [c9b0]) | skip)
                  by_cases c10 : (rd l0 x6_2) < 0
                  · rw [if_pos c10] at H
                    have c10b0 : decide ((rd l0 x6_2) < 0) = true := decide_eq_true c10
                    clear c10
                    have H' := Aside0.mk H
                    clear H
                    have p180 : 0 ≤ (x6_2 : Int) := of_decide_eq_true (by first | (with_reducible assumption) | assumption)
                    have q180 : x6_2 < (l0.length : Int) := of_decide_eq_true (by first | (with_reducible assumption) | assumption)
                    obtain ⟨ad180, e180, hx180_0⟩ := Kd.at_int HR0.out x6_2 p180 q180
                    cases e180
                    replace p180 := eq_true p180
                    replace q180 := eq_true q180
                    go_wp2
                    go_meet
                    case rel => exact ⟨_, (true), (by first | rfl | (simp; done) | (simp [*]; done)), H', ⟨by have := HJ2.out; have := HK2.out; first | omega | exact Nat.le_refl _⟩, by repeat (first | exact Drawn0.refl _ | apply Drawn0.step)⟩
                  · rw [if_neg c10] at H
                    have c10b0 : decide ((rd l0 x6_2) < 0) = false := decide_eq_false c10
                    clear c10
                    have H' := Aside0.mk H
                    clear H
                    have p180 : 0 ≤ (x6_2 : Int) := of_decide_eq_true (by first | (with_reducible assumption) | assumption)
                    have q180 : x6_2 < (l0.length : Int) := of_decide_eq_true (by first | (with_reducible assumption) | assumption)
                    obtain ⟨ad180, e180, hx180_0⟩ := Kd.at_int HR0.out x6_2 p180 q180
                    cases e180
                    replace p180 := eq_true p180
                    replace q180 := eq_true q180
                    have p181 : 0 ≤ (x6_2 : Int) := of_decide_eq_true (by first | (with_reducible assumption) | assumption)
                    have q181 : x6_2 < (l0.length : Int) := of_decide_eq_true (by first | (with_reducible assumption) | assumption)
                    obtain ⟨ad181, e181, hx181_0⟩ := Kd.at_int HR0.out x6_2 p181 q181
                    obtain rfl : ad180 = ad181 := (by injection e181)
                    replace p181 := eq_true p181
                    replace q181 := eq_true q181
                    go_wp2
                    go_meet
                    case rel => exact ⟨_, (decide ((rd l0 x6_2) > 1099511627776)), (by first | rfl | (simp; done) | (simp [*]; done)), H', ⟨by have := HJ2.out; have := HK2.out; first | omega | exact Nat.le_refl _⟩, by repeat (first | exact Drawn0.refl _ | apply Drawn0.step)⟩
                · rw [if_neg c9] at H
                  exact absurd H (by simp)
              case rest =>
                clear HC8
                try clear c1
                try clear p1
                try clear q1
                try clear hx1
                try clear c2
                try clear p2
                try clear c4
                try clear c4b0
                try clear c5
                try clear c5b0
                try clear c6
                try clear c7
                try clear c7b0
                try clear c9
                try clear c9b0
                try clear c10
                try clear c10b0
                try clear hx180_0
                try clear hx181_0
                try clear p180
                try clear p181
                try clear p2
                try clear q180
                try clear q181
                obtain ⟨kq, x35_7, rfl, HA, HJ7, ⟨mc7, rfl⟩⟩ := hcut
                cases kq with
                | zero => exact absurd HA.out (by simp [punnetref07_Check.j2])
                | succ kj7 =>
                  have H := HA.out
                  clear HA
                  simp only [punnetref07_Check.j2] at H
                  by_cases c11 : x35_7 = true
                  · subst c11
                    have H1 : (some 1) = some r := by rw [if_pos rfl] at H; exact H
                    clear H
                    have H := H1
                    clear H1
                    obtain rfl := Option.some.inj H
                    go_wp2
                    go_ret
                    exact ⟨by first | rfl | (simp; done) | (simp [*]; done), by repeat (first | exact Drawn0.refl _ | apply Drawn0.step)⟩
                  · replace c11 := Bool.eq_false_iff.mpr c11
                    subst c11
                    have H1 : (if 0 ≤ x6_2 then (if x6_2 < (l0.length : Int) then (if (rd l0 x6_2) > 0 then (punnetref07_Check.l0 kj7 l0 a1 (wrap64 (x5_2 + 1)) (wrap64 (x6_2 + 1))) else (punnetref07_Check.l0 kj7 l0 a1 x5_2 (wrap64 (x6_2 + 1)))) else (none)) else (none)) = some r := by rw [if_neg (show ¬ (false = true) by decide)] at H; exact H
                    clear H
                    have H := H1
                    clear H1
                    by_cases c12 : 0 ≤ x6_2
                    · rw [if_pos c12] at H
                      have c12b0 : decide (0 ≤ x6_2) = true := decide_eq_true c12
                      clear c12
                      by_cases c13 : x6_2 < (l0.length : Int)
                      · rw [if_pos c13] at H
                        have c13b0 : decide (x6_2 < (l0.length : Int)) = true := decide_eq_true c13
                        clear c13
                        by_cases c14 : (rd l0 x6_2) > 0
                        · rw [if_pos c14] at H
                          have c14b0 : decide (0 < (rd l0 x6_2)) = true := decide_eq_true c14
                          clear c14
                          have H' := Aside0.mk H
                          clear H
                          have p182 : 0 ≤ (x6_2 : Int) := of_decide_eq_true (by first | (with_reducible assumption) | assumption)
                          have q182 : x6_2 < (l0.length : Int) := of_decide_eq_true (by first | (with_reducible assumption) | assumption)
                          obtain ⟨ad182, e182, hx182_0⟩ := Kd.at_int HR0.out x6_2 p182 q182
                          cases e182
                          replace p182 := eq_true p182
                          replace q182 := eq_true q182
                          go_wp2
                          go_roundg kj7
                          case measure => have := HJ2.out; have := HK2.out; have := HJ7.out; omega
                          case rel => exact ⟨(wrap64 (x5_2 + 1)), (wrap64 (x6_2 + 1)), (by first | rfl | (simp; done) | (simp [*]; done)), (by first | rfl | (simp; done) | (simp [*]; done)), H', ⟨by have := HJ2.out; have := HK2.out; have := HJ7.out; omega⟩, by repeat (first | exact Drawn0.refl _ | apply Drawn0.step)⟩
                        · rw [if_neg c14] at H
                          have c14b0 : decide (0 < (rd l0 x6_2)) = false := decide_eq_false c14
                          clear c14
                          have H' := Aside0.mk H
                          clear H
                          have p182 : 0 ≤ (x6_2 : Int) := of_decide_eq_true (by first | (with_reducible assumption) | assumption)
                          have q182 : x6_2 < (l0.length : Int) := of_decide_eq_true (by first | (with_reducible assumption) | assumption)
                          obtain ⟨ad182, e182, hx182_0⟩ := Kd.at_int HR0.out x6_2 p182 q182
                          cases e182
                          replace p182 := eq_true p182
                          replace q182 := eq_true q182
                          go_wp2
                          go_roundg kj7
                          case measure => have := HJ2.out; have := HK2.out; have := HJ7.out; omega
                          case rel => exact ⟨(x5_2), (wrap64 (x6_2 + 1)), (by first | rfl | (simp; done) | (simp [*]; done)), (by first | rfl | (simp; done) | (simp [*]; done)), H', ⟨by have := HJ2.out; have := HK2.out; have := HJ7.out; omega⟩, by repeat (first | exact Drawn0.refl _ | apply Drawn0.step)⟩
                      · rw [if_neg c13] at H
                        exact absurd H (by simp)
                    · rw [if_neg c12] at H
                      exact absurd H (by simp)
            · rw [if_neg c7] at H
              have c7b0 : decide (x6_2 < (l0.length : Int)) = false := decide_eq_false c7
              clear c7
              obtain ⟨ji15, hji15⟩ : ∃ j_ : Int, (IntKind.u64.wrap (a1)) = j_ := ⟨_, rfl⟩
              replace H : (if 0 ≤ (ji15) then (if x5_2 > (shl .i64 1 (ji15)) then (some 3) else (some 0)) else (none)) = some r := by first | (rw [hji15] at H; exact H) | (simp only [hji15] at H ⊢; exact H)
              by_cases c16 : 0 ≤ (ji15)
              · rw [if_pos c16] at H
                have c16b0 := eq_true c16
                have c16b1 : decide (0 ≤ (ji15)) = true := decide_eq_true c16
                clear c16
                obtain ⟨ji17, hji17⟩ : ∃ j_ : Int, (shl .i64 1 (ji15)) = j_ := ⟨_, rfl⟩
                replace H : (if x5_2 > (ji17) then (some 3) else (some 0)) = some r := by first | (rw [hji17] at H; exact H) | (simp only [hji17] at H ⊢; exact H)
                have hji17_ : (IntKind.i64.wrap (1 * 2 ^ min (ji15).toNat 64)) = ji17 := hji17
                have hji17z : (ji15) ≤ 64 → (IntKind.i64.wrap (1 * 2 ^ (ji15).toNat)) = ji17 := shl_small hji17
                have hji17u : (IntKind.i64.wrap (2 ^ min (ji15).toNat 64)) = ji17 := by have h_ := hji17_; rw [Int.one_mul] at h_; exact h_
                have hji17v : (ji15) ≤ 64 → (IntKind.i64.wrap (2 ^ (ji15).toNat)) = ji17 := fun hle_ => by have h_ := hji17z hle_; rw [Int.one_mul] at h_; exact h_
                have hji17y : (wrap64 (1 * 2 ^ min (ji15).toNat 64)) = ji17 := (i64_w _).symm.trans hji17_
                have hji17x : (ji15) ≤ 64 → (wrap64 (1 * 2 ^ (ji15).toNat)) = ji17 := fun h_ => (i64_w _).symm.trans (hji17z h_)
                by_cases c18 : x5_2 > (ji17)
                · rw [if_pos c18] at H
                  have c18b0 : decide ((ji17) < x5_2) = true := decide_eq_true c18
                  clear c18
                  obtain rfl := Option.some.inj H
                  go_wp2
                  go_ret
                  exact ⟨by first | rfl | (simp; done) | (simp only [← hji15, ← hji17] <;> (first | rfl | simp)) | (simp [*]; done), by repeat (first | exact Drawn0.refl _ | apply Drawn0.step)⟩
                · rw [if_neg c18] at H
                  have c18b0 : decide ((ji17) < x5_2) = false := decide_eq_false c18
                  clear c18
                  obtain rfl := Option.some.inj H
                  go_wp2
                  go_ret
                  exact ⟨by first | rfl | (simp; done) | (simp only [← hji15, ← hji17] <;> (first | rfl | simp)) | (simp [*]; done), by repeat (first | exact Drawn0.refl _ | apply Drawn0.step)⟩
              · rw [if_neg c16] at H
                exact absurd H (by simp)

end Go.Proofs.Yticokbmafhpebaa.PLengths
