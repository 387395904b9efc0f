/- Words of our own beside the print's: what make with a capacity leaves; no condition. -/
import Derived.Test.YticokbmafhpebaaWMore
import Derived.Test.YticokbmafhpebaaWNEv
set_option linter.unusedVariables false
namespace Go.Proofs.YticokbmafhpebaaW.PrintWords
open Go.RowKit
namespace Kd
section
variable {P : Program} {ops : Array Oper} {rest : List Oper} {o : Oper} {a : Act} {Q : Exit → Act → World → Prop} {α : Type}
/-- make([]T, 0, c) -/
theorem R_make0 (d : Kd α) {w0 W : World} (base e : Nat) (hgd : o.guard = none) {N : Tmp} (_hd : o.dst = some N) (t : TypeId) (x y : Operand) (ho : o.op = .makeSlice t x y) (c : Int) (hx : a.eval x = .int .i64 0) (hy : a.eval y = .int .i64 c)
    (ht : P.underlying t = some (.slice e)) (z : Value) (bytes : Nat) (hinfo : (P.info? e).map (fun i => (i.zero, i.size, i.bytes)) = some (some z, d.sz, bytes)) (hz : z.cells.size = d.sz) (hs0 : 0 < d.sz) (hb0 : 0 < bytes)
    {ok : Nat → Prop} (hfresh : ok W.heap.size) (h0 : 0 ≤ c) (hl : c.toNat * bytes ≤ 281474976710656) (HB : Below base w0 W) (hbase : base ≤ W.heap.size)
    (h : ∀ v1 w1, d.R e w1 base ok v1 [] → Below base w0 w1 → W.grownBy w1 none → (∃ b, v1.ownBlock = some b ∧ W.heap.size ≤ b) → wpList P ops Q rest (a.put o.dst v1) w1) : wpList P ops Q (o :: rest) a W := by
  obtain ⟨m, rfl⟩ := Int.eq_ofNat_of_zero_le h0
  simp only [Int.toNat_natCast] at hl
  obtain ⟨i0, hi, hzz⟩ := Option.map_eq_some_iff.1 hinfo
  simp only [Prod.mk.injEq] at hzz
  obtain ⟨hz0, hz1, hz2⟩ := hzz
  have hm : m ≤ 281474976710656 := Nat.le_trans (Nat.le_mul_of_pos_right _ hb0) hl
  have hr := run_make (P := P) W t e i0 z ht hi hz0 .i64 .i64 (0 : Int) (m : Int) (by omega) (by omega)
    (by
      have h3 : ((i0.bytes * m : Nat) : Int) ≤ 281474976710656 := by rw [hz2, Nat.mul_comm]; omega
      rwa [Int.natCast_mul] at h3) (by omega)
  simp only [Int.toNat_natCast, Int.toNat_zero] at hr
  rw [hz1] at hr
  have hown := World.ownsRow_made (base := base) (e := e) (size := d.sz) W (madeCells z.cells (m * d.sz)) m hbase (by simp only [maxLen]; omega) (by simp [size_madeCells])
  refine event_run (v := .slice (some ⟨W.heap.size, 0, none⟩) 0 m) (w1 := W.alloc (.cells (madeCells z.cells (m * d.sz)) e)) hgd ?_ (h _ _ ⟨fun k hk => ?_, [], hown, Reps.none _ _⟩ (HB.alloc hbase _) (World.grownBy_alloc W _ none) ⟨W.heap.size, by simp [Value.ownBlock], Nat.le_refl _⟩)
  · simp [execOp, ho, hx, hy, hr]
  · have : W.heap.size = k := by simpa [Value.ownBlock] using hk
    subst this
    exact hfresh
/-- out[:n:n] -/
theorem cut_cap (t e : TypeId) (kh km : IntKind) {i : TypeInfo} (ht : P.underlying t = some (.slice e)) (hi : P.info? e = some i) (A : Option Addr) (n c : Nat) (j : Int) (h0 : 0 ≤ j) (hm : j ≤ n) (hc : n ≤ c) :
    ∀ W : World, (Instr.slice t (.slice A n c) none (some (.int kh j)) (some (.int km j))).run P W = .ok (.slice A j.toNat j.toNat) W := by
  intro W
  have hel : P.elem t = e := by simp [Program.elem, ht]
  have hu : P.underlying t = some (.slice (P.elem t)) := by rw [hel]; exact ht
  have ha : (A.map fun x => x.add 0) = A := by cases A <;> simp [Addr.add]
  rw [run_slice_hm W t A n c hu kh km j j h0 (Int.le_refl _) (by omega), hel]
  simp [sizeOf, typeInfo, hi, sliced, Result.andThen, ha]
/-- append(out[:n:n], x): there is no room: a new row. The world is 'W.alloc' of the variadic's box. -/
theorem append_cap_run (enc : α → Value) (dz : α) (h1 : ∀ x, (enc x).oneCell' = true) {w0 W : World} (base : Nat) (s x : Operand) (t e : TypeId) (z : Value) (bytes : Nat)
    (ho : o.op = .call { callee := .builtin .append, args := #[s, x], argTypes := #[t, t] })
    (ht : P.underlying t = some (.slice e)) (hinfo : (P.info? e).map (fun i => (i.zero, i.size, i.bytes)) = some (some z, 1, bytes)) (hz : z.cells.size = 1) (hb0 : 0 < bytes)
    (A : Option Addr) (xs : List α) (H : Int) (p : α) {ok : Nat → Prop} (hs : a.eval s = .slice A H.toNat H.toNat) (hx : a.eval x = .slice (some ⟨W.heap.size, 0, none⟩) 1 1)
    (h0 : 0 ≤ H) (hH : H ≤ xs.length) (hC : (scalar enc h1).C W A xs.length xs) (hfresh : ∀ k, W.heap.size ≤ k → ok k) (HB : Below base w0 W) (hbase : base ≤ W.heap.size) (hl : (xs.length + 1) * bytes ≤ 140737488355328) :
    ∃ v1 w1, (execOp a.eval o).run P (W.alloc (.cells #[enc p] e)) = .ok (.value v1) w1 ∧ (scalar enc h1).R e w1 base ok v1 (xs.take H.toNat ++ [p]) ∧ Below base w0 w1 ∧ W.grownBy w1 none ∧ (∃ b, v1.ownBlock = some b ∧ W.heap.size ≤ b) := by
  obtain ⟨i0, hi, hzz⟩ := Option.map_eq_some_iff.1 hinfo
  simp only [Prod.mk.injEq] at hzz
  obtain ⟨hz0, hz1, hz2⟩ := hzz
  obtain ⟨n, rfl⟩ := Int.eq_ofNat_of_zero_le h0
  simp only [Int.toNat_natCast] at hs ⊢
  have hn : n ≤ xs.length := by omega
  have hr := ReadsOf.take_ (reads_of_C (d := dz) hC) n hn
  have hlen : (xs.take n).length = n := by rw [List.length_take]; omega
  have hlm : (n + 1) * bytes ≤ 140737488355328 := Nat.le_trans (Nat.mul_le_mul_right _ (by omega)) hl
  have hn1 : n + 1 ≤ 140737488355328 := Nat.le_trans (Nat.le_mul_of_pos_right _ hb0) hlm
  have hnews : ∀ j u, [enc p][j]? = some u → (W.alloc (.cells #[enc p] e)).cell? ((⟨W.heap.size, 0, none⟩ : Addr).add j) = some u := World.news_of_block (cs := #[enc p]) (t := e) (fr := (0, 0)) (heap_alloc_new W _)
  have hrun : ∃ v1 w1, (Builtin.append_ #[t, t] o.type #[.slice A n n, .slice (some ⟨W.heap.size, 0, none⟩) 1 1]).run P (W.alloc (.cells #[enc p] e)) = .ok v1 w1 ∧ w1.ownsRow (W.alloc (.cells #[enc p] e)).heap.size e 1 v1 (n + 1) (encs enc (xs.take n) ++ [enc p]) ∧ (W.alloc (.cells #[enc p] e)).grownBy w1 none := by
    cases A with
    | some b =>
      obtain ⟨v1, w1, hrun, r1, r2⟩ := run_append_arg_grows (P := P) (W.alloc (.cells #[enc p] e)) t o.type e i0 z 1 bytes ht hi hz0 hz1 hz2 hz (by omega) b n n (encs enc (xs.take n)) (by rw [encs_length, hlen, Nat.mul_one]) (fun j u hu => by
        have hj : j < n := by
          have := (List.getElem?_eq_some_iff.1 hu).1
          rw [encs_length, hlen] at this
          exact this
        obtain ⟨ad, he, hc⟩ := hr.2.2 (by omega)
        injection he with he
        subst he
        have h2 := hc j hj
        rw [encs_get (d := dz) (xs.take n) j (by omega)] at hu
        rw [← hu]
        exact pw_cell_below (below_alloc (Below.refl _ _) _) h2)
        ⟨W.heap.size, 0, none⟩ 1 1 [enc p] rfl hnews (by omega) (by simp only [maxLen]; omega) hlm
      exact ⟨v1, w1, hrun, r1, r2⟩
    | none =>
      have h0 : n = 0 := by
        rcases Nat.eq_zero_or_pos n with h0 | h0
        · exact h0
        · obtain ⟨ad, he, _⟩ := hr.2.2 h0
          cases he
      subst h0
      obtain ⟨v1, w1, hrun, r1, r2, _⟩ := run_append_own (P := P) (W.alloc (.cells #[enc p] e)) (W.alloc (.cells #[enc p] e)).heap.size t o.type e i0 z 1 bytes ht hi hz0 hz1 hz2 hz (by omega) (.slice none 0 0) 0 [] (World.ownsRow_nil _ _ e 1) ⟨W.heap.size, 0, none⟩ 1 1 [enc p] rfl hnews (by simpa using h1 p) (by simp only [maxLen]; omega) hlm (Nat.le_refl _)
      exact ⟨v1, w1, hrun, by simpa [encs] using r1, r2⟩
  obtain ⟨v1, w1, hrun, hown, hg⟩ := hrun
  have hsz : (W.alloc (.cells #[enc p] e)).heap.size = W.heap.size + 1 := by simp
  have hg2 : W.grownBy w1 none := World.grownBy.trans (World.grownBy_alloc W _ none) hg
  have hb1 := own_base hown
  have hne : ∃ b, v1.ownBlock = some b ∧ W.heap.size ≤ b := by
    obtain ⟨g, cap, he, hb, _⟩ := hown.form (by omega)
    refine ⟨g, by rw [he]; simp [Value.ownBlock], by omega⟩
  refine ⟨v1, w1, ?_, ⟨fun k hk => hfresh k (by have := hb1 k hk; omega), encs enc (xs.take n ++ [p]), ?_, reps_scalar _⟩, HB.grown hg2 hbase (by simp), hg2, hne⟩
  · unfold execOp
    simp only [ho, resolve, invoke, builtin, Sem.run_bind, Sem.run_pure, Result.andThen_ok, List.map_toArray, List.map_cons, List.map_nil, hs, hx, hrun]
  · have h3 := own_weaken hown (base' := base) (by omega)
    rw [List.length_append, hlen, List.length_singleton, encs_append]
    exact h3
theorem R_append_cap (enc : α → Value) (dz : α) (h1 : ∀ x, (enc x).oneCell' = true) {w0 W : World} (base : Nat) (hgd : o.guard = none) (s x : Operand) (t e : TypeId) (z : Value) (bytes : Nat)
    (ho : o.op = .call { callee := .builtin .append, args := #[s, x], argTypes := #[t, t] })
    (ht : P.underlying t = some (.slice e)) (hinfo : (P.info? e).map (fun i => (i.zero, i.size, i.bytes)) = some (some z, 1, bytes)) (hz : z.cells.size = 1) (hb0 : 0 < bytes)
    (A : Option Addr) (xs : List α) (H : Int) (p : α) {ok : Nat → Prop} (hs : a.eval s = .slice A H.toNat H.toNat) (hx : a.eval x = .slice (some ⟨W.heap.size, 0, none⟩) 1 1)
    (h0 : 0 ≤ H) (hH : H ≤ xs.length) (hC : (scalar enc h1).C W A xs.length xs) (hfresh : ∀ k, W.heap.size ≤ k → ok k) (HB : Below base w0 W) (hbase : base ≤ W.heap.size) (hl : (xs.length + 1) * bytes ≤ 140737488355328)
    (h : ∀ v1 w1, (scalar enc h1).R e w1 base ok v1 (xs.take H.toNat ++ [p]) → Below base w0 w1 → W.grownBy w1 none → (∃ b, v1.ownBlock = some b ∧ W.heap.size ≤ b) → wpList P ops Q rest (a.put o.dst v1) w1) :
    wpList P ops Q (o :: rest) a (W.alloc (.cells #[enc p] e)) := by
  obtain ⟨v1, w1, hrun, r1, r2, r3, r4⟩ := append_cap_run (a := a) enc dz h1 base s x t e z bytes ho ht hinfo hz hb0 A xs H p hs hx h0 hH hC hfresh HB hbase hl
  exact event_run hgd hrun (h v1 w1 r1 r2 r3 r4)
theorem R_append_cap_step {Kc : Act → World → Prop} (enc : α → Value) (dz : α) (h1 : ∀ x, (enc x).oneCell' = true) {w0 W : World} (base : Nat) (hw : Region.wanted o (yielded ops a.tmps) = true) (s x : Operand) (t e : TypeId) (z : Value) (bytes : Nat)
    (ho : o.op = .call { callee := .builtin .append, args := #[s, x], argTypes := #[t, t] })
    (ht : P.underlying t = some (.slice e)) (hinfo : (P.info? e).map (fun i => (i.zero, i.size, i.bytes)) = some (some z, 1, bytes)) (hz : z.cells.size = 1) (hb0 : 0 < bytes)
    (A : Option Addr) (xs : List α) (H : Int) (p : α) {ok : Nat → Prop} (hs : a.eval s = .slice A H.toNat H.toNat) (hx : a.eval x = .slice (some ⟨W.heap.size, 0, none⟩) 1 1)
    (h0 : 0 ≤ H) (hH : H ≤ xs.length) (hC : (scalar enc h1).C W A xs.length xs) (hfresh : ∀ k, W.heap.size ≤ k → ok k) (HB : Below base w0 W) (hbase : base ≤ W.heap.size) (hl : (xs.length + 1) * bytes ≤ 140737488355328)
    (h : ∀ v1 w1, (scalar enc h1).R e w1 base ok v1 (xs.take H.toNat ++ [p]) → Below base w0 w1 → W.grownBy w1 none → (∃ b, v1.ownBlock = some b ∧ W.heap.size ≤ b) → Kc (a.put o.dst v1) w1) :
    if Region.wanted o (yielded ops a.tmps) = true then Oper.wp P o a (W.alloc (.cells #[enc p] e)) Kc Q else Kc (a.put o.dst undef) (W.alloc (.cells #[enc p] e)) := by
  obtain ⟨v1, w1, hrun, r1, r2, r3, r4⟩ := append_cap_run (a := a) enc dz h1 base s x t e z bytes ho ht hinfo hz hb0 A xs H p hs hx h0 hH hC hfresh HB hbase hl
  exact event_step hw hrun (h v1 w1 r1 r2 r3 r4)
end
end Kd
end Go.Proofs.YticokbmafhpebaaW.PrintWords
