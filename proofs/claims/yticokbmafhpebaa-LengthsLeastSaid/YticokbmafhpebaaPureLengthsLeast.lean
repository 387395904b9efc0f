/- No lengths of a whole set of codes, within the limit, cost less than those that are made: the pure side of LengthsLeast; no condition. -/
import Derived.Test.YticokbmafhpebaaPureLengthsCost
import Derived.Test.YticokbmafhpebaaPureDepths
namespace Go.Proofs.Yticokbmafhpebaa.Pure
open Go.RowKit Go.Proofs.Yticokbmafhpebaa.PLengths Go.Proofs.YticokbmafhpebaaW.PrintWords Go.Proofs.YticokbmafhpebaaW.PrintLast Go.Proofs.YticokbmafhpebaaW.PrintMore
open Go.Proofs.Yticokbmafhpebaa.PM

/-! who occurs -/
def occ : List Int → Nat → List Int
  | [], _ => []
  | c :: cs, n => if c > 0 then (n : Int) :: occ cs (n + 1) else occ cs (n + 1)
theorem occ_len : ∀ (l : List Int) (n : Nat), (occ l n).length ≤ l.length
  | [], _ => by simp [occ]
  | c :: cs, n => by
    have := occ_len cs (n + 1)
    simp only [occ]
    split <;> simp only [List.length_cons] <;> omega
theorem occ_loop (l : List Int) (hl : l.length ≤ 100000) (d : Nat) : ∀ (k n : Nat) (acc : List Int), n + d = l.length → d < k → acc.length ≤ n → lengths_occurring.l0 k acc l (l.length : Int) (n : Int) = some (acc ++ occ (l.drop n) n) := by
  induction d with
  | zero =>
    intro k n acc hn hk ha
    obtain ⟨k, rfl⟩ : ∃ m, k = m + 1 := ⟨k - 1, by omega⟩
    rw [lengths_occurring.l0, if_neg (by omega), List.drop_eq_nil_of_le (by omega), occ, List.append_nil]
  | succ d ih =>
    intro k n acc hn hk ha
    obtain ⟨k, rfl⟩ : ∃ m, k = m + 1 := ⟨k - 1, by omega⟩
    rw [lengths_occurring.l0, if_pos (by omega), if_pos (by omega), if_pos (by omega), w_succ n (by omega), rd_nat, drop_getD l n (by omega), occ]
    by_cases h : l.getD n 0 > 0
    · rw [if_pos h, if_pos h, if_pos (by omega), ih k (n + 1) _ (by omega) (by omega) (by simp; omega), List.append_assoc]
      rfl
    · rw [if_neg h, if_neg h, ih k (n + 1) _ (by omega) (by omega) (by omega)]
theorem occ_at (l : List Int) (hl : l.length ≤ 100000) (k : Nat) (hk : l.length < k) : lengths_occurring.f k l = some (occ l 0) := by
  unfold lengths_occurring.f
  have := occ_loop l hl l.length k 0 [] (by omega) hk (by simp)
  simpa using this
theorem occ_range : ∀ (l : List Int) (n : Nat), ∀ s ∈ occ l n, (n : Int) ≤ s ∧ s < ((n + l.length : Nat) : Int)
  | [], _ => by simp [occ]
  | c :: cs, n => by
    have ih := occ_range cs (n + 1)
    intro s hs
    simp only [occ] at hs
    have hr : s ∈ occ cs (n + 1) → (n : Int) ≤ s ∧ s < ((n + (c :: cs).length : Nat) : Int) := by
      intro h
      have := ih s h
      simp only [List.length_cons]
      omega
    split at hs
    · rcases List.mem_cons.1 hs with rfl | h
      · simp only [List.length_cons]; omega
      · exact hr h
    · exact hr hs
theorem occ_nodup : ∀ (l : List Int) (n : Nat), (occ l n).Nodup
  | [], _ => List.nodup_nil
  | c :: cs, n => by
    simp only [occ]
    split
    · refine List.nodup_cons.2 ⟨fun h => ?_, occ_nodup cs (n + 1)⟩
      have := occ_range cs (n + 1) _ h
      omega
    · exact occ_nodup cs (n + 1)
theorem occ_map : ∀ (l pre : List Int), (occ l pre.length).map (fun s => rd (pre ++ l) s) = l.filter (fun c => decide (0 < c))
  | [], pre => by simp [occ]
  | c :: cs, pre => by
    have ih := occ_map cs (pre ++ [c])
    rw [List.append_assoc, List.length_append] at ih
    simp only [List.cons_append, List.nil_append, List.length_cons, List.length_nil] at ih
    simp only [occ]
    by_cases h : c > 0
    · rw [if_pos h, List.map_cons, ih, List.filter_cons_of_pos (by simpa using h), rd_nat]
      simp
    · rw [if_neg h, ih, List.filter_cons_of_neg (by simpa using h)]

/-! the page's checking -/
theorem shl_at : ∀ L : Nat, L ≤ 15 → shl .i64 1 (IntKind.u64.wrap (L : Int)) = ((2 ^ L : Nat) : Int) := by decide
theorem shl_raw : ∀ L : Nat, L ≤ 15 → shl .i64 1 (L : Int) = ((2 ^ L : Nat) : Int) := by decide
theorem uw_at (L : Nat) (h : L ≤ 15) : IntKind.u64.wrap (L : Int) = (L : Int) := by
  have : ∀ L : Nat, L ≤ 15 → IntKind.u64.wrap (L : Int) = (L : Int) := by decide
  exact this L h
theorem okCounts_cons (c : Int) (cs : List Int) : okCounts (c :: cs) = (decide (0 ≤ c ∧ c ≤ 1099511627776) && okCounts cs) := rfl
theorem okCounts_bd {l : List Int} (h : okCounts l = true) : Bd 1099511627776 l := by
  intro x hx
  have := List.all_eq_true.1 h x hx
  simpa using this
theorem refCheck_loop (l : List Int) (L : Nat) (hL : L ≤ 15) (hl : l.length ≤ 1024) (d : Nat) : ∀ (k n c : Nat), n + d = l.length → 2 * d + 1 < k → c ≤ n →
    ∃ v, punnetref07_Check.l0 k l (L : Int) (c : Int) (n : Int) = some v ∧ (v = 0 → okCounts (l.drop n) = true ∧ c + (occ (l.drop n) n).length ≤ 2 ^ L) := by
  induction d with
  | zero =>
    intro k n c hn hk hc
    obtain ⟨k, rfl⟩ : ∃ m, k = m + 1 := ⟨k - 1, by omega⟩
    rw [punnetref07_Check.l0, if_neg (by omega), if_pos (by rw [uw_at L hL]; omega), shl_at L hL, List.drop_eq_nil_of_le (by omega)]
    by_cases h : (c : Int) > ((2 ^ L : Nat) : Int)
    · rw [if_pos h]
      exact ⟨3, rfl, fun h => by simp at h⟩
    · rw [if_neg h]
      refine ⟨0, rfl, fun _ => ⟨rfl, ?_⟩⟩
      simp only [occ, List.length_nil]
      omega
  | succ d ih =>
    intro k n c hn hk hc
    obtain ⟨k, rfl⟩ : ∃ m, k = m + 1 + 1 := ⟨k - 2, by omega⟩
    rw [punnetref07_Check.l0, if_pos (by omega), if_pos (by omega), rd_nat, drop_getD l n (by omega), okCounts_cons, occ]
    by_cases h1 : l.getD n 0 < 0
    · rw [if_pos h1, punnetref07_Check.j2, if_pos rfl]
      exact ⟨1, rfl, fun h => by simp at h⟩
    · rw [if_neg h1, punnetref07_Check.j2]
      by_cases h2 : l.getD n 0 > 1099511627776
      · rw [if_pos (decide_eq_true h2)]
        exact ⟨1, rfl, fun h => by simp at h⟩
      · rw [if_neg (by simpa using h2), if_pos (by omega), if_pos (by omega), rd_nat, w_succ n (by omega), w_succ c (by omega), show decide (0 ≤ l.getD n 0 ∧ l.getD n 0 ≤ 1099511627776) = true from decide_eq_true ⟨by omega, by omega⟩, Bool.true_and]
        by_cases h3 : l.getD n 0 > 0
        · rw [if_pos h3, if_pos h3]
          obtain ⟨v, h4, h5⟩ := ih k (n + 1) (c + 1) (by omega) (by omega) (by omega)
          refine ⟨v, h4, fun hv => ⟨(h5 hv).1, ?_⟩⟩
          have := (h5 hv).2
          simp only [List.length_cons]
          omega
        · rw [if_neg h3, if_neg h3]
          exact ih k (n + 1) c (by omega) (by omega) (by omega)
theorem refCheck_at (l : List Int) (a1 : Int) (k : Nat) (hk : 2 * l.length + 4 < k) :
    ∃ v, punnetref07_Check.f k l a1 = some v ∧ (v = 0 → 1 ≤ a1 ∧ a1 ≤ 15 ∧ l.length ≤ 1024 ∧ okCounts l = true ∧ (occ l 0).length ≤ 2 ^ a1.toNat) := by
  unfold punnetref07_Check.f
  obtain ⟨k, rfl⟩ : ∃ m, k = m + 1 := ⟨k - 1, by omega⟩
  have bad : ∃ v, punnetref07_Check.j0 (k + 1) l a1 true = some v ∧ (v = 0 → 1 ≤ a1 ∧ a1 ≤ 15 ∧ l.length ≤ 1024 ∧ okCounts l = true ∧ (occ l 0).length ≤ 2 ^ a1.toNat) := ⟨1, by rw [punnetref07_Check.j0, if_pos rfl], fun h => by simp at h⟩
  by_cases h1 : a1 < 1
  · rw [if_pos h1]; exact bad
  · rw [if_neg h1]
    by_cases h2 : a1 > 15
    · rw [if_pos h2]; exact bad
    · rw [if_neg h2]
      by_cases h3 : (l.length : Int) > 1024
      · rw [decide_eq_true h3]; exact bad
      · rw [decide_eq_false h3, punnetref07_Check.j0, if_neg (by simp)]
        obtain ⟨L, rfl⟩ : ∃ L : Nat, a1 = (L : Int) := ⟨a1.toNat, by omega⟩
        obtain ⟨v, h4, h5⟩ := refCheck_loop l L (by omega) (by omega) l.length k 0 0 (by omega) (by omega) (by omega)
        refine ⟨v, h4, fun hv => ⟨by omega, by omega, by omega, ?_, ?_⟩⟩
        · simpa using (h5 hv).1
        · simpa using (h5 hv).2

/-! falling -/
def ins (c : Int) : List Int → List Int
  | [] => [c]
  | x :: xs => if x ≥ c then x :: ins c xs else c :: x :: xs
def dn : List Int → List Int → List Int
  | out, [] => out
  | out, c :: cs => if c = 0 then dn out cs else dn (ins c out) cs
theorem ins_len (c : Int) : ∀ l, (ins c l).length = l.length + 1
  | [] => rfl
  | x :: xs => by have := ins_len c xs; simp only [ins]; split <;> simp [this]
theorem ins_perm (c : Int) : ∀ l, (ins c l).Perm (c :: l)
  | [] => .refl _
  | x :: xs => by
    simp only [ins]
    split
    · exact ((ins_perm c xs).cons x).trans (.swap _ _ _)
    · exact .refl _
abbrev FallI (l : List Int) : Prop := l.Pairwise (· ≥ ·)
theorem ins_fall (c : Int) : ∀ l, FallI l → FallI (ins c l)
  | [], _ => by simp [ins]
  | x :: xs, h => by
    obtain ⟨h1, h2⟩ := List.pairwise_cons.1 h
    simp only [ins]
    split
    · rename_i hc
      refine List.pairwise_cons.2 ⟨fun y hy => ?_, ins_fall c xs h2⟩
      rcases List.mem_cons.1 ((ins_perm c xs).mem_iff.1 hy) with rfl | hy
      · exact hc
      · exact h1 y hy
    · rename_i hc
      refine List.pairwise_cons.2 ⟨fun y hy => ?_, h⟩
      rcases List.mem_cons.1 hy with rfl | hy
      · show c ≥ y; omega
      · have := h1 y hy; show c ≥ y; omega
theorem dn_fall : ∀ l out, FallI out → FallI (dn out l)
  | [], _, h => h
  | c :: cs, out, h => by
    simp only [dn]
    split
    · exact dn_fall cs out h
    · exact dn_fall cs _ (ins_fall c out h)
theorem dn_perm : ∀ l out, (∀ x ∈ l, 0 ≤ x) → (dn out l).Perm (out ++ l.filter (fun c => decide (0 < c)))
  | [], out, _ => by simp [dn]
  | c :: cs, out, h => by
    have hc := h c (by simp)
    have ht : ∀ x ∈ cs, 0 ≤ x := fun x hx => h x (by simp [hx])
    simp only [dn]
    by_cases h0 : c = 0
    · rw [if_pos h0, List.filter_cons_of_neg (by simp; omega)]
      exact dn_perm cs out ht
    · rw [if_neg h0, List.filter_cons_of_pos (by simp; omega)]
      refine (dn_perm cs _ ht).trans ?_
      refine (List.Perm.append_right _ (ins_perm c out)).trans ?_
      exact List.perm_middle.symm
theorem dn_len : ∀ l out, (dn out l).length ≤ out.length + l.length
  | [], out => by simp [dn]
  | c :: cs, out => by
    simp only [dn]
    split
    · have := dn_len cs out; simp only [List.length_cons]; omega
    · have := dn_len cs (ins c out); rw [ins_len] at this; simp only [List.length_cons]; omega
theorem ins_take (c : Int) : ∀ (out : List Int) (n : Nat), n < out.length → (∀ j, j < n → out.getD j 0 ≥ c) → ¬ out.getD n 0 ≥ c → ins c out = (out.take n ++ [c]) ++ out.drop n
  | [], n, h, _, _ => by simp at h
  | x :: xs, 0, _, _, h => by
    simp at h
    simp only [ins]
    rw [if_neg (by omega)]
    rfl
  | x :: xs, n + 1, h, ha, hb => by
    have h0 := ha 0 (by omega)
    simp at h0
    have := ins_take c xs n (by simpa using h) (fun j hj => by have := ha (j + 1) (by omega); simpa using this) (by simpa using hb)
    simp only [ins]
    rw [if_pos h0, this]
    rfl
theorem ins_end (c : Int) : ∀ (out : List Int), (∀ j, j < out.length → out.getD j 0 ≥ c) → ins c out = out ++ [c]
  | [], _ => rfl
  | x :: xs, ha => by
    have h0 := ha 0 (by simp)
    simp at h0
    have := ins_end c xs (fun j hj => by have := ha (j + 1) (by simpa using hj); simpa using this)
    simp only [ins]
    rw [if_pos h0, this]
    rfl
theorem down_l1 (l out : List Int) (m : Nat) (hm : m < l.length) (hl : l.length ≤ 1024) (ho : out.length ≤ 1024) (r : List Int) (k' : Nat) (hr : ∀ k, k' ≤ k → punnetref07_Down.l0 k l (ins (l.getD m 0) out) ((m + 1 : Nat) : Int) = some r) (d : Nat) : ∀ (k n : Nat), n + d = out.length → k' + d < k → (∀ j, j < n → out.getD j 0 ≥ l.getD m 0) → punnetref07_Down.l1 k l out (m : Int) (n : Int) = some r := by
  induction d with
  | zero =>
    intro k n hn hk ha
    obtain ⟨k, rfl⟩ : ∃ m, k = m + 1 := ⟨k - 1, by omega⟩
    obtain rfl : n = out.length := by omega
    have e := ins_end _ out ha
    rw [punnetref07_Down.l1, if_neg (by omega)]
    simp only [Option.bind_some]
    rw [if_pos (by omega), if_pos (by omega), if_pos (by simp only [List.length_nil, List.length_drop]; omega), if_pos (by omega), if_pos (by omega), if_pos (by omega), if_pos (by simp only [List.length_append, List.length_take, List.length_drop, List.length_nil, List.length_cons]; omega), w_succ m (by omega), rd_nat]
    have := hr k (by omega)
    rw [e] at this
    simpa using this
  | succ d ih =>
    intro k n hn hk ha
    obtain ⟨k, rfl⟩ : ∃ m, k = m + 1 := ⟨k - 1, by omega⟩
    rw [punnetref07_Down.l1, if_pos (by omega), if_pos (by omega), if_pos (by omega), if_pos (by omega), rd_nat, rd_nat]
    by_cases h : out.getD n 0 ≥ l.getD m 0
    · rw [if_pos h, w_succ n (by omega)]
      refine ih k (n + 1) (by omega) (by omega) fun j hj => ?_
      by_cases hjn : j = n
      · rw [hjn]; exact h
      · exact ha j (by omega)
    · rw [if_neg h]
      simp only [Option.bind_some]
      rw [if_pos (by omega), if_pos (by simp; omega), if_pos (by omega), if_pos (by simp; omega), w_succ m (by omega)]
      have e := ins_take _ out n (by omega) ha h
      have := hr k (by omega)
      rw [e] at this
      simpa using this
theorem down_loop (l : List Int) (hl : l.length ≤ 1000) (d : Nat) : ∀ (k n : Nat) (out : List Int), n + d = l.length → 2000 * d < k → out.length ≤ n → punnetref07_Down.l0 k l out (n : Int) = some (dn out (l.drop n)) := by
  induction d with
  | zero =>
    intro k n out hn hk ho
    obtain ⟨k, rfl⟩ : ∃ m, k = m + 1 := ⟨k - 1, by omega⟩
    rw [punnetref07_Down.l0, if_neg (by omega), List.drop_eq_nil_of_le (by omega), dn]
  | succ d ih =>
    intro k n out hn hk ho
    obtain ⟨k, rfl⟩ : ∃ m, k = m + 1 := ⟨k - 1, by omega⟩
    rw [punnetref07_Down.l0, if_pos (by omega), if_pos (by omega), rd_nat, w_succ n (by omega), drop_getD l n (by omega), dn]
    by_cases h : l.getD n 0 = 0
    · rw [if_pos h, if_pos h]
      exact ih k (n + 1) out (by omega) (by omega) (by omega)
    · rw [if_neg h, if_neg h]
      refine down_l1 l out n (by omega) (by omega) (by omega) _ (2000 * d + 1) (fun k hk => ih k (n + 1) _ (by omega) (by omega) (by rw [ins_len]; omega)) out.length k 0 (by omega) (by omega) (fun j hj => by omega)
theorem down_at (l : List Int) (hl : l.length ≤ 1000) (k : Nat) (hk : 2000 * l.length < k) : punnetref07_Down.f k l = some (dn [] l) := by
  unfold punnetref07_Down.f
  have := down_loop l hl l.length k 0 [] (by omega) hk (by simp)
  simpa using this

/-! looking at all -/
def Vs (L : Nat) : Nat → Nat → List Nat → Prop
  | _, p, [] => p = 0
  | f, p, n :: ns => f ≤ n ∧ n ≤ L ∧ 2 ^ (L - n) ≤ p ∧ Vs L n (p - 2 ^ (L - n)) ns
theorem Vs_le (L : Nat) : ∀ (ns : List Nat) (f p : Nat), Vs L f p ns → p ≤ ns.length * 2 ^ (L - f)
  | [], f, p, h => by simp [Vs] at h; omega
  | n :: ns, f, p, h => by
    obtain ⟨h1, h2, h3, h4⟩ := h
    have ih := Vs_le L ns n _ h4
    have e : 2 ^ (L - n) ≤ 2 ^ (L - f) := Nat.pow_le_pow_right (by omega) (by omega)
    have := Nat.mul_le_mul_left ns.length e
    simp only [List.length_cons]
    rw [Nat.succ_mul]
    omega
def Opt (S : List Nat → Prop) (l : List Int) (r : Int) : Prop :=
  (r = -1 ∧ ∀ ns, ns.length = l.length → ¬ S ns) ∨
  (0 ≤ r ∧ r ≤ 17592186044416 * (l.length : Int) ∧ (∃ ns, ns.length = l.length ∧ S ns ∧ cost l ns = r) ∧ ∀ ns, ns.length = l.length → S ns → r ≤ cost l ns)
theorem Opt.same {S S' : List Nat → Prop} {l : List Int} {r : Int} (h : Opt S l r) (e : ∀ ns, ns.length = l.length → (S ns ↔ S' ns)) : Opt S' l r := by
  rcases h with ⟨h1, h2⟩ | ⟨h1, h2, ⟨ns, h3, h4, h5⟩, h6⟩
  · exact .inl ⟨h1, fun ns hn hs => h2 ns hn ((e ns hn).2 hs)⟩
  · exact .inr ⟨h1, h2, ⟨ns, h3, (e ns h3).1 h4, h5⟩, fun ns hn hs => h6 ns hn ((e ns hn).2 hs)⟩
def Hd (L f p n : Nat) (ns : List Nat) : Prop := Vs L f p ns ∧ ns.headD 0 < n
theorem w_mul {a b m : Nat} (h1 : a ≤ 32768) (h2 : b ≤ 1000) (hm : a * b = m) : wrap64 ((a : Int) * (b : Int)) = (m : Int) := by
  have : a * b ≤ 32768 * 1000 := Nat.mul_le_mul h1 h2
  have e : (a : Int) * (b : Int) = ((a * b : Nat) : Int) := by simp
  rw [e, hm]
  rw [hm] at this
  unfold wrap64
  omega
theorem w_cand {t x : Int} {n : Nat} (hn : n ≤ 15) (h0 : 0 ≤ x ∧ x ≤ 1099511627776) (ht : 0 ≤ t ∧ t ≤ 17592186044416 * 1000) : wrap64 (t + wrap64 ((n : Int) * x)) = t + x * n ∧ x * n ≤ 16492674416640 ∧ 0 ≤ x * n := by
  have b := mul_bd h0.1 h0.2 (show (0 : Int) ≤ (n : Int) by omega) (show (n : Int) ≤ 15 by omega)
  rw [Int.mul_comm (n : Int) x]
  generalize x * (n : Int) = z at *
  have e : wrap64 z = z := by unfold wrap64; omega
  rw [e]
  refine ⟨?_, b.2, b.1⟩
  unfold wrap64
  omega
theorem pow_bd (a : Nat) (h : a ≤ 15) : 2 ^ a ≤ 32768 := Nat.pow_le_pow_right (n := 2) (by omega) h
theorem least_loop (L : Nat) (hL : L ≤ 15) (x : Int) (xs : List Int) (hx : 0 ≤ x ∧ x ≤ 1099511627776) (hlen : xs.length < 900) (f p : Nat) (hp : p ≤ 2 ^ L) (K : Nat)
    (ih : ∀ (n q k : Nat), 1 ≤ n → n ≤ L → q ≤ 2 ^ L → K ≤ k → ∃ r, punnetref07_least.f k xs (n : Int) (L : Int) (q : Int) = some r ∧ Opt (Vs L n q) xs r) (d : Nat) :
    ∀ (k n : Nat) (b : Int), n + d = L + 1 → 1 ≤ n → f ≤ n → K + d < k → Opt (Hd L f p n) (x :: xs) b → ∃ r, punnetref07_least.l0 k (x :: xs) (L : Int) (p : Int) b (n : Int) = some r ∧ Opt (Vs L f p) (x :: xs) r := by
  induction d with
  | zero =>
    intro k n b hn h1 hf hk ho
    obtain ⟨k, rfl⟩ : ∃ m, k = m + 1 := ⟨k - 1, by omega⟩
    rw [punnetref07_least.l0, if_neg (by omega)]
    refine ⟨b, rfl, ho.same fun ns hns => ?_⟩
    cases ns with
    | nil => simp at hns
    | cons m ns =>
      refine ⟨fun h => h.1, fun h => ⟨h, ?_⟩⟩
      have := h.2.1
      show m < n
      omega
  | succ d ihd =>
    intro k n b hn h1 hf hk ho
    obtain ⟨k, rfl⟩ : ∃ m, k = m + 1 := ⟨k - 1, by omega⟩
    have hn2 : n ≤ L := by omega
    have hpow := pow_bd (L - n) (by omega)
    have hpL := pow_bd L hL
    have hm0 : 0 < 2 ^ (L - n) := Nat.pow_pos (by omega)
    rw [punnetref07_least.l0, if_pos (by omega), w_sub L n (L - n) (by omega) (by omega), if_pos (by rw [uw_at (L - n) (by omega)]; omega), shl_at (L - n) (by omega), w_mul hpow (show (x :: xs).length ≤ 1000 by simp; omega) rfl]
    have stepS : ∀ m : Nat, ∀ ns : List Nat, ns.length = (x :: xs).length → Hd L f p (n + 1) ns → ¬ Hd L f p n ns → ∃ t, ns = n :: t ∧ t.length = xs.length ∧ 2 ^ (L - n) ≤ p ∧ Vs L n (p - 2 ^ (L - n)) t := by
      intro _ ns hns h2 h3
      cases ns with
      | nil => simp at hns
      | cons a t =>
        obtain ⟨v, hh⟩ := h2
        have e : a = n := by
          have c : ¬ a < n := fun hc => h3 ⟨v, hc⟩
          have hh' : a < n + 1 := hh
          omega
        subst e
        exact ⟨t, rfl, by simpa using hns, v.2.2.1, v.2.2.2⟩
    have keep : (∀ t : List Nat, t.length = xs.length → 2 ^ (L - n) ≤ p → ¬ Vs L n (p - 2 ^ (L - n)) t) → Opt (Hd L f p (n + 1)) (x :: xs) b := by
      intro hno
      refine ho.same fun ns hns => ⟨fun h => ⟨h.1, by have := h.2; omega⟩, fun h => ?_⟩
      by_cases hc : Hd L f p n ns
      · exact hc
      · obtain ⟨t, _, e2, e3, e4⟩ := stepS 0 ns hns h hc
        exact absurd e4 (hno t e2 e3)
    by_cases c1 : (((2 ^ (L - n)) * (x :: xs).length : Nat) : Int) < (p : Int)
    · rw [if_pos c1]
      refine ⟨b, rfl, ho.same fun ns hns => ⟨fun h => h.1, fun h => ⟨h, ?_⟩⟩⟩
      cases ns with
      | nil => simp at hns
      | cons a t =>
        by_cases hc : a < n
        · exact hc
        · have e := Vs_le L (a :: t) a p ⟨Nat.le_refl _, h.2.1, h.2.2.1, h.2.2.2⟩
          have e2 : 2 ^ (L - a) ≤ 2 ^ (L - n) := Nat.pow_le_pow_right (by omega) (by omega)
          have e3 := Nat.mul_le_mul_left (a :: t).length e2
          rw [hns] at e e3
          have c1' := Int.ofNat_lt.1 c1
          rw [Nat.mul_comm] at c1'
          omega
    · rw [if_neg c1]
      by_cases c2 : ((2 ^ (L - n) : Nat) : Int) > (p : Int)
      · rw [if_pos c2, w_succ n (by omega)]
        exact ihd k (n + 1) b (by omega) (by omega) (by omega) (by omega) (keep fun t _ h => by omega)
      · rw [if_neg c2, if_pos (by simp; omega)]
        obtain ⟨t, ht, hot⟩ := ih n (p - 2 ^ (L - n)) k h1 hn2 (by omega) (by omega)
        have e1 : wrap64 ((p : Int) - ((2 ^ (L - n) : Nat) : Int)) = ((p - 2 ^ (L - n) : Nat) : Int) := w_sub p (2 ^ (L - n)) (p - 2 ^ (L - n)) (by omega) (by omega)
        rw [e1, show (x :: xs).drop 1 = xs from rfl, ht]
        simp only [Option.bind_some]
        rw [w_succ n (by omega), show rd (x :: xs) 0 = x from rfl]
        rcases hot with ⟨t1, t2⟩ | ⟨t1, t2, ⟨ns0, t3, t4, t5⟩, t6⟩
        · rw [if_neg (by omega)]
          exact ihd k (n + 1) b (by omega) (by omega) (by omega) (by omega) (keep fun t ht _ => t2 t ht)
        · obtain ⟨w1, w2, w3⟩ := w_cand (t := t) (x := x) (n := n) (by omega) hx ⟨t1, by omega⟩
          rw [if_pos (by omega), w1]
          have cand : Hd L f p (n + 1) (n :: ns0) := ⟨⟨hf, hn2, by omega, t4⟩, by show n < n + 1; omega⟩
          have candc : cost (x :: xs) (n :: ns0) = t + x * n := by simp only [cost]; rw [t5]; omega
          have candl : (n :: ns0).length = (x :: xs).length := by simp [t3]
          have low : ∀ ns, ns.length = (x :: xs).length → Hd L f p (n + 1) ns → ¬ Hd L f p n ns → t + x * n ≤ cost (x :: xs) ns := by
            intro ns hns h2 h3
            obtain ⟨s, e1, e2, e3, e4⟩ := stepS 0 ns hns h2 h3
            subst e1
            have := t6 s e2 e4
            simp only [cost]
            omega
          have bd : t + x * n ≤ 17592186044416 * ((x :: xs).length : Int) := by simp only [List.length_cons]; omega
          rcases ho with ⟨o1, o2⟩ | ⟨o1, o2, ⟨ns1, o3, o4, o5⟩, o6⟩
          · rw [if_pos (by omega), if_pos (by simp only [List.length_cons]; omega)]
            exact ihd k (n + 1) _ (by omega) (by omega) (by omega) (by omega) (.inr ⟨by omega, bd, ⟨_, candl, cand, candc⟩, fun ns hns h => low ns hns h (o2 ns hns)⟩)
          · rw [if_neg (by omega), if_pos (by simp only [List.length_cons]; omega)]
            by_cases c3 : t + x * (n : Int) < b
            · rw [if_pos c3]
              refine ihd k (n + 1) _ (by omega) (by omega) (by omega) (by omega) (.inr ⟨by omega, bd, ⟨_, candl, cand, candc⟩, fun ns hns h => ?_⟩)
              by_cases hc : Hd L f p n ns
              · have := o6 ns hns hc; omega
              · exact low ns hns h hc
            · rw [if_neg c3]
              refine ihd k (n + 1) _ (by omega) (by omega) (by omega) (by omega) (.inr ⟨o1, o2, ⟨ns1, o3, ⟨o4.1, by have := o4.2; omega⟩, o5⟩, fun ns hns h => ?_⟩)
              by_cases hc : Hd L f p n ns
              · exact o6 ns hns hc
              · have := low ns hns h hc; omega
theorem least_at (L : Nat) (hL : L ≤ 15) : ∀ (l : List Int), Bd 1099511627776 l → l.length ≤ 900 → ∀ (f p k : Nat), 1 ≤ f → p ≤ 2 ^ L → 20 * (l.length + 1) ≤ k →
    ∃ r, punnetref07_least.f k l (f : Int) (L : Int) (p : Int) = some r ∧ Opt (Vs L f p) l r
  | [], _, _, f, p, k, _, _, hk => by
    obtain ⟨k, rfl⟩ : ∃ m, k = m + 1 := ⟨k - 1, by omega⟩
    rw [punnetref07_least.f, if_pos (by simp)]
    by_cases h : (p : Int) = 0
    · rw [if_pos h]
      refine ⟨0, rfl, .inr ⟨by omega, by simp, ⟨[], rfl, ?_, rfl⟩, fun ns hns _ => ?_⟩⟩
      · show p = 0; omega
      · rw [show ns = [] from List.length_eq_zero_iff.1 hns]; exact Int.le_refl _
    · rw [if_neg h]
      refine ⟨-1, rfl, .inl ⟨rfl, fun ns hns hv => ?_⟩⟩
      rw [show ns = [] from List.length_eq_zero_iff.1 hns] at hv
      have : p = 0 := hv
      omega
  | x :: xs, hb, hlen, f, p, k, hf, hp, hk => by
    obtain ⟨k, rfl⟩ : ∃ m, k = m + 1 := ⟨k - 1, by omega⟩
    simp only [List.length_cons] at hk hlen
    rw [punnetref07_least.f, if_neg (by simp; omega)]
    have hbx := hb x (by simp)
    by_cases hfL : f ≤ L + 1
    · refine least_loop L hL x xs hbx (by omega) f p hp (20 * (xs.length + 1)) ?_ (L + 1 - f) k f (-1) (by omega) hf (Nat.le_refl _) (by omega) ?_
      · intro n q k hn _ hq hk
        exact least_at L hL xs (fun y hy => hb y (by simp [hy])) (by omega) n q k hn hq (by omega)
      · refine .inl ⟨rfl, fun ns hns h => ?_⟩
        cases ns with
        | nil => simp at hns
        | cons a t =>
          have := h.1.1
          have h2 : a < f := h.2
          omega
    · obtain ⟨k, rfl⟩ : ∃ m, k = m + 1 := ⟨k - 1, by omega⟩
      rw [punnetref07_least.l0, if_neg (by omega)]
      refine ⟨-1, rfl, .inl ⟨rfl, fun ns hns h => ?_⟩⟩
      cases ns with
      | nil => simp at hns
      | cons a t =>
        have h1 := h.1
        have h2 := h.2.1
        omega

/-! what is made -/
theorem check_at (l : List Int) (L : Nat) (h1 : 1 ≤ L) (hL : L ≤ 15) (hl : l.length ≤ 1024) (hok : okCounts l = true) (hfit : (occ l 0).length ≤ 2 ^ L) (k : Nat) (hk : l.length + 2 < k) : lengths_Check.f k l (L : Int) = some 0 := by
  obtain ⟨k, rfl⟩ : ∃ m, k = m + 1 := ⟨k - 1, by omega⟩
  unfold lengths_Check.f
  rw [if_neg (by omega), if_neg (by omega), counted_at l (k + 1) (by omega), decide_eq_true hl, hok]
  simp only [Option.bind_some, Bool.and_self, Bool.not_true]
  rw [lengths_Check.j0, if_neg (by simp), occ_at l (by omega) k (by omega)]
  simp only [Option.bind_some]
  rw [if_pos (by omega), shl_raw L hL, if_neg (by omega)]
theorem clampI_id {n : Nat} {x : Int} (h : 0 ≤ x ∧ x < n) : clampI n x = x := by unfold clampI; rw [if_pos h]
theorem sortSy_asc (l sy : List Int) (hr : inRange l.length sy = true) : Srt ((sortSy l sy).map fun s => rd l s) := by
  have h := (Sort.insertionSort_holds (sortSy_swo l) sy.toArray 0 sy.toArray.size (Nat.zero_le _) (Nat.le_refl _))
  obtain ⟨⟨hs, _, _⟩, h2⟩ := h
  have hlen := sortSy_length l sy
  have hrange := sortSy_range hr
  rw [Srt, List.pairwise_iff_getElem]
  intro i j hi hj hij
  simp only [List.length_map] at hi hj
  have h3 := h2 i j (Nat.zero_le _) hij (by simp; omega)
  simp only [List.getElem_map]
  have e : ∀ (t : Nat) (ht : t < (sortSy l sy).length), (Sort.insertionSort (SortI.ltOf (cmpC l)) sy.toArray 0 sy.toArray.size)[t]! = (sortSy l sy)[t] := by
    intro t ht
    have hsz : t < (Sort.insertionSort (SortI.ltOf (cmpC l)) sy.toArray 0 sy.toArray.size).size := by rw [hs]; simp; omega
    rw [getElem!_pos _ t hsz]
    simp [sortSy]
  rw [e i hi, e j hj] at h3
  have ri := hrange _ (List.getElem_mem hi)
  have rj := hrange _ (List.getElem_mem hj)
  unfold SortI.ltOf cmpC Lib.compareInt at h3
  rw [clampI_id ri, clampI_id rj] at h3
  by_cases c : rd l (sortSy l sy)[j] < rd l (sortSy l sy)[i]
  · simp [c] at h3
  · omega
def dot : List Int → List Int → Int
  | c :: cs, n :: ns => c * n + dot cs ns
  | _, _ => 0
theorem dot_zero (l : List Int) : ∀ n, dot l (List.replicate n 0) = 0 := by
  induction l with
  | nil => intro n; cases n <;> rfl
  | cons c cs ih =>
    intro n
    cases n with
    | zero => rfl
    | succ n => rw [List.replicate_succ, dot, ih]; simp
theorem dot_set : ∀ (l lens : List Int) (i : Nat) (v : Int), l.length = lens.length → i < lens.length → lens.getD i 0 = 0 → dot l (lens.set i v) = l.getD i 0 * v + dot l lens
  | [], [], i, v, _, h, _ => by simp at h
  | [], _ :: _, _, _, h, _, _ => by simp at h
  | _ :: _, [], _, _, h, _, _ => by simp at h
  | c :: cs, n :: ns, 0, v, hl, _, h0 => by
    simp at h0
    subst h0
    simp [dot]
  | c :: cs, n :: ns, i + 1, v, hl, hi, h0 => by
    have := dot_set cs ns i v (by simpa using hl) (by simpa using hi) (by simpa using h0)
    simp only [List.set_cons_succ, dot, List.getD_cons_succ]
    rw [this]
    omega
theorem scat_len : ∀ (lens ss ns : List Int), (scat lens ss ns).length = lens.length
  | lens, [], ns => by simp [scat]
  | lens, _ :: _, [] => by simp [scat]
  | lens, s :: ss, n :: ns => by simp only [scat]; rw [scat_len, List.length_set]
theorem scat_mem {P : Int → Prop} : ∀ (ss ns lens : List Int), (∀ x ∈ lens, P x) → (∀ x ∈ ns, P x) → ∀ x ∈ scat lens ss ns, P x
  | [], ns, lens, h, _ => by simpa [scat] using h
  | _ :: _, [], lens, h, _ => by simpa [scat] using h
  | s :: ss, n :: ns, lens, h, hn => by
    simp only [scat]
    refine scat_mem ss ns _ (fun x hx => ?_) (fun x hx => hn x (by simp [hx]))
    rcases List.mem_or_eq_of_mem_set hx with h1 | h1
    · exact h x h1
    · rw [h1]; exact hn n (by simp)
theorem scat_dot (l : List Int) : ∀ (ss ns lens : List Int), l.length = lens.length → ss.length = ns.length → ss.Nodup → (∀ s ∈ ss, 0 ≤ s ∧ s < l.length ∧ lens.getD s.toNat 0 = 0) → dot l (scat lens ss ns) = dot (ss.map fun s => rd l s) ns + dot l lens
  | [], [], lens, _, _, _, _ => by simp [scat, dot]
  | [], _ :: _, _, _, h, _, _ => by simp at h
  | _ :: _, [], _, _, h, _, _ => by simp at h
  | s :: ss, n :: ns, lens, hl, hs, hn, hr => by
    obtain ⟨n1, n2⟩ := List.nodup_cons.1 hn
    obtain ⟨r1, r2, r3⟩ := hr s (by simp)
    have ih := scat_dot l ss ns (lens.set s.toNat n) (by simpa using hl) (by simpa using hs) n2 (fun t ht => by
      obtain ⟨t1, t2, t3⟩ := hr t (by simp [ht])
      refine ⟨t1, t2, ?_⟩
      have hne : s.toNat ≠ t.toNat := by
        intro e
        have : s = t := by omega
        exact n1 (this ▸ ht)
      rw [List.getD_eq_getElem?_getD, List.getElem?_set_ne hne, ← List.getD_eq_getElem?_getD]
      exact t3)
    simp only [scat, List.map_cons, dot]
    rw [ih, dot_set l lens s.toNat n hl (by omega) r3]
    unfold rd
    omega
theorem costR_dot : ∀ (cs ns : List Int) (s : Int), cs.length = ns.length → (∀ n ∈ ns, 0 ≤ n ∧ n ≤ 15) → costR cs ns s = some (s + dot cs ns)
  | [], [], s, _, _ => by simp [costR, dot]
  | [], _ :: _, _, h, _ => by simp at h
  | _ :: _, [], _, h, _ => by simp at h
  | c :: cs, n :: ns, s, hl, hn => by
    simp only [costR, dot]
    rw [if_pos (hn n (by simp)), costR_dot cs ns _ (by simpa using hl) (fun m hm => hn m (by simp [hm]))]
    congr 1
    omega
theorem dot_up : ∀ (ws : List Int) (ls : List Nat), dot ws (up ls) = cost ws ls
  | [], [] => rfl
  | [], _ :: _ => rfl
  | _ :: _, [] => rfl
  | w :: ws, l :: ls => by
    have := dot_up ws ls
    simp only [up] at this
    simp only [up, List.map_cons, dot, cost]
    rw [this]
/-- the counts of those that occur, rising -/
def rise (l : List Int) : List Int := (dn [] l).reverse
theorem rise_srt (l : List Int) : Srt (rise l) := List.pairwise_reverse.2 (dn_fall l [] List.Pairwise.nil)
theorem rise_perm (l : List Int) (h : ∀ x ∈ l, 0 ≤ x) : (rise l).Perm (l.filter fun c => decide (0 < c)) := (List.reverse_perm _).trans (by simpa using dn_perm l [] h)
theorem rise_occ (l : List Int) (h : ∀ x ∈ l, 0 ≤ x) : (rise l).length = (occ l 0).length := by
  have e := occ_map l []
  rw [(rise_perm l h).length_eq, ← e, List.length_map]
  rfl
theorem srt_unique {a b : List Int} (ha : Srt a) (hb : Srt b) (h : a.Perm b) : a = b :=
  List.Perm.eq_of_pairwise (fun _ _ _ _ h1 h2 => Int.le_antisymm h1 h2) ha hb h
/-- a whole code's lengths cost, put back to their symbols -/
theorem spread (l sy : List Int) (ls : List Nat) (hl : l.length ≤ 1024) (hok : okCounts l = true) (hn : sy.Nodup) (hr : ∀ s ∈ sy, 0 ≤ s ∧ s < l.length) (hlen : ls.length = sy.length) (hb : ∀ x ∈ ls, 1 ≤ x ∧ x ≤ 15) (k : Nat) (hk : l.length + 2 < k) :
    lengths_Cost.f k l (scat (List.replicate l.length 0) sy (up ls)) = some (cost (sy.map fun s => rd l s) ls, 0) := by
  have hu : (up ls).length = ls.length := by simp [up]
  have hm : ∀ x ∈ scat (List.replicate l.length 0) sy (up ls), 0 ≤ x ∧ x ≤ 15 := by
    refine scat_mem sy (up ls) _ (fun x hx => ?_) (fun x hx => ?_)
    · have := List.eq_of_mem_replicate hx; omega
    · obtain ⟨y, hy, rfl⟩ := List.mem_map.1 hx
      have := hb y hy
      omega
  have hsl := scat_len (List.replicate l.length 0) sy (up ls)
  rw [List.length_replicate] at hsl
  rw [cost_at l _ k hk, if_pos ⟨hsl, hl, hok⟩, costR_dot l _ 0 hsl.symm hm]
  rw [scat_dot l sy (up ls) _ (by simp) (by omega) hn (fun s hs => ⟨(hr s hs).1, (hr s hs).2, by have := hr s hs; rw [List.getD_eq_getElem?_getD, List.getElem?_replicate]; split <;> rfl⟩), dot_zero, dot_up]
  simp [told]
theorem make_at (l : List Int) (L : Nat) (h1 : 1 ≤ L) (hL : L ≤ 15) (hl : l.length ≤ 1024) (hok : okCounts l = true) (hfit : (occ l 0).length ≤ 2 ^ L) (h2 : 2 ≤ (occ l 0).length) (h20 : (occ l 0).length < 20) (k : Nat) (hk : 200000 ≤ k) :
    ∃ lens, lengths_Make.f k l (L : Int) = some (lens, 0) ∧ lengths_Cost.f k l lens = some (sm (lvW (rise l) L) (2 * (rise l).length - 2), 0) := by
  have hbd := okCounts_bd hok
  have hpos : ∀ x ∈ l, 0 ≤ x := fun x hx => (hbd x hx).1
  have hro : ∀ s ∈ occ l 0, 0 ≤ s ∧ s < l.length := fun s hs => by have := occ_range l 0 s hs; omega
  have hin : inRange l.length (occ l 0) = true := by
    unfold inRange
    rw [List.all_eq_true]
    intro s hs
    exact decide_eq_true (hro s hs)
  have hp := sortSy_perm l (occ l 0)
  have hlv : ((sortSy l (occ l 0)).map fun s => rd l s) = rise l := by
    refine srt_unique (sortSy_asc l _ hin) (rise_srt l) ?_
    have e := occ_map l []
    exact ((hp.map _).trans (by rw [show ((occ l 0).map fun s => rd l s) = (occ l ([] : List Int).length).map (fun s => rd ([] ++ l) s) from rfl, e])).trans (rise_perm l hpos).symm
  have hrl := rise_occ l hpos
  have hX : Bd 1099511627776 (rise l) := fun x hx => hbd x ((List.mem_filter.1 ((rise_perm l hpos).mem_iff.1 hx)).1)
  have hd := depths_at (rise l) L h1 hL (by omega) (by omega) (by omega) hX (rise_srt l) k hk
  have lv := lvs (rise l) L (rise_srt l) (fun x hx => (hX x hx).1)
  obtain ⟨m1, m2, m3, m4, m5⟩ := made_all lv (by omega) (by omega) (by omega)
  refine ⟨scat (List.replicate l.length 0) (sortSy l (occ l 0)) (up (R (rise l).length (lvB (rise l)) L (2 * (rise l).length - 2))), ?_, ?_⟩
  · unfold lengths_Make.f
    rw [check_at l L h1 hL hl hok hfit k (by omega)]
    simp only [Option.bind_some]
    rw [if_pos trivial, occ_at l (by omega) k (by omega)]
    simp only [Option.bind_some]
    rw [if_pos ⟨by omega, hin⟩, if_neg (by omega), if_neg (by omega), if_pos (by omega), hlv, hd]
    simp only [Option.bind_some]
    rw [if_pos (by simp [up, m1]; omega)]
  · rw [spread l (sortSy l (occ l 0)) _ hl hok (hp.nodup_iff.2 (occ_nodup l 0)) (fun s hs => hro s (hp.mem_iff.1 hs)) (by rw [m1, hp.length_eq]; omega) (fun x hx => by have := m2 x hx; omega) k (by omega), hlv, m4]

/-! both ways round -/
theorem cost_snoc (w : Int) (n : Nat) : ∀ (ws : List Int) (ls : List Nat), ls.length = ws.length → cost (ws ++ [w]) (ls ++ [n]) = cost ws ls + w * n
  | [], [], _ => by simp [cost]
  | [], _ :: _, h => by simp at h
  | _ :: _, [], h => by simp at h
  | x :: ws, l :: ls, h => by
    have := cost_snoc w n ws ls (by simpa using h)
    simp only [List.cons_append, cost]
    rw [this]
    omega
theorem cost_rev : ∀ (ws : List Int) (ls : List Nat), ls.length = ws.length → cost ws.reverse ls.reverse = cost ws ls
  | [], [], _ => rfl
  | [], _ :: _, h => by simp at h
  | _ :: _, [], h => by simp at h
  | x :: ws, l :: ls, h => by
    have hl : ls.length = ws.length := by simpa using h
    rw [List.reverse_cons, List.reverse_cons, cost_snoc _ _ _ _ (by simpa using hl), cost_rev ws ls hl, cost]
    omega
theorem kr_append (j : Nat) : ∀ a b : List Nat, kr j (a ++ b) = kr j a + kr j b
  | [], b => by simp [kr]
  | x :: a, b => by simp only [List.cons_append, kr]; rw [kr_append j a b]; omega
theorem kr_rev (j : Nat) : ∀ a : List Nat, kr j a.reverse = kr j a
  | [] => rfl
  | x :: a => by rw [List.reverse_cons, kr_append, kr_rev j a]; simp only [kr]; omega
theorem Vs_kr (L : Nat) : ∀ (ns : List Nat) (f p : Nat), 1 ≤ f → Vs L f p ns → (∀ n ∈ ns, 1 ≤ n ∧ n ≤ L) ∧ kr L ns = p
  | [], _, p, _, h => ⟨by simp, by have : p = 0 := h; simp [kr, this]⟩
  | n :: ns, f, p, hf, h => by
    obtain ⟨h1, h2, h3, h4⟩ := h
    obtain ⟨i1, i2⟩ := Vs_kr L ns n _ (by omega) h4
    refine ⟨fun x hx => ?_, ?_⟩
    · rcases List.mem_cons.1 hx with rfl | hx
      · omega
      · exact i1 x hx
    · simp only [kr]
      rw [if_neg (by omega), i2]
      omega
theorem Vs_of (L : Nat) : ∀ (ns : List Nat) (f : Nat), 1 ≤ f → (∀ n ∈ ns, f ≤ n ∧ n ≤ L) → ns.Pairwise (· ≤ ·) → Vs L f (kr L ns) ns
  | [], _, _, _, _ => rfl
  | n :: ns, f, hf, hb, hp => by
    obtain ⟨p1, p2⟩ := List.pairwise_cons.1 hp
    have h1 := hb n (by simp)
    simp only [kr]
    rw [if_neg (by omega)]
    refine ⟨h1.1, h1.2, by omega, ?_⟩
    rw [Nat.add_sub_cancel_left]
    exact Vs_of L ns n (by omega) (fun x hx => ⟨p1 x hx, (hb x (by simp [hx])).2⟩) p2
theorem least_is (l : List Int) (L : Nat) (h1 : 1 ≤ L) (hL : L ≤ 15) (hl : l.length ≤ 90) (hok : okCounts l = true) (hfit : (occ l 0).length ≤ 2 ^ L) (h2 : 2 ≤ (occ l 0).length) (k : Nat) (hk : 400000 ≤ k) :
    punnetref07_Least.f k l (L : Int) = some (sm (lvW (rise l) L) (2 * (rise l).length - 2)) := by
  have hbd := okCounts_bd hok
  have hpos : ∀ x ∈ l, 0 ≤ x := fun x hx => (hbd x hx).1
  have hX : Bd 1099511627776 (rise l) := fun x hx => hbd x ((List.mem_filter.1 ((rise_perm l hpos).mem_iff.1 hx)).1)
  have hrl := rise_occ l hpos
  have hrev : (rise l).reverse = dn [] l := by simp [rise]
  have hdl : (dn [] l).length = (rise l).length := by simp [rise]
  have hol := occ_len l 0
  have lv := lvs (rise l) L (rise_srt l) (fun x hx => (hX x hx).1)
  obtain ⟨m1, m2, m3, m4, m5⟩ := made_all lv (by omega) (by omega) (by omega)
  obtain ⟨r, e1, e2⟩ := least_at L hL (dn [] l) (fun x hx => hX x (by simpa [rise] using hx)) (by omega) 1 (2 ^ L) k (by omega) (Nat.le_refl _) (by omega)
  unfold punnetref07_Least.f
  rw [down_at l (by omega) k (by omega)]
  simp only [Option.bind_some]
  rw [if_pos (by rw [uw_at L hL]; omega), shl_at L hL, show (1 : Int) = ((1 : Nat) : Int) from rfl, e1]
  simp only [Option.bind_some]
  congr 1
  have hv : Vs L 1 (2 ^ L) (R (rise l).length (lvB (rise l)) L (2 * (rise l).length - 2)).reverse := by
    have := Vs_of L (R (rise l).length (lvB (rise l)) L (2 * (rise l).length - 2)).reverse 1 (Nat.le_refl _) (fun n hn => m2 n (by simpa using hn)) (List.pairwise_reverse.2 m3)
    rw [kr_rev, m5] at this
    exact this
  have hvl : (R (rise l).length (lvB (rise l)) L (2 * (rise l).length - 2)).reverse.length = (dn [] l).length := by rw [List.length_reverse, m1, hdl]
  rcases e2 with ⟨_, n2⟩ | ⟨_, _, ⟨ns, n3, n4, n5⟩, n6⟩
  · exact absurd hv (n2 _ hvl)
  · have a1 := n6 _ hvl hv
    rw [← hrev, cost_rev _ _ (by rw [m1]), m4] at a1
    obtain ⟨v1, v2⟩ := Vs_kr L ns 1 _ (Nat.le_refl _) n4
    have a2 := lower_all lv ns.reverse (by rw [List.length_reverse, n3, hdl]) (fun x hx => v1 x (by simpa using hx)) (by rw [kr_rev, v2]; omega)
    have a3 := cost_rev (dn [] l) ns n3
    rw [show (dn [] l).reverse = rise l from rfl] at a3
    omega

theorem LengthsLeast : punnetlaw07_LengthsLeast.Pure := by
  intro x0 a1 _ _ _ _
  obtain ⟨k0, hk0⟩ := awake_
  refine ⟨k0 + 500000, ?_⟩
  obtain ⟨k, hk⟩ : ∃ k, k = k0 + 499999 := ⟨_, rfl⟩
  rw [show k0 + 500000 = k + 1 from by omega]
  unfold punnetlaw07_LengthsLeast.f
  rw [hk0 (k + 1) (by omega)]
  simp only [Option.bind_some, if_true]
  have yes : punnetlaw07_LengthsLeast.j0 (k + 1) x0 a1 true = some true := by rw [punnetlaw07_LengthsLeast.j0, if_pos rfl]
  by_cases c1 : (x0.length : Int) > 9
  · rw [if_pos c1]; exact yes
  · rw [if_neg c1]
    by_cases c2 : a1 > 9
    · rw [if_pos c2]; exact yes
    · rw [if_neg c2]
      obtain ⟨v, h1, h2⟩ := refCheck_at x0 a1 (k + 1) (by omega)
      rw [h1]
      simp only [Option.bind_some]
      by_cases c3 : v = 0
      · rw [if_pos c3, down_at x0 (by omega) (k + 1) (by omega)]
        simp only [Option.bind_some]
        obtain ⟨b1, b2, b3, b4, b5⟩ := h2 c3
        obtain ⟨L, rfl⟩ : ∃ L : Nat, a1 = (L : Int) := ⟨a1.toNat, by omega⟩
        rw [Int.toNat_natCast] at b5
        by_cases c4 : ((dn [] x0).length : Int) < 2
        · rw [decide_eq_true c4]; exact yes
        · have hr := rise_occ x0 (fun x hx => (okCounts_bd b4 x hx).1)
          have hr2 : (rise x0).length = (dn [] x0).length := by simp [rise]
          have ho := occ_len x0 0
          obtain ⟨lens, e1, e2⟩ := make_at x0 L (by omega) (by omega) (by omega) b4 b5 (by omega) (by omega) k (by omega)
          rw [decide_eq_false c4, punnetlaw07_LengthsLeast.j0, if_neg (by simp), e1]
          simp only [Option.bind_some]
          rw [e2]
          simp only [Option.bind_some, if_true]
          rw [least_is x0 L (by omega) (by omega) (by omega) b4 b5 (by omega) k (by omega)]
          simp
      · rw [if_neg c3]; exact yes
end Go.Proofs.Yticokbmafhpebaa.Pure
