/- What the program's merging and its depths are: the lists of packages and the lengths that they make; no condition. -/
import Derived.Test.YticokbmafhpebaaPLengthsx3
import Derived.Test.YticokbmafhpebaaPM
namespace Go.Proofs.Yticokbmafhpebaa.Pure
open Go.RowKit Go.Proofs.Yticokbmafhpebaa.PLengths Go.Proofs.YticokbmafhpebaaW.PrintWords Go.Proofs.YticokbmafhpebaaW.PrintLast Go.Proofs.YticokbmafhpebaaW.PrintMore
open Go.Proofs.Yticokbmafhpebaa.PM

def mf : Nat → List Int → List Int → List Int × List Bool
  | 0, _, _ => ([], [])
  | _ + 1, [], [] => ([], [])
  | f + 1, x :: xs, [] => (x :: (mf f xs []).1, false :: (mf f xs []).2)
  | f + 1, [], y :: ys => (y :: (mf f [] ys).1, true :: (mf f [] ys).2)
  | f + 1, x :: xs, y :: ys => if y < x then (y :: (mf f (x :: xs) ys).1, true :: (mf f (x :: xs) ys).2) else (x :: (mf f xs (y :: ys)).1, false :: (mf f xs (y :: ys)).2)
theorem mf_Mg : ∀ f xs ys, xs.length + ys.length ≤ f → Mg xs ys (mf f xs ys).1 (mf f xs ys).2
  | 0, [], [], _ => .done
  | 0, _ :: _, _, h => by simp at h
  | 0, [], _ :: _, h => by simp at h
  | _ + 1, [], [], _ => .done
  | f + 1, x :: xs, [], h => .leaf _ _ _ _ _ (fun _ hy => by simp at hy) (mf_Mg f xs [] (by simp at h ⊢; omega))
  | f + 1, [], y :: ys, h => .pair _ _ _ _ _ (fun _ hy => by simp at hy) (mf_Mg f [] ys (by simp at h ⊢; omega))
  | f + 1, x :: xs, y :: ys, h => by
    simp only [mf]
    by_cases c : y < x
    · rw [if_pos c]
      exact .pair _ _ _ _ _ (fun _ hx => by simp at hx; omega) (mf_Mg f (x :: xs) ys (by simp at h ⊢; omega))
    · rw [if_neg c]
      exact .leaf _ _ _ _ _ (fun _ hx => by simp at hx; omega) (mf_Mg f xs (y :: ys) (by simp at h ⊢; omega))
def lvW (ws : List Int) : Nat → List Int
  | 0 => []
  | j + 1 => (mf (ws.length + (prs (lvW ws j)).length) ws (prs (lvW ws j))).1
def lvB (ws : List Int) : Nat → List Bool
  | 0 => []
  | j + 1 => (mf (ws.length + (prs (lvW ws j)).length) ws (prs (lvW ws j))).2
theorem lvs (ws : List Int) (L : Nat) (hs : Srt ws) (hp : PM.Pos ws) : Lvs ws L (lvW ws) (lvB ws) :=
  ⟨hs, hp, rfl, fun _ _ => mf_Mg _ _ _ (Nat.le_refl _)⟩

theorem rd_nat (l : List Int) (n : Nat) : rd l (n : Int) = l.getD n 0 := by unfold rd; rw [Int.toNat_natCast]
theorem drop_getD (l : List Int) (n : Nat) (h : n < l.length) : l.drop n = l.getD n 0 :: l.drop (n + 1) := by
  rw [List.drop_eq_getElem_cons h, List.getD_eq_getElem?_getD, List.getElem?_eq_getElem h]; rfl
theorem w_dbl (p : Nat) (h : p ≤ 1000000) : wrap64 (2 * (p : Int)) = ((2 * p : Nat) : Int) := by unfold wrap64; omega
theorem w_succ (n : Nat) (h : n ≤ 1000000) : wrap64 ((n : Int) + 1) = ((n + 1 : Nat) : Int) := by unfold wrap64; omega
theorem w_sum {a b : Int} (ha : 0 ≤ a ∧ a ≤ 1152921504606846976) (hb : 0 ≤ b ∧ b ≤ 1152921504606846976) : wrap64 (a + b) = a + b := by unfold wrap64; omega
theorem w_sub (a b c : Nat) (h : a = b + c) (h2 : a ≤ 1000000) : wrap64 ((a : Int) - (b : Int)) = (c : Int) := by unfold wrap64; omega
theorem w_pred (a : Nat) (h2 : a ≤ 1000000) : wrap64 (((a + 1 : Nat) : Int) - 1) = (a : Int) := by unfold wrap64; omega
theorem w_add (a b : Nat) (h1 : a ≤ 1000000) (h2 : b ≤ 1000000) : wrap64 ((a : Int) + (b : Int)) = ((a + b : Nat) : Int) := by unfold wrap64; omega
theorem w_half (a : Nat) (h1 : a ≤ 1000000) : wrap64 ((a : Int) / 2) = ((a / 2 : Nat) : Int) := by unfold wrap64; omega
theorem w_need (a : Nat) (h1 : a ≤ 100000) (h2 : 1 ≤ a) : wrap64 (wrap64 (2 * (a : Int)) - 2) = ((2 * a - 2 : Nat) : Int) := by rw [w_dbl a (by omega)]; unfold wrap64; omega
theorem w_nat (n : Nat) (h : n ≤ 9223372036854775807) : wrap64 (n : Int) = (n : Int) := by unfold wrap64; omega

abbrev Bd (m : Int) (l : List Int) : Prop := ∀ x ∈ l, 0 ≤ x ∧ x ≤ m
/-- the loop of the merging -/
theorem merge_loop (xs b : List Int) (hx : xs.length ≤ 2000) (hb : b.length ≤ 8000) (hB : Bd 1152921504606846976 b) (hX : Bd 1152921504606846976 xs) (f : Nat) : ∀ (k i p : Nat) (ws : List Int) (bs : List Bool), i ≤ xs.length → p ≤ b.length / 2 → (xs.length - i) + (b.length / 2 - p) ≤ f → 3 * f + 3 < k → ws.length + f ≤ 20000 → bs.length = ws.length →
    lengths_merge.l0 k xs b ((b.length / 2 : Nat) : Int) ws bs (i : Int) (p : Int) = some (ws ++ (mf f (xs.drop i) ((prs b).drop p)).1, bs ++ (mf f (xs.drop i) ((prs b).drop p)).2) := by
  induction f with
  | zero =>
    intro k i p ws bs hi hp hd hk hw hbs
    obtain ⟨k, rfl⟩ : ∃ m, k = m + 1 + 1 := ⟨k - 2, by omega⟩
    have c0 : decide ((p : Int) < ((b.length / 2 : Nat) : Int)) = false := decide_eq_false (by omega)
    rw [lengths_merge.l0, if_neg (by omega), c0, lengths_merge.j1, if_neg (by simp), mf, List.append_nil, List.append_nil]
  | succ f ih =>
    intro k i p ws bs hi hp hd hk hw hbs
    obtain ⟨k, rfl⟩ : ∃ m, k = m + 1 + 1 + 1 := ⟨k - 3, by omega⟩
    have hpl := prs_len b
    rw [lengths_merge.l0]
    by_cases h1 : i < xs.length
    · have hxm := hX _ (getD_mem xs i h1)
      rw [if_pos (by omega), lengths_merge.j1, if_pos rfl, if_pos (by omega), drop_getD xs i h1, lengths_merge.j2]
      by_cases h2 : p < b.length / 2
      · have c1 : decide ((p : Int) < ((b.length / 2 : Nat) : Int)) = true := decide_eq_true (by omega)
        have ha := hB _ (getD_mem b (2 * p) (by omega))
        have hc := hB _ (getD_mem b (2 * p + 1) (by omega))
        have e4 := drop_getD (prs b) p (by omega)
        rw [prs_getD b p (by omega)] at e4
        rw [c1, if_pos rfl, w_dbl p (by omega), w_succ (2 * p) (by omega), rd_nat, rd_nat, rd_nat, w_sum ha hc, if_pos (by omega), if_pos (by omega), if_pos (by omega), if_pos (by omega), if_pos (by omega), if_pos (by omega), e4, mf]
        by_cases h3 : b.getD (2 * p) 0 + b.getD (2 * p + 1) 0 < xs.getD i 0
        · rw [if_pos h3, if_pos h3, if_pos (by omega), if_pos (by omega), w_succ p (by omega), ih k i (p + 1) _ _ hi (by omega) (by omega) (by omega) (by simp; omega) (by simp [hbs]), ← drop_getD xs i h1]
          simp only [List.append_assoc, List.cons_append, List.nil_append]
        · rw [if_neg h3, if_neg h3, if_pos (by omega), if_pos (by omega), w_succ i (by omega), ih k (i + 1) p _ _ h1 (by omega) (by omega) (by omega) (by simp; omega) (by simp [hbs]), ← e4]
          simp only [List.append_assoc, List.cons_append, List.nil_append]
      · have c1 : decide ((p : Int) < ((b.length / 2 : Nat) : Int)) = false := decide_eq_false (by omega)
        have ee : ((i : Int) == (xs.length : Int)) = false := by
          rw [beq_eq_false_iff_ne]
          omega
        have i1 := ih k (i + 1) p (ws ++ [xs.getD i 0]) (bs ++ [false]) h1 (by omega) (by omega) (by omega) (by simp; omega) (by simp [hbs])
        rw [List.drop_eq_nil_of_le (show (prs b).length ≤ p by omega)] at i1
        rw [c1, if_neg (by simp), ee, if_neg (by simp), if_pos (by omega), if_pos (by omega), if_pos (by omega), if_pos (by omega), List.drop_eq_nil_of_le (show (prs b).length ≤ p by omega), rd_nat, w_succ i (by omega), i1, mf]
        simp only [List.append_assoc, List.cons_append, List.nil_append]
    · rw [if_neg (by omega), List.drop_eq_nil_of_le (show xs.length ≤ i by omega), lengths_merge.j1]
      by_cases h2 : p < b.length / 2
      · have c1 : decide ((p : Int) < ((b.length / 2 : Nat) : Int)) = true := decide_eq_true (by omega)
        have ha := hB _ (getD_mem b (2 * p) (by omega))
        have hc := hB _ (getD_mem b (2 * p + 1) (by omega))
        have e4 := drop_getD (prs b) p (by omega)
        rw [prs_getD b p (by omega)] at e4
        have ee : ((i : Int) == (xs.length : Int)) = true := by
          rw [beq_iff_eq]
          omega
        have i1 := ih k i (p + 1) (ws ++ [b.getD (2 * p) 0 + b.getD (2 * p + 1) 0]) (bs ++ [true]) hi (by omega) (by omega) (by omega) (by simp; omega) (by simp [hbs])
        rw [List.drop_eq_nil_of_le (show xs.length ≤ i by omega)] at i1
        rw [c1, if_pos rfl, if_neg (by omega), lengths_merge.j2, if_neg (by simp), ee, if_pos rfl, w_dbl p (by omega), w_succ (2 * p) (by omega), rd_nat, rd_nat, w_sum ha hc, if_pos (by omega), if_pos (by omega), if_pos (by omega), if_pos (by omega), if_pos (by omega), if_pos (by omega), w_succ p (by omega), e4, i1, mf]
        simp only [List.append_assoc, List.cons_append, List.nil_append]
      · have c1 : decide ((p : Int) < ((b.length / 2 : Nat) : Int)) = false := decide_eq_false (by omega)
        rw [c1, if_neg (by simp), List.drop_eq_nil_of_le (show (prs b).length ≤ p by omega), mf, List.append_nil, List.append_nil]
theorem merge_at (xs b : List Int) (hx : xs.length ≤ 2000) (hb : b.length ≤ 8000) (hB : Bd 1152921504606846976 b) (hX : Bd 1152921504606846976 xs) (k : Nat) (hk : 3 * (xs.length + (prs b).length) + 3 < k) :
    lengths_merge.f k xs b = some (mf (xs.length + (prs b).length) xs (prs b)) := by
  have hpl := prs_len b
  unfold lengths_merge.f
  rw [w_half b.length (by omega), w_add xs.length (b.length / 2) (by omega) (by omega), if_pos (by omega), if_pos (by omega), if_pos (by omega)]
  have := merge_loop xs b hx hb hB hX (xs.length + (prs b).length) k 0 0 [] [] (by omega) (by omega) (by omega) hk (by simp; omega) rfl
  simpa using this

theorem mf_len (f : Nat) (xs ys : List Int) (h : xs.length + ys.length ≤ f) : (mf f xs ys).1.length = xs.length + ys.length := (mf_Mg f xs ys h).len.1
theorem lvW_len (ws : List Int) : ∀ j, (lvW ws j).length ≤ 2 * ws.length
  | 0 => by simp [lvW]
  | j + 1 => by
    have := lvW_len ws j
    simp only [lvW]
    rw [mf_len _ _ _ (Nat.le_refl _), prs_len]
    omega
theorem lvW_bd (ws : List Int) (M : Int) (h0 : 0 ≤ M) (hb : Bd M ws) : ∀ j, Bd (M * 2 ^ j) (lvW ws j)
  | 0 => by intro x hx; simp [lvW] at hx
  | j + 1 => by
    have ih := lvW_bd ws M h0 hb j
    have h1 : (1 : Int) ≤ 2 ^ j := by
      have : 0 < (2 : Nat) ^ j := Nat.pow_pos (by omega)
      have e : ((2 : Int) ^ j) = (((2 : Nat) ^ j : Nat) : Int) := by simp
      omega
    have h2 : M ≤ M * 2 ^ j := by
      calc M = M * 1 := by omega
        _ ≤ M * 2 ^ j := Int.mul_le_mul_of_nonneg_left h1 h0
    have h3 : M * 2 ^ (j + 1) = 2 * (M * 2 ^ j) := by rw [Int.pow_succ, ← Int.mul_assoc]; omega
    have hp : ∀ l : List Int, Bd (M * 2 ^ j) l → Bd (M * 2 ^ (j + 1)) (prs l) := by
      intro l
      induction l using prs.induct with
      | case1 a b r ihr =>
        intro hl x hx
        have ha := hl a (by simp)
        have hb := hl b (by simp)
        simp only [prs] at hx
        rcases List.mem_cons.1 hx with rfl | hx
        · omega
        · exact ihr (fun y hy => hl y (by simp [hy])) x hx
      | case2 l hne =>
        intro hl x hx
        unfold prs at hx
        split at hx
        · exact absurd rfl (hne _ _ _)
        · simp at hx
    intro x hx
    rcases (mf_Mg _ _ _ (Nat.le_refl _)).mem x hx with h | h
    · have := hb x h
      omega
    · exact hp _ ih x h
theorem pow_le (j : Nat) (hj : j ≤ 15) : (1099511627776 : Int) * 2 ^ j ≤ 1152921504606846976 := by
  have h1 : (2 : Nat) ^ j ≤ 2 ^ 15 := Nat.pow_le_pow_right (by omega) hj
  have h2 : ((2 : Nat) ^ j : Nat) ≤ 32768 := h1
  have e : ((2 : Int) ^ j) = (((2 : Nat) ^ j : Nat) : Int) := by simp
  rw [e]
  omega

/-! the depths -/
def G (B : Nat → List Bool) : Nat → Nat → List Nat → List Nat
  | 0, _, acc => acc
  | j + 1, m, acc => G B j (2 * nt (B (j + 1)) m) (inc (nf (B (j + 1)) m) acc)
def add (a b : List Nat) : List Nat := List.zipWith (· + ·) a b
theorem inc_add : ∀ (a : Nat) (x y : List Nat), add (inc a x) y = add x (inc a y)
  | 0, x, y => by rw [inc_zero, inc_zero]
  | a + 1, [], y => by simp [inc, add]
  | a + 1, x :: xs, [] => by simp [inc, add]
  | a + 1, x :: xs, y :: ys => by
    have := inc_add a xs ys
    simp only [add] at this
    simp only [inc, add, List.zipWith_cons_cons]
    rw [this, show x + 1 + y = x + (y + 1) from by omega]
theorem add_zeros (n : Nat) : ∀ x : List Nat, x.length = n → add x (List.replicate n 0) = x := by
  induction n with
  | zero => intro x hx; have := List.length_eq_zero_iff.1 hx; subst this; rfl
  | succ n ih =>
    intro x hx
    cases x with
    | nil => simp at hx
    | cons a x =>
      have := ih x (by simpa using hx)
      simp only [add] at this
      simp only [add, List.replicate_succ, List.zipWith_cons_cons, Nat.add_zero, this]
theorem zeros_add (n : Nat) : ∀ x : List Nat, x.length = n → add (List.replicate n 0) x = x := by
  induction n with
  | zero => intro x hx; have := List.length_eq_zero_iff.1 hx; subst this; rfl
  | succ n ih =>
    intro x hx
    cases x with
    | nil => simp at hx
    | cons a x =>
      have := ih x (by simpa using hx)
      simp only [add] at this
      simp only [add, List.replicate_succ, List.zipWith_cons_cons, Nat.zero_add, this]
theorem R_len (n : Nat) (B : Nat → List Bool) : ∀ j m, (R n B j m).length = n
  | 0, m => by simp [R]
  | j + 1, m => by simp only [R]; rw [inc_len, R_len n B j]
theorem G_add (n : Nat) (B : Nat → List Bool) : ∀ j m acc, acc.length = n → G B j m acc = add acc (R n B j m)
  | 0, m, acc, h => by simp only [G, R]; rw [add_zeros n acc h]
  | j + 1, m, acc, h => by
    simp only [G, R]
    rw [G_add n B j _ _ (by rw [inc_len]; exact h), inc_add]
theorem G_R (n : Nat) (B : Nat → List Bool) (j m : Nat) : G B j m (List.replicate n 0) = R n B j m := by
  rw [G_add n B j m _ (by simp), zeros_add n _ (R_len n B j m)]

def up (l : List Nat) : List Int := l.map fun (n : Nat) => (n : Int)
theorem inc_step : ∀ (a : Nat) (l : List Nat), a < l.length → inc (a + 1) l = (inc a l).set a ((inc a l).getD a 0 + 1)
  | 0, x :: l, _ => by simp [inc]
  | 0, [], h => by simp at h
  | a + 1, [], h => by simp at h
  | a + 1, x :: l, h => by
    have := inc_step a l (by simpa using h)
    show (x + 1) :: inc (a + 1) l = _
    rw [this]
    simp [inc]
theorem up_set (l : List Nat) (i n : Nat) : (up l).set i (n : Int) = up (l.set i n) := by simp [up]
theorem up_rd (l : List Nat) (i : Nat) (h : i < l.length) : rd (up l) (i : Int) = ((l.getD i 0 : Nat) : Int) := by
  rw [rd_nat]
  simp [up, List.getD_eq_getElem?_getD, List.getElem?_eq_getElem h]
theorem nf_succ (bs : List Bool) (m : Nat) (h : m < bs.length) : nf bs (m + 1) = nf bs m + (if bs[m] = false then 1 else 0) := by
  unfold nf
  rw [List.take_succ_eq_append_getElem h, List.count_append, List.count_singleton]
  simp
theorem nt_succ (bs : List Bool) (m : Nat) (h : m < bs.length) : nt bs (m + 1) = nt bs m + (if bs[m] = true then 1 else 0) := by
  unfold nt
  rw [List.take_succ_eq_append_getElem h, List.count_append, List.count_singleton]
  simp
theorem nfnt (bs : List Bool) : ∀ m, m ≤ bs.length → nf bs m + nt bs m = m := by
  intro m
  induction m with
  | zero => intro _; simp [nf, nt]
  | succ m ih =>
    intro h
    have := ih (by omega)
    rw [nf_succ bs m h, nt_succ bs m h]
    cases bs[m] <;> simp <;> omega
theorem inc_getD_le {b : Nat} (a i : Nat) (l : List Nat) (hl : ∀ x ∈ l, x ≤ b) : (inc a l).getD i 0 ≤ b + 1 := by
  have h := inc_le a l hl
  by_cases hi : i < (inc a l).length
  · rw [List.getD_eq_getElem?_getD, List.getElem?_eq_getElem hi]
    exact h _ (List.getElem_mem hi)
  · rw [List.getD_eq_getElem?_getD, List.getElem?_eq_none (by omega)]
    simp
/-- one level's counting -/
theorem count_loop (lv : List (List Bool)) (bits : List Bool) (acc : List Nat) (m j : Nat) (b : Nat) (hb : ∀ x ∈ acc, x ≤ b) (hbb : b ≤ 900000) (hm : m ≤ bits.length) (hmm : m ≤ 8000) (ha : nf bits m ≤ acc.length) (k' : Nat) (r : List Int)
    (hr : ∀ k, k' ≤ k → lengths_depths.l1 k lv (up (inc (nf bits m) acc)) ((2 * nt bits m : Nat) : Int) (wrap64 ((j : Int) - 1)) = some r) (d : Nat) :
    ∀ (k q : Nat), q + d = m → k' + d < k → lengths_depths.l2 k lv (up (inc (nf bits q) acc)) (j : Int) (nt bits q : Int) (bits.take m) ((bits.take m).length : Int) (q : Int) = some r := by
  have hlen : (bits.take m).length = m := by rw [List.length_take]; omega
  induction d with
  | zero =>
    intro k q hq hk
    obtain ⟨k, rfl⟩ : ∃ m, k = m + 1 := ⟨k - 1, by omega⟩
    obtain rfl : q = m := by omega
    rw [lengths_depths.l2]
    have := nfnt bits q hm
    rw [if_neg (by omega), w_dbl (nt bits q) (by omega)]
    exact hr k (by omega)
  | succ d ih =>
    intro k q hq hk
    obtain ⟨k, rfl⟩ : ∃ m, k = m + 1 := ⟨k - 1, by omega⟩
    have hqm : q < m := by omega
    have hqb : q < bits.length := by omega
    have h1 := nfnt bits q (by omega)
    have h2 := nfnt bits m hm
    have er : rdOf false (bits.take m) (q : Int) = bits[q] := by
      unfold rdOf
      rw [Int.toNat_natCast, List.getD_eq_getElem?_getD, List.getElem?_take_of_lt hqm, List.getElem?_eq_getElem hqb]
      rfl
    have i1 := ih k (q + 1) (by omega) (by omega)
    rw [nf_succ bits q hqb, nt_succ bits q hqb] at i1
    rw [lengths_depths.l2, w_succ q (by omega), w_sub q (nt bits q) (nf bits q) (by omega) (by omega), w_succ (nt bits q) (by omega), er]
    rw [if_pos (by omega), if_pos (by omega), if_pos (by omega)]
    by_cases hb1 : bits[q] = true
    · rw [if_pos hb1]
      rw [hb1] at i1
      simpa using i1
    · have hb0 : bits[q] = false := by simpa using hb1
      rw [if_neg hb1]
      rw [hb0] at i1
      have hlt : nf bits q < acc.length := by
        have e1 : nf bits (q + 1) ≤ nf bits m := by
          unfold nf
          rw [show bits.take (q + 1) = (bits.take m).take (q + 1) from by rw [List.take_take, Nat.min_eq_left (by omega)]]
          exact (List.take_sublist (q + 1) (bits.take m)).count_le false
        rw [nf_succ bits q hqb, hb0] at e1
        simp at e1
        omega
      have hl2 : nf bits q < (inc (nf bits q) acc).length := by rw [inc_len]; exact hlt
      have hul : (up (inc (nf bits q) acc)).length = acc.length := by simp [up, inc_len]
      have hg := inc_getD_le (nf bits q) (nf bits q) acc hb
      rw [if_pos (by omega), if_pos (by omega), up_rd _ _ hl2, w_succ _ (by omega), Int.toNat_natCast, up_set, ← inc_step _ _ hlt]
      simpa using i1
/-- level by level down -/
theorem depth_loop (lv : List (List Bool)) (B : Nat → List Bool) (n L : Nat) (hL : L ≤ 100) (hlv : lv.length = L) (hlvB : ∀ s, s < L → lv.getD s [] = B (s + 1)) (j : Nat) : ∀ (k m : Nat) (acc : List Nat), j ≤ L → acc.length = n → (∀ x ∈ acc, x ≤ 1000 - j) → m ≤ 4000 →
    (∀ j' m', j' < j → m' ≤ 4000 → m' ≤ (B (j' + 1)).length → nf (B (j' + 1)) m' ≤ n ∧ 2 * nt (B (j' + 1)) m' ≤ (B j').length ∧ 2 * nt (B (j' + 1)) m' ≤ 4000) → m ≤ (B j).length → 5000 * (j + 1) < k →
    lengths_depths.l1 k lv (up acc) (m : Int) (wrap64 ((j : Int) - 1)) = some (up (G B j m acc)) := by
  induction j with
  | zero =>
    intro k m acc hj ha hx hm hs hmB hk
    obtain ⟨k, rfl⟩ : ∃ m, k = m + 1 := ⟨k - 1, by omega⟩
    rw [lengths_depths.l1, if_neg (by unfold wrap64; omega), G]
  | succ j ih =>
    intro k m acc hj ha hx hm hs hmB hk
    obtain ⟨k, rfl⟩ : ∃ m, k = m + 1 := ⟨k - 1, by omega⟩
    obtain ⟨s1, s2, s3⟩ := hs j m (by omega) hm hmB
    have er : rd_L2 lv (j : Int) = B (j + 1) := by
      unfold rd_L2
      rw [Int.toNat_natCast]
      exact hlvB j (by omega)
    rw [lengths_depths.l1, G, w_pred j (by omega), er, if_pos (by omega), if_pos (by omega), if_pos (by omega), if_pos (by omega), if_pos (by omega)]
    simp only [Option.bind_some, Int.toNat_natCast]
    have := count_loop lv (B (j + 1)) acc m j (1000 - (j + 1)) hx (by omega) hmB (by omega) (by omega) (5000 * (j + 1) + 1) (up (G B j (2 * nt (B (j + 1)) m) (inc (nf (B (j + 1)) m) acc)))
      (fun k hk => ih k _ _ (by omega) (by rw [inc_len]; exact ha) (fun x hxm => by have := inc_le _ _ hx x hxm; omega) s3 (fun j' m' h1 h2 h3 => hs j' m' (by omega) h2 h3) s2 (by omega)) m k 0 (by omega) (by omega)
    simpa [nf, nt, inc_zero] using this
/-- level by level up -/
theorem level_loop (xs : List Int) (L : Nat) (hL : L ≤ 15) (hn : xs.length ≤ 2000) (hX : Bd 1099511627776 xs) (r : List Int) (k' : Nat)
    (hr : ∀ k lv, k' ≤ k → lv.length = L → (∀ s, s < L → lv.getD s [] = lvB xs (s + 1)) → lengths_depths.l1 k lv (List.replicate xs.length 0) (wrap64 (wrap64 (2 * (xs.length : Int)) - 2)) (wrap64 ((L : Int) - 1)) = some r) (d : Nat) :
    ∀ (k t : Nat) (lv : List (List Bool)), t + d = L → k' + 20000 + d < k → lv.length = L → (∀ s, s < t → lv.getD s [] = lvB xs (s + 1)) →
      lengths_depths.l0 k xs (L : Int) lv (lvW xs t) (L : Int) (t : Int) = some r := by
  have hX' : Bd 1152921504606846976 xs := fun x hx => by have := hX x hx; omega
  induction d with
  | zero =>
    intro k t lv ht hk hlv hs
    obtain ⟨k, rfl⟩ : ∃ m, k = m + 1 := ⟨k - 1, by omega⟩
    obtain rfl : t = L := by omega
    rw [lengths_depths.l0, if_neg (by omega), if_pos (by omega), if_pos (by omega), Int.toNat_natCast]
    exact hr k lv (by omega) hlv hs
  | succ d ih =>
    intro k t lv ht hk hlv hs
    obtain ⟨k, rfl⟩ : ∃ m, k = m + 1 := ⟨k - 1, by omega⟩
    have hw := lvW_len xs t
    have hp := prs_len (lvW xs t)
    have hbd := lvW_bd xs 1099511627776 (by omega) hX t
    have hple := pow_le t (by omega)
    rw [lengths_depths.l0, w_succ t (by omega), if_pos (by omega), merge_at xs (lvW xs t) hn (by omega) (fun x hx => by have := hbd x hx; omega) hX' k (by omega)]
    simp only [Option.bind_some]
    rw [if_pos (by omega), if_pos (by omega), Int.toNat_natCast]
    refine ih k (t + 1) _ (by omega) (by omega) (by simpa using hlv) ?_
    intro s hst
    by_cases h : s = t
    · subst h
      rw [List.getD_eq_getElem?_getD, List.getElem?_set_self (by omega)]
      rfl
    · rw [List.getD_eq_getElem?_getD, List.getElem?_set_ne (by omega), ← List.getD_eq_getElem?_getD]
      exact hs s (by omega)
theorem depths_at (xs : List Int) (L : Nat) (h1 : 1 ≤ L) (hL : L ≤ 15) (h2 : 2 ≤ xs.length) (hn : xs.length ≤ 1024) (hfit : xs.length ≤ 2 ^ L) (hX : Bd 1099511627776 xs) (hs : Srt xs) (k : Nat) (hk : 200000 ≤ k) :
    lengths_depths.f k xs (L : Int) = some (up (R xs.length (lvB xs) L (2 * xs.length - 2))) := by
  have lv := lvs xs L hs (fun x hx => (hX x hx).1)
  unfold lengths_depths.f
  rw [if_pos (by omega), if_pos (by omega), Int.toNat_natCast]
  simp only [Option.bind_some]
  rw [List.length_replicate]
  have hW := lvW_len xs
  have hBW : ∀ j, j < L → (lvB xs (j + 1)).length = (lvW xs (j + 1)).length := fun j hj => (lv.step j hj).len.2
  refine level_loop xs L hL (by omega) hX _ (5000 * (L + 1) + 1) ?_ L k 0 (List.replicate L []) (by omega) (by omega) (by simp) (fun s h => by omega)
  intro k lv' hk' hlen hlvB
  have e0 : (List.replicate xs.length (0 : Int)) = up (List.replicate xs.length 0) := by simp [up]
  rw [w_need xs.length (by omega) (by omega), e0, ← G_R]
  refine depth_loop lv' (lvB xs) xs.length L (by omega) hlen hlvB L k _ _ (Nat.le_refl _) (by simp) ?_ (by omega) ?_ ?_ (by omega)
  · intro x hx
    have := List.eq_of_mem_replicate hx
    omega
  · intro j' m' hj' hm' hle
    have s := lv.step j' hj'
    have hB := hBW j' hj'
    obtain ⟨a, b, c, d⟩ := s.split m' (by omega)
    rw [prs_len] at c
    have h3 := hW j'
    refine ⟨b, ?_, by omega⟩
    cases j' with
    | zero =>
      have z1 : (lvW xs 0).length = 0 := rfl
      have z2 : (lvB xs 0).length = 0 := rfl
      omega
    | succ j'' =>
      have := hBW j'' (by omega)
      omega
  · obtain ⟨L', rfl⟩ : ∃ L', L = L' + 1 := ⟨L - 1, by omega⟩
    rw [hBW L' (by omega)]
    exact lv.enough (by omega) hfit
end Go.Proofs.Yticokbmafhpebaa.Pure
