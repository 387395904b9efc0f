/- What any counts cost with any lengths is what the page says, or that they may not be: the pure side of LengthsCost; no condition. -/
import Derived.Test.YticokbmafhpebaaPLengthsx7
namespace Go.Proofs.Yticokbmafhpebaa.Pure
open Go.RowKit Go.Proofs.Yticokbmafhpebaa.PLengths Go.Proofs.YticokbmafhpebaaW.PrintWords Go.Proofs.YticokbmafhpebaaW.PrintLast

theorem awake_ : ∃ k0, ∀ k, k0 ≤ k → punnetlaw07_awake.f k = some true := by
  have h : punnetlaw07_awake.f 60 = some true := by decide +kernel
  refine ⟨60, fun k hk => ?_⟩
  obtain ⟨d, rfl⟩ : ∃ d, k = 60 + d := ⟨k - 60, by omega⟩
  clear hk
  induction d with
  | zero => exact h
  | succ d ih => exact punnetlaw07_awake.mono _ _ ih

theorem rd_at (l : List Int) (n : Nat) (h : n < l.length) : rd l (n : Int) = l[n] := by
  unfold rd
  rw [Int.toNat_natCast, List.getD_eq_getElem?_getD, List.getElem?_eq_getElem h]
  rfl
theorem drop_at (l : List Int) (n : Nat) (h : n < l.length) : l.drop n = l[n] :: l.drop (n + 1) := List.drop_eq_getElem_cons h
theorem step_ (n m : Nat) (h : n < m) (hm : m ≤ 17592186044415) : wrap64 ((n : Int) + 1) = ((n + 1 : Nat) : Int) := by
  unfold wrap64
  omega

def okCounts (l : List Int) : Bool := l.all fun c => decide (0 ≤ c ∧ c ≤ 1099511627776)
theorem counted_loop (l : List Int) (hl : l.length ≤ 17592186044415) (d : Nat) : ∀ (k n : Nat), n + d = l.length → d < k → lengths_counted.l0 k l (l.length : Int) (n : Int) = some (okCounts (l.drop n)) := by
  induction d with
  | zero =>
    intro k n hn hk
    obtain ⟨k, rfl⟩ : ∃ m, k = m + 1 := ⟨k - 1, by omega⟩
    simp only [lengths_counted.l0]
    rw [if_neg (by omega), List.drop_eq_nil_of_le (by omega)]
    rfl
  | succ d ih =>
    intro k n hn hk
    obtain ⟨k, rfl⟩ : ∃ m, k = m + 1 := ⟨k - 1, by omega⟩
    have hlt : n < l.length := by omega
    simp only [lengths_counted.l0]
    rw [if_pos (by omega), if_pos (by omega), if_pos (by omega), rd_at l n hlt, drop_at l n hlt, step_ n l.length hlt hl, ih k (n + 1) (by omega) (by omega)]
    by_cases h1 : l[n] < 0
    · rw [if_pos h1]
      have e : decide (0 ≤ l[n] ∧ l[n] ≤ 1099511627776) = false := decide_eq_false (by omega)
      simp only [okCounts, List.all_cons, e, Bool.false_and]
    · rw [if_neg h1]
      by_cases h2 : l[n] > 1099511627776
      · rw [if_pos h2]
        have e : decide (0 ≤ l[n] ∧ l[n] ≤ 1099511627776) = false := decide_eq_false (by omega)
        simp only [okCounts, List.all_cons, e, Bool.false_and]
      · rw [if_neg h2]
        have e : decide (0 ≤ l[n] ∧ l[n] ≤ 1099511627776) = true := decide_eq_true ⟨by omega, by omega⟩
        simp only [okCounts, List.all_cons, e, Bool.true_and]
theorem counted_at (l : List Int) (k : Nat) (hk : l.length < k) : lengths_counted.f k l = some (decide (l.length ≤ 1024) && okCounts l) := by
  unfold lengths_counted.f
  by_cases h : (l.length : Int) > 1024
  · rw [if_pos h]
    have : ¬ l.length ≤ 1024 := by omega
    simp [this]
  · rw [if_neg h, show (0 : Int) = ((0 : Nat) : Int) from rfl, counted_loop l (by omega) l.length k 0 (by omega) hk]
    have : l.length ≤ 1024 := by omega
    simp [this]

/-- what the lengths cost, from here on -/
def costR : List Int → List Int → Int → Option Int
  | c :: cs, n :: ns, s => if 0 ≤ n ∧ n ≤ 15 then costR cs ns (s + c * n) else none
  | _, [], s => some s
  | [], _ :: _, _ => none
def told (o : Option Int) : Int × Int := match o with
  | some s => (s, 0)
  | none => (0, 1)
theorem mul_bd {c n : Int} (h0 : 0 ≤ c) (h1 : c ≤ 1099511627776) (n0 : 0 ≤ n) (n1 : n ≤ 15) : 0 ≤ c * n ∧ c * n ≤ 16492674416640 := by
  refine ⟨Int.mul_nonneg h0 n0, ?_⟩
  calc c * n ≤ 1099511627776 * n := Int.mul_le_mul_of_nonneg_right h1 n0
    _ ≤ 1099511627776 * 15 := Int.mul_le_mul_of_nonneg_left n1 (by omega)
    _ = 16492674416640 := rfl
theorem ok_at {l : List Int} (h : okCounts l = true) (n : Nat) (hn : n < l.length) : 0 ≤ l[n] ∧ l[n] ≤ 1099511627776 := by
  have := List.all_eq_true.1 h _ (List.getElem_mem hn)
  simpa using this
theorem wrap_mul {c n : Int} (h0 : 0 ≤ c) (h1 : c ≤ 1099511627776) (n0 : 0 ≤ n) (n1 : n ≤ 15) : wrap64 (c * n) = c * n := by
  obtain ⟨a, b⟩ := mul_bd h0 h1 n0 n1
  generalize c * n = z at *
  unfold wrap64
  omega
theorem wrap_sum {s z : Int} {n : Nat} (hs : 0 ≤ s) (hs1 : s ≤ 16492674416640 * (n : Int)) (hn : n < 1024) (z0 : 0 ≤ z) (z1 : z ≤ 16492674416640) : wrap64 (s + z) = s + z := by
  unfold wrap64
  omega
theorem cost_loop (x0 x1 : List Int) (hl : x1.length = x0.length) (hm : x0.length ≤ 1024) (hok : okCounts x0 = true) (d : Nat) : ∀ (k n : Nat) (s : Int), n + d = x0.length → d < k → 0 ≤ s → s ≤ 16492674416640 * (n : Int) →
    lengths_Cost.l0 k x0 s x1 (x1.length : Int) (n : Int) = some (told (costR (x0.drop n) (x1.drop n) s)) := by
  induction d with
  | zero =>
    intro k n s hn hk hs hs1
    obtain ⟨k, rfl⟩ : ∃ m, k = m + 1 := ⟨k - 1, by omega⟩
    simp only [lengths_Cost.l0]
    rw [if_neg (by omega), List.drop_eq_nil_of_le (show x1.length ≤ n by omega)]
    cases x0.drop n <;> rfl
  | succ d ih =>
    intro k n s hn hk hs hs1
    obtain ⟨k, rfl⟩ : ∃ m, k = m + 1 := ⟨k - 1, by omega⟩
    have h0 : n < x0.length := by omega
    have h1 : n < x1.length := by omega
    simp only [lengths_Cost.l0]
    rw [if_pos (by omega), if_pos (by omega), if_pos (by omega), rd_at x1 n h1, rd_at x0 n h0, drop_at x0 n h0, drop_at x1 n h1]
    obtain ⟨c0, c1⟩ := ok_at hok n h0
    by_cases n0 : x1[n] < 0
    · rw [if_pos n0]
      simp only [costR]
      rw [if_neg (by omega)]
      rfl
    · rw [if_neg n0]
      by_cases n1 : x1[n] > 15
      · rw [if_pos n1]
        simp only [costR]
        rw [if_neg (by omega)]
        rfl
      · rw [if_neg n1, if_pos (by omega)]
        simp only [costR]
        rw [if_pos (by omega), wrap_mul c0 c1 (by omega) (by omega)]
        obtain ⟨z0, z1⟩ := mul_bd c0 c1 (show 0 ≤ x1[n] by omega) (show x1[n] ≤ 15 by omega)
        rw [wrap_sum hs hs1 (by omega) z0 z1, step_ n x0.length h0 (by omega)]
        exact ih k (n + 1) _ (by omega) (by omega) (by omega) (by rw [Int.natCast_add]; omega)
theorem cost_at (x0 x1 : List Int) (k : Nat) (hk : x0.length + 2 < k) :
    lengths_Cost.f k x0 x1 = some (if x1.length = x0.length ∧ x0.length ≤ 1024 ∧ okCounts x0 = true then told (costR x0 x1 0) else (0, 1)) := by
  unfold lengths_Cost.f
  obtain ⟨k, rfl⟩ : ∃ m, k = m + 1 := ⟨k - 1, by omega⟩
  by_cases hl : x1.length = x0.length
  · rw [if_pos (by omega), counted_at x0 (k + 1) (by omega)]
    simp only [Option.bind_some, lengths_Cost.j0]
    by_cases hm : x0.length ≤ 1024 ∧ okCounts x0 = true
    · obtain ⟨h1, h2⟩ := hm
      simp only [h1, h2, decide_true, Bool.and_self, Bool.not_true, Bool.false_eq_true, if_false]
      rw [show (0 : Int) = ((0 : Nat) : Int) from rfl, cost_loop x0 x1 hl h1 h2 x0.length k 0 _ (by omega) (by omega) (by omega) (by omega)]
      simp [hl, List.drop_zero]
    · have e : (decide (x0.length ≤ 1024) && okCounts x0) = false := by
        by_cases h1 : x0.length ≤ 1024
        · simp only [h1, true_and] at hm
          simp [h1, hm]
        · simp [h1]
      rw [e, if_neg (fun h : x1.length = x0.length ∧ x0.length ≤ 1024 ∧ okCounts x0 = true => hm h.2)]
      rfl
  · rw [if_neg (by omega), if_neg (fun h : x1.length = x0.length ∧ x0.length ≤ 1024 ∧ okCounts x0 = true => hl h.1)]
    rfl

/-- what the law reckons, from here on -/
def lawR : List Int → List Int → Int → Option Int
  | c :: cs, n :: ns, s => if (0 ≤ c ∧ c ≤ 1099511627776) ∧ 0 ≤ n ∧ n ≤ 15 then lawR cs ns (s + c * n) else none
  | _, _, s => some s
theorem law_done (k : Nat) (x0 x1 : List Int) (x8 x9 : Int) (hk : 1 < k) : punnetlaw07_LengthsCost.l0 k x0 x1 0 1 false x8 x9 = some true := by
  obtain ⟨k, rfl⟩ : ∃ m, k = m + 1 + 1 := ⟨k - 2, by omega⟩
  simp [punnetlaw07_LengthsCost.l0, punnetlaw07_LengthsCost.j2]
theorem law_loop (x0 x1 : List Int) (hl : x0.length = x1.length) (hm : x1.length ≤ 1024) (p : Int × Int) (d : Nat) : ∀ (k n : Nat) (s : Int), n + d = x0.length → 2 * d + 3 < k → 0 ≤ s → s ≤ 16492674416640 * (n : Int) → p = told (lawR (x0.drop n) (x1.drop n) s) →
    punnetlaw07_LengthsCost.l0 k x0 x1 p.1 p.2 true s (n : Int) = some true := by
  induction d with
  | zero =>
    intro k n s hn hk hs hs1 hp
    obtain ⟨k, rfl⟩ : ∃ m, k = m + 1 + 1 := ⟨k - 2, by omega⟩
    rw [List.drop_eq_nil_of_le (show x0.length ≤ n by omega)] at hp
    have hp' : p = (s, 0) := by rw [hp]; cases x1.drop n <;> rfl
    subst hp'
    have : ¬ ((n : Int) < (x0.length : Int)) := by omega
    simp [punnetlaw07_LengthsCost.l0, punnetlaw07_LengthsCost.j2, this]
  | succ d ih =>
    intro k n s hn hk hs hs1 hp
    obtain ⟨k, rfl⟩ : ∃ m, k = m + 1 + 1 := ⟨k - 2, by omega⟩
    have h0 : n < x0.length := by omega
    have h1 : n < x1.length := by omega
    rw [drop_at x0 n h0, drop_at x1 n h1] at hp
    simp only [lawR] at hp
    have hd : decide ((n : Int) < (x0.length : Int)) = true := decide_eq_true (by omega)
    simp only [punnetlaw07_LengthsCost.l0, punnetlaw07_LengthsCost.j2, hd, if_true]
    rw [if_pos (by omega), if_pos (by omega), rd_at x0 n h0, rd_at x1 n h1]
    by_cases hb : (0 ≤ x0[n] ∧ x0[n] ≤ 1099511627776) ∧ 0 ≤ x1[n] ∧ x1[n] ≤ 15
    · rw [if_pos hb] at hp
      obtain ⟨⟨c0, c1⟩, n0, n1⟩ := hb
      rw [if_neg (by omega), if_neg (by omega), if_pos (by omega), if_neg (by omega), if_neg (by omega), wrap_mul c0 c1 n0 n1]
      obtain ⟨z0, z1⟩ := mul_bd c0 c1 n0 n1
      rw [wrap_sum hs hs1 (by omega) z0 z1, step_ n x0.length h0 (by omega)]
      exact ih k (n + 1) _ (by omega) (by omega) (by omega) (by rw [Int.natCast_add]; omega) hp
    · rw [if_neg hb] at hp
      subst hp
      have done := fun x9 => law_done k x0 x1 s x9 (by omega)
      by_cases c0 : x0[n] < 0
      · rw [if_pos c0]; exact done _
      · rw [if_neg c0]
        by_cases c1 : x0[n] > 1099511627776
        · rw [if_pos c1]; exact done _
        · rw [if_neg c1, if_pos (by omega)]
          by_cases n0 : x1[n] < 0
          · rw [if_pos n0]; exact done _
          · rw [if_neg n0]
            by_cases n1 : x1[n] > 15
            · rw [if_pos n1]; exact done _
            · exact absurd ⟨⟨by omega, by omega⟩, by omega, by omega⟩ hb
theorem law_ok : ∀ (cs ns : List Int) (s : Int), cs.length = ns.length → okCounts cs = true → lawR cs ns s = costR cs ns s
  | [], [], s, _, _ => rfl
  | c :: cs, n :: ns, s, hl, hok => by
    have h1 : (0 ≤ c ∧ c ≤ 1099511627776) ∧ okCounts cs = true := by simpa [okCounts] using hok
    simp only [lawR, costR]
    by_cases hn : 0 ≤ n ∧ n ≤ 15
    · rw [if_pos ⟨h1.1, hn⟩, if_pos hn]
      exact law_ok cs ns _ (by simpa using hl) h1.2
    · rw [if_neg (fun h => hn h.2), if_neg hn]
  | [], _ :: _, s, hl, _ => by simp at hl
  | _ :: _, [], s, hl, _ => by simp at hl
theorem law_not : ∀ (cs ns : List Int) (s : Int), cs.length = ns.length → okCounts cs = false → lawR cs ns s = none
  | [], [], s, _, h => by simp [okCounts] at h
  | c :: cs, n :: ns, s, hl, hok => by
    simp only [lawR]
    by_cases hb : (0 ≤ c ∧ c ≤ 1099511627776) ∧ 0 ≤ n ∧ n ≤ 15
    · rw [if_pos hb]
      refine law_not cs ns _ (by simpa using hl) ?_
      have : decide (0 ≤ c ∧ c ≤ 1099511627776) = true := decide_eq_true hb.1
      simp only [okCounts, List.all_cons, this, Bool.true_and] at hok
      exact hok
    · rw [if_neg hb]
  | [], _ :: _, s, hl, _ => by simp at hl
  | _ :: _, [], s, hl, _ => by simp at hl

theorem LengthsCost : punnetlaw07_LengthsCost.Pure := by
  intro x0 x1 _ h8 _ _ h9 _
  obtain ⟨k0, hk0⟩ := awake_
  refine ⟨k0 + 2 * x0.length + 20, ?_⟩
  obtain ⟨k, hk⟩ : ∃ k, k = k0 + 2 * x0.length + 20 := ⟨_, rfl⟩
  rw [← hk]
  unfold punnetlaw07_LengthsCost.f
  rw [hk0 k (by omega), cost_at x0 x1 k (by omega)]
  simp only [Option.bind_some, if_true]
  obtain ⟨k', rfl⟩ : ∃ m, k = m + 1 := ⟨k - 1, by omega⟩
  by_cases hl : x0.length = x1.length
  · rw [if_pos (by omega)]
    simp only [punnetlaw07_LengthsCost.j0]
    by_cases hm : x1.length ≤ 1024
    · have e1 : decide ((x1.length : Int) ≤ 1024) = true := decide_eq_true (by omega)
      rw [e1]
      refine law_loop x0 x1 hl hm _ x0.length k' 0 0 (by omega) (by omega) (by omega) (by omega) ?_
      rw [List.drop_zero, List.drop_zero]
      by_cases hok : okCounts x0 = true
      · rw [if_pos ⟨hl.symm, by omega, hok⟩, law_ok x0 x1 0 hl hok]
      · have hok' : okCounts x0 = false := by simpa using hok
        rw [if_neg (fun h => hok h.2.2), law_not x0 x1 0 hl hok']
        rfl
    · have e1 : decide ((x1.length : Int) ≤ 1024) = false := decide_eq_false (by omega)
      rw [e1, if_neg (fun h => hm (by omega))]
      exact law_done k' x0 x1 0 0 (by omega)
  · rw [if_neg (by omega), if_neg (fun h => hl h.1.symm)]
    simp only [punnetlaw07_LengthsCost.j0]
    exact law_done k' x0 x1 0 0 (by omega)

end Go.Proofs.Yticokbmafhpebaa.Pure
