/- Lists of packages, merged level by level: what their first items weigh is the least that lengths of a whole code cost; plain law; no condition. -/
namespace Go.Proofs.Yticokbmafhpebaa.PM

/-- two sorted lists merged; of two alike the leaf comes first; the signs tell the pairs -/
inductive Mg : List Int → List Int → List Int → List Bool → Prop
  | done : Mg [] [] [] []
  | leaf (x : Int) (xs ys zs : List Int) (bs : List Bool) (h : ∀ y, ys.head? = some y → x ≤ y) (r : Mg xs ys zs bs) : Mg (x :: xs) ys (x :: zs) (false :: bs)
  | pair (y : Int) (xs ys zs : List Int) (bs : List Bool) (h : ∀ x, xs.head? = some x → y < x) (r : Mg xs ys zs bs) : Mg xs (y :: ys) (y :: zs) (true :: bs)

abbrev Srt (l : List Int) : Prop := l.Pairwise (· ≤ ·)
abbrev Pos (l : List Int) : Prop := ∀ x ∈ l, 0 ≤ x
def sm (l : List Int) (m : Nat) : Int := (l.take m).sum
def nf (bs : List Bool) (m : Nat) : Nat := (bs.take m).count false
def nt (bs : List Bool) (m : Nat) : Nat := (bs.take m).count true

theorem sm_zero (l : List Int) : sm l 0 = 0 := by simp [sm]
theorem sm_cons (x : Int) (l : List Int) (m : Nat) : sm (x :: l) (m + 1) = x + sm l m := by simp [sm]
theorem sm_nil (m : Nat) : sm [] m = 0 := by simp [sm]
theorem nf_zero (l : List Bool) : nf l 0 = 0 := by simp [nf]
theorem nt_zero (l : List Bool) : nt l 0 = 0 := by simp [nt]
theorem nf_false (l : List Bool) (m : Nat) : nf (false :: l) (m + 1) = nf l m + 1 := by simp [nf]
theorem nf_true (l : List Bool) (m : Nat) : nf (true :: l) (m + 1) = nf l m := by simp [nf]
theorem nt_false (l : List Bool) (m : Nat) : nt (false :: l) (m + 1) = nt l m := by simp [nt]
theorem nt_true (l : List Bool) (m : Nat) : nt (true :: l) (m + 1) = nt l m + 1 := by simp [nt]

theorem Srt.head_le {x : Int} {l : List Int} (h : Srt (x :: l)) : ∀ y ∈ l, x ≤ y := fun _ hy => List.rel_of_pairwise_cons h hy
theorem sm_step {x : Int} : ∀ {l : List Int} (m : Nat), (∀ y ∈ l, x ≤ y) → m < l.length → sm l m + x ≤ sm l (m + 1)
  | [], m, _, h => by simp at h
  | y :: l, 0, h, _ => by simp [sm]; exact h y (by simp)
  | y :: l, m + 1, h, hm => by
    rw [sm_cons, sm_cons]
    have := sm_step (l := l) m (fun z hz => h z (by simp [hz])) (by simpa using hm)
    omega
theorem sm_mono1 {l : List Int} (h : Pos l) (m : Nat) : sm l m ≤ sm l (m + 1) := by
  by_cases hm : m < l.length
  · have := sm_step (x := 0) m h hm
    omega
  · unfold sm
    rw [List.take_of_length_le (by omega), List.take_of_length_le (by omega)]
    exact Int.le_refl _
theorem sm_mono {l : List Int} (h : Pos l) {m n : Nat} (hmn : m ≤ n) : sm l m ≤ sm l n := by
  induction hmn with
  | refl => exact Int.le_refl _
  | step _ ih => exact Int.le_trans ih (sm_mono1 h _)
theorem sm_shift {x : Int} {l : List Int} : ∀ m, Srt (x :: l) → m ≤ l.length → sm (x :: l) m ≤ sm l m
  | 0, _, _ => by simp [sm]
  | m + 1, h, hm => by
    rw [sm_cons]
    have := sm_step (x := x) m h.head_le (by omega)
    omega

theorem Mg.len {xs ys zs bs} (h : Mg xs ys zs bs) : zs.length = xs.length + ys.length ∧ bs.length = zs.length := by
  induction h with
  | done => simp
  | leaf x xs ys zs bs h r ih => simp; omega
  | pair y xs ys zs bs h r ih => simp; omega
theorem Mg.mem {xs ys zs bs} (h : Mg xs ys zs bs) (z : Int) : z ∈ zs → z ∈ xs ∨ z ∈ ys := by
  induction h with
  | done => simp
  | leaf x xs ys zs bs h r ih =>
    intro hz
    rcases List.mem_cons.1 hz with rfl | hz
    · simp
    · rcases ih hz with h | h <;> simp [h]
  | pair y xs ys zs bs h r ih =>
    intro hz
    rcases List.mem_cons.1 hz with rfl | hz
    · simp
    · rcases ih hz with h | h <;> simp [h]
theorem le_all_of_head {x : Int} {l : List Int} (hl : Srt l) (h : ∀ y, l.head? = some y → x ≤ y) : ∀ y ∈ l, x ≤ y := by
  cases l with
  | nil => simp
  | cons a l =>
    intro y hy
    have := h a rfl
    rcases List.mem_cons.1 hy with rfl | hy
    · exact this
    · have := hl.head_le y hy; omega
theorem Mg.sorted {xs ys zs bs} (h : Mg xs ys zs bs) (hx : Srt xs) (hy : Srt ys) : Srt zs := by
  induction h with
  | done => exact List.Pairwise.nil
  | leaf x xs ys zs bs h r ih =>
    refine List.pairwise_cons.2 ⟨fun z hz => ?_, ih (List.pairwise_cons.1 hx).2 hy⟩
    rcases r.mem z hz with h1 | h1
    · exact hx.head_le z h1
    · exact le_all_of_head hy h z h1
  | pair y xs ys zs bs h r ih =>
    refine List.pairwise_cons.2 ⟨fun z hz => ?_, ih hx (List.pairwise_cons.1 hy).2⟩
    rcases r.mem z hz with h1 | h1
    · exact le_all_of_head hx (fun x hx => by have := h x hx; omega) z h1
    · exact hy.head_le z h1
theorem Mg.split {xs ys zs bs} (h : Mg xs ys zs bs) : ∀ m, m ≤ zs.length → nf bs m + nt bs m = m ∧ nf bs m ≤ xs.length ∧ nt bs m ≤ ys.length ∧ sm zs m = sm xs (nf bs m) + sm ys (nt bs m) := by
  induction h with
  | done => intro m hm; simp at hm; subst hm; simp [nf, nt, sm]
  | leaf x xs ys zs bs h r ih =>
    intro m hm
    cases m with
    | zero => simp [nf, nt, sm]
    | succ m =>
      obtain ⟨a, b, c, d⟩ := ih m (by simpa using hm)
      rw [nf_false, nt_false, sm_cons, sm_cons, d]
      simp only [List.length_cons]
      omega
  | pair y xs ys zs bs h r ih =>
    intro m hm
    cases m with
    | zero => simp [nf, nt, sm]
    | succ m =>
      obtain ⟨a, b, c, d⟩ := ih m (by simpa using hm)
      rw [nf_true, nt_true, sm_cons, sm_cons, d]
      simp only [List.length_cons]
      omega
theorem Mg.least {xs ys zs bs} (h : Mg xs ys zs bs) : Srt xs → Srt ys → ∀ a p, a ≤ xs.length → p ≤ ys.length → sm zs (a + p) ≤ sm xs a + sm ys p := by
  induction h with
  | done => intro _ _ a p ha hp; simp at ha hp; subst ha; subst hp; simp [sm]
  | leaf x xs ys zs bs h r ih =>
    intro hx hy a p ha hp
    have ih := ih (List.pairwise_cons.1 hx).2 hy
    cases a with
    | succ a =>
      have := ih a p (by simpa using ha) hp
      rw [show a + 1 + p = (a + p) + 1 from by omega, sm_cons, sm_cons]
      omega
    | zero =>
      cases p with
      | zero => simp [sm]
      | succ p =>
        have i := ih 0 p (by omega) (by omega)
        have j := sm_step (x := x) p (le_all_of_head hy h) (by omega)
        rw [show 0 + (p + 1) = (0 + p) + 1 from by omega, sm_cons, sm_zero]
        rw [sm_zero] at i
        omega
  | pair y xs ys zs bs h r ih =>
    intro hx hy a p ha hp
    have ih := ih hx (List.pairwise_cons.1 hy).2
    cases p with
    | succ p =>
      have := ih a p ha (by simpa using hp)
      rw [show a + (p + 1) = (a + p) + 1 from by omega, sm_cons, sm_cons]
      omega
    | zero =>
      cases a with
      | zero => simp [sm]
      | succ a =>
        have i := ih a 0 (by omega) (by omega)
        have j := sm_step (x := y) a (le_all_of_head hx (fun x hx => by have := h x hx; omega)) (by omega)
        rw [Nat.add_zero] at i ⊢
        rw [sm_cons, sm_zero]
        rw [sm_zero] at i
        omega
theorem getD_mem : ∀ (l : List Int) (i : Nat), i < l.length → l.getD i 0 ∈ l
  | [], i, h => by simp at h
  | a :: l, 0, _ => by simp
  | a :: l, i + 1, h => by
    have := getD_mem l i (by simpa using h)
    simp at this ⊢
    exact .inr this
theorem Mg.reach {xs ys zs bs} (h : Mg xs ys zs bs) : Srt xs → ∀ m i, m ≤ zs.length → 0 < nt bs m → i < xs.length → xs.getD i 0 ≤ ys.getD (nt bs m - 1) 0 → i < nf bs m := by
  induction h with
  | done => intro _ m i hm h0; simp [nt] at h0
  | leaf x xs ys zs bs h r ih =>
    intro hx m i hm h0 hi hle
    cases m with
    | zero => simp [nt] at h0
    | succ m =>
      rw [nt_false] at h0 hle
      rw [nf_false]
      cases i with
      | zero => omega
      | succ i =>
        have := ih (List.pairwise_cons.1 hx).2 m i (by simpa using hm) h0 (by simpa using hi) (by simpa using hle)
        omega
  | pair y xs ys zs bs h r ih =>
    intro hx m i hm h0 hi hle
    cases m with
    | zero => simp [nt] at h0
    | succ m =>
      rw [nt_true] at h0 hle
      rw [nf_true]
      by_cases hp : nt bs m = 0
      · rw [hp] at hle
        have h2 : ∀ z ∈ xs, y < z := by
          intro z hz
          cases xs with
          | nil => simp at hz
          | cons a xs =>
            have := h a rfl
            rcases List.mem_cons.1 hz with rfl | hz
            · exact this
            · have := hx.head_le z hz; omega
        have := h2 _ (getD_mem xs i hi)
        simp at hle
        simp at this
        omega
      · refine ih hx m i (by simpa using hm) (by omega) hi ?_
        rw [show nt bs m + 1 - 1 = (nt bs m - 1) + 1 from by omega] at hle
        simpa using hle
theorem Mg.last {xs ys zs bs} (h : Mg xs ys zs bs) : Srt xs → Srt ys → ∀ m i, m ≤ zs.length → i < nf bs m → xs.getD i 0 ≤ zs.getD (m - 1) 0 := by
  induction h with
  | done => intro _ _ m i hm h0; simp [nf] at h0
  | leaf x xs ys zs bs h r ih =>
    intro hx hy m i hm h0
    have hz := (Mg.leaf x xs ys zs bs h r).sorted hx hy
    cases m with
    | zero => simp [nf] at h0
    | succ m =>
      rw [nf_false] at h0
      cases i with
      | zero =>
        have : (x :: zs).getD m 0 ∈ x :: zs := getD_mem _ _ (by simp at hm ⊢; omega)
        rw [show m + 1 - 1 = m from rfl]
        rcases List.mem_cons.1 this with e | e
        · rw [e]; simp
        · exact hz.head_le _ e
      | succ i =>
        cases m with
        | zero => simp [nf] at h0
        | succ m =>
          have := ih (List.pairwise_cons.1 hx).2 hy (m + 1) i (by simpa using hm) (by omega)
          simpa using this
  | pair y xs ys zs bs h r ih =>
    intro hx hy m i hm h0
    cases m with
    | zero => simp [nf] at h0
    | succ m =>
      rw [nf_true] at h0
      cases m with
      | zero => simp [nf] at h0
      | succ m =>
        have := ih hx (List.pairwise_cons.1 hy).2 (m + 1) i (by simpa using hm) h0
        simpa using this

/-! two by two -/
def prs : List Int → List Int
  | a :: b :: r => (a + b) :: prs r
  | _ => []
theorem prs_len : ∀ l, (prs l).length = l.length / 2
  | [] => rfl
  | [_] => by simp [prs]
  | a :: b :: r => by have := prs_len r; simp [prs]; omega
theorem prs_pos : ∀ l, Pos l → Pos (prs l)
  | [], _ => by intro x hx; simp [prs] at hx
  | [_], _ => by intro x hx; simp [prs] at hx
  | a :: b :: r, h => by
    have := prs_pos r (fun x hx => h x (by simp [hx]))
    have ha := h a (by simp)
    have hb := h b (by simp)
    intro x hx
    simp only [prs] at hx
    rcases List.mem_cons.1 hx with rfl | hx
    · omega
    · exact this x hx
theorem prs_ge : ∀ (l : List Int) (x : Int), 0 ≤ x → Srt l → (∀ y ∈ l, x ≤ y) → ∀ z ∈ prs l, x + x ≤ z
  | [], _, _, _, _ => by simp [prs]
  | [_], _, _, _, _ => by simp [prs]
  | a :: b :: r, x, h0, hs, h => by
    intro z hz
    have ha := h a (by simp)
    have hb := h b (by simp)
    simp only [prs] at hz
    rcases List.mem_cons.1 hz with rfl | hz
    · omega
    · exact prs_ge r x h0 (List.pairwise_cons.1 (List.pairwise_cons.1 hs).2).2 (fun y hy => h y (by simp [hy])) z hz
theorem prs_sorted : ∀ (l : List Int), Pos l → Srt l → Srt (prs l)
  | [], _, _ => List.Pairwise.nil
  | [_], _, _ => List.Pairwise.nil
  | a :: b :: r, hp, hs => by
    simp only [prs]
    have hs2 := (List.pairwise_cons.1 hs).2
    refine List.pairwise_cons.2 ⟨fun z hz => ?_, prs_sorted r (fun x hx => hp x (by simp [hx])) (List.pairwise_cons.1 hs2).2⟩
    have := prs_ge r b (hp b (by simp)) (List.pairwise_cons.1 hs2).2 (Srt.head_le hs2) z hz
    have := hs.head_le b (by simp)
    omega
theorem prs_sm : ∀ (l : List Int) (p : Nat), 2 * p ≤ l.length → sm (prs l) p = sm l (2 * p)
  | l, 0, _ => by simp [sm]
  | [], p + 1, h => by simp at h
  | [_], p + 1, h => by simp at h; omega
  | a :: b :: r, p + 1, h => by
    have := prs_sm r p (by simp at h; omega)
    rw [show 2 * (p + 1) = (2 * p + 1) + 1 from by omega, sm_cons, sm_cons]
    simp only [prs]
    rw [sm_cons, this]
    omega
theorem prs_getD : ∀ (l : List Int) (p : Nat), 2 * p + 1 < l.length → (prs l).getD p 0 = l.getD (2 * p) 0 + l.getD (2 * p + 1) 0
  | [], p, h => by simp at h
  | [_], p, h => by simp at h
  | a :: b :: r, 0, h => by simp [prs]
  | a :: b :: r, p + 1, h => by
    have := prs_getD r p (by simp at h; omega)
    simp only [prs, List.getD_cons_succ]
    rw [this, show 2 * (p + 1) = (2 * p + 1) + 1 from by omega]
    simp only [List.getD_cons_succ]

/-! levels -/
structure Lvs (ws : List Int) (L : Nat) (W : Nat → List Int) (B : Nat → List Bool) : Prop where
  srt : Srt ws
  pos : Pos ws
  zero : W 0 = []
  step : ∀ j, j < L → Mg ws (prs (W j)) (W (j + 1)) (B (j + 1))
theorem Lvs.posW {ws L W B} (h : Lvs ws L W B) : ∀ j, j ≤ L → Pos (W j)
  | 0, _ => by intro x hx; rw [h.zero] at hx; simp at hx
  | j + 1, hj => by
    intro z hz
    rcases (h.step j (by omega)).mem z hz with h1 | h1
    · exact h.pos z h1
    · exact prs_pos _ (h.posW j (by omega)) z h1
theorem Lvs.srtW {ws L W B} (h : Lvs ws L W B) : ∀ j, j ≤ L → Srt (W j)
  | 0, _ => by rw [h.zero]; exact List.Pairwise.nil
  | j + 1, hj => (h.step j (by omega)).sorted h.srt (prs_sorted _ (h.posW j (by omega)) (h.srtW j (by omega)))
theorem Lvs.lenW {ws L W B} (h : Lvs ws L W B) (j : Nat) (hj : j < L) : (W (j + 1)).length = ws.length + (W j).length / 2 := by
  rw [(h.step j hj).len.1, prs_len]
/-- enough of them -/
theorem Lvs.many {ws L W B} (h : Lvs ws L W B) : ∀ j, j ≤ L → 2 * ws.length ≤ (W j).length + 2 ^ (L - j + 1) ∨ (j = 0) ∨ 2 ^ L < ws.length
  | 0, _ => .inr (.inl rfl)
  | j + 1, hj => by
    by_cases hn : 2 ^ L < ws.length
    · exact .inr (.inr hn)
    left
    rw [h.lenW j (by omega)]
    rcases h.many j (by omega) with h1 | h1 | h1
    · have e : 2 ^ (L - j + 1) = 2 * 2 ^ (L - (j + 1) + 1) := by
        rw [show L - j + 1 = (L - (j + 1) + 1) + 1 from by omega, Nat.pow_succ]; omega
      omega
    · subst h1
      rw [h.zero, show L - (0 + 1) + 1 = L from by omega]
      simp
      omega
    · omega
theorem Lvs.enough {ws L W B} (h : Lvs ws L W B) (hL : 0 < L) (hn : ws.length ≤ 2 ^ L) : 2 * ws.length - 2 ≤ (W L).length := by
  rcases h.many L (Nat.le_refl _) with h1 | h1 | h1
  · rw [Nat.sub_self] at h1
    simp at h1
    omega
  · omega
  · omega

/-! what lengths cost -/
def cost : List Int → List Nat → Int
  | w :: ws, l :: ls => w * l + cost ws ls
  | _, _ => 0
def sel : List Int → List Nat → Int
  | w :: ws, l :: ls => (if l = 0 then 0 else w) + sel ws ls
  | _, _ => 0
def ps : List Nat → Nat
  | l :: ls => (if l = 0 then 0 else 1) + ps ls
  | [] => 0
def ones : List Nat → Nat
  | l :: ls => (if l = 1 then 1 else 0) + ones ls
  | [] => 0
def kr (j : Nat) : List Nat → Nat
  | l :: ls => (if l = 0 then 0 else 2 ^ (j - l)) + kr j ls
  | [] => 0
def less (ls : List Nat) : List Nat := ls.map (· - 1)
theorem ps_le : ∀ ls, ps ls ≤ ls.length
  | [] => by simp [ps]
  | l :: ls => by have := ps_le ls; simp only [ps, List.length_cons]; split <;> omega
theorem cost_less : ∀ (ws : List Int) (ls : List Nat), cost ws ls = cost ws (less ls) + sel ws ls
  | [], [] => rfl
  | [], _ :: _ => rfl
  | _ :: _, [] => rfl
  | w :: ws, l :: ls => by
    have := cost_less ws ls
    simp only [cost, sel, less, List.map_cons] at this ⊢
    rw [this]
    by_cases h : l = 0
    · subst h; simp
    · obtain ⟨m, rfl⟩ : ∃ m, l = m + 1 := ⟨l - 1, by omega⟩
      rw [if_neg h]
      simp only [Nat.add_sub_cancel, Int.natCast_add, Int.mul_add]
      omega
theorem sel_ge : ∀ (ws : List Int) (ls : List Nat), ls.length = ws.length → Srt ws → sm ws (ps ls) ≤ sel ws ls
  | [], [], _, _ => by simp [sm, sel]
  | [], _ :: _, h, _ => by simp at h
  | _ :: _, [], h, _ => by simp at h
  | w :: ws, l :: ls, h, hs => by
    have hl : ls.length = ws.length := by simpa using h
    have := sel_ge ws ls hl (List.pairwise_cons.1 hs).2
    simp only [sel, ps]
    by_cases h0 : l = 0
    · rw [if_pos h0, if_pos h0]
      have := sm_shift (ps ls) hs (by have := ps_le ls; omega)
      rw [Nat.zero_add, Int.zero_add]
      omega
    · rw [if_neg h0, if_neg h0, Nat.add_comm, sm_cons]
      omega
theorem ps_less : ∀ ls, ps (less ls) + ones ls = ps ls
  | [] => rfl
  | l :: ls => by
    have := ps_less ls
    simp only [less] at this
    simp only [ps, ones, less, List.map_cons]
    by_cases h0 : l = 0
    · rw [if_pos (by omega), if_neg (by omega), if_pos h0]; omega
    · by_cases h1 : l = 1
      · rw [if_pos (by omega), if_pos h1, if_neg h0]; omega
      · rw [if_neg (by omega), if_neg h1, if_neg h0]; omega
theorem kr_less (j : Nat) : ∀ ls, kr (j + 1) ls = kr j (less ls) + ones ls * 2 ^ j
  | [] => by simp [kr, less, ones]
  | l :: ls => by
    have := kr_less j ls
    simp only [less] at this
    simp only [kr, ones, less, List.map_cons]
    rw [this, Nat.add_mul]
    by_cases h0 : l = 0
    · rw [if_pos (by omega), if_pos (by omega), if_neg (by omega)]; omega
    · by_cases h1 : l = 1
      · subst h1; simp; omega
      · rw [if_neg (by omega), if_neg (by omega), if_neg (by omega), show j + 1 - l = j - (l - 1) from by omega]; omega
/-- NO LENGTHS COST LESS. -/
theorem lower {ws L W B} (h : Lvs ws L W B) : ∀ j, j ≤ L → ∀ (ls : List Nat) (I : Nat), ls.length = ws.length → (∀ l ∈ ls, l ≤ j) → kr j ls ≤ I * 2 ^ j →
    ∃ M, M ≤ (W j).length ∧ 2 * ps ls ≤ M + 2 * I ∧ sm (W j) M ≤ cost ws ls
  | 0, _, ls, I, hl, hb, hk => by
    have e : ∀ (ws : List Int) (ls : List Nat), (∀ l ∈ ls, l ≤ 0) → ps ls = 0 ∧ cost ws ls = 0 := by
      intro ws ls
      induction ls generalizing ws with
      | nil => intro _; cases ws <;> simp [ps, cost]
      | cons l ls ih =>
        intro hb
        have h0 : l = 0 := by have := hb l (by simp); omega
        subst h0
        cases ws with
        | nil => have := (ih [] (fun l hl => hb l (by simp [hl]))).1; simp [ps, cost, this]
        | cons w ws => have := ih ws (fun l hl => hb l (by simp [hl])); simp [ps, cost, this.1, this.2]
    obtain ⟨e1, e2⟩ := e ws ls hb
    refine ⟨0, by omega, by omega, ?_⟩
    rw [sm_zero, e2]
    exact Int.le_refl _
  | j + 1, hj, ls, I, hl, hb, hk => by
    have hp : 0 < 2 ^ j := Nat.pow_pos (by omega)
    rw [kr_less, Nat.pow_succ] at hk
    have hones : ones ls ≤ 2 * I := by
      refine Nat.le_of_mul_le_mul_right (c := 2 ^ j) ?_ hp
      rw [show 2 * I * 2 ^ j = I * (2 ^ j * 2) from by rw [Nat.mul_comm (2 ^ j) 2, ← Nat.mul_assoc, Nat.mul_comm I 2]]
      omega
    obtain ⟨M, m1, m2, m3⟩ := lower h j (by omega) (less ls) (2 * I - ones ls) (by simp [less, hl]) (by
      intro l hm
      obtain ⟨l', hm', rfl⟩ := List.mem_map.1 hm
      have := hb l' hm'
      omega) (by
        rw [Nat.sub_mul, show 2 * I * 2 ^ j = I * (2 ^ j * 2) from by rw [Nat.mul_comm (2 ^ j) 2, ← Nat.mul_assoc, Nat.mul_comm I 2]]
        omega)
    have hps := ps_less ls
    refine ⟨ps ls + M / 2, ?_, by omega, ?_⟩
    · rw [h.lenW j (by omega)]
      have := ps_le ls
      omega
    · have s := h.step j (by omega)
      have a1 := s.least h.srt (prs_sorted _ (h.posW j (by omega)) (h.srtW j (by omega))) (ps ls) (M / 2) (by have := ps_le ls; omega) (by rw [prs_len]; omega)
      have a2 := sel_ge ws ls hl h.srt
      have a3 := sm_mono (h.posW j (by omega)) (show 2 * (M / 2) ≤ M by omega)
      rw [prs_sm _ _ (by omega)] at a1
      rw [cost_less]
      omega
theorem lower_all {ws L W B} (h : Lvs ws L W B) (ls : List Nat) (hl : ls.length = ws.length) (hb : ∀ l ∈ ls, 1 ≤ l ∧ l ≤ L) (hk : kr L ls ≤ 2 ^ L) : sm (W L) (2 * ws.length - 2) ≤ cost ws ls := by
  obtain ⟨M, m1, m2, m3⟩ := lower h L (Nat.le_refl _) ls 1 hl (fun l hm => (hb l hm).2) (by omega)
  have e : ∀ ls : List Nat, (∀ l ∈ ls, 1 ≤ l ∧ l ≤ L) → ps ls = ls.length := by
    intro ls
    induction ls with
    | nil => intro _; rfl
    | cons l ls ih =>
      intro hb
      have h1 := hb l (by simp)
      simp only [ps, List.length_cons]
      rw [if_neg (by omega), ih (fun l hm => hb l (by simp [hm]))]
      omega
  rw [e ls hb] at m2
  have := sm_mono (h.posW L (Nat.le_refl _)) (show 2 * ws.length - 2 ≤ M by omega)
  omega

/-! the lengths that are made -/
def inc : Nat → List Nat → List Nat
  | a + 1, l :: ls => (l + 1) :: inc a ls
  | _, ls => ls
theorem inc_zero (ls : List Nat) : inc 0 ls = ls := by cases ls <;> rfl
theorem inc_nil (a : Nat) : inc a [] = [] := by cases a <;> rfl
theorem inc_len : ∀ a ls, (inc a ls).length = ls.length
  | 0, ls => by rw [inc_zero]
  | a + 1, [] => rfl
  | a + 1, l :: ls => by simp [inc, inc_len a ls]
theorem inc_cost : ∀ (a : Nat) (ws : List Int) (ls : List Nat), ls.length = ws.length → cost ws (inc a ls) = sm ws a + cost ws ls
  | 0, ws, ls, _ => by rw [inc_zero, sm_zero]; omega
  | a + 1, [], [], _ => by simp [sm, cost]
  | a + 1, _ :: _, [], h => by simp at h
  | a + 1, [], _ :: _, h => by simp at h
  | a + 1, w :: ws, l :: ls, h => by
    have := inc_cost a ws ls (by simpa using h)
    simp only [inc, cost]
    rw [this, sm_cons, Int.natCast_add, Int.mul_add]
    omega
abbrev Fall (l : List Nat) : Prop := l.Pairwise (· ≥ ·)
theorem inc_le {b : Nat} : ∀ (a : Nat) (ls : List Nat), (∀ l ∈ ls, l ≤ b) → ∀ l ∈ inc a ls, l ≤ b + 1
  | 0, ls, h => by rw [inc_zero]; intro l hl; have := h l hl; omega
  | a + 1, [], h => by simp [inc]
  | a + 1, l :: ls, h => by
    have := inc_le a ls (fun l hl => h l (by simp [hl]))
    intro x hx
    simp only [inc] at hx
    rcases List.mem_cons.1 hx with rfl | hx
    · have := h l (by simp); omega
    · exact this x hx
theorem inc_fall : ∀ (a : Nat) (ls : List Nat), Fall ls → Fall (inc a ls)
  | 0, ls, h => by rw [inc_zero]; exact h
  | a + 1, [], h => by simp [inc]
  | a + 1, l :: ls, h => by
    obtain ⟨h1, h2⟩ := List.pairwise_cons.1 h
    exact List.pairwise_cons.2 ⟨fun x hx => inc_le a ls h1 x hx, inc_fall a ls h2⟩
theorem ps_zero_of : ∀ (ls : List Nat), (∀ l ∈ ls, l ≤ 0) → ps ls = 0
  | [], _ => rfl
  | l :: ls, h => by
    have h0 := h l (by simp)
    simp only [ps]
    rw [if_pos (by omega), ps_zero_of ls (fun l hl => h l (by simp [hl]))]
theorem kr_zero_of (j : Nat) : ∀ (ls : List Nat), (∀ l ∈ ls, l ≤ 0) → kr j ls = 0
  | [], _ => rfl
  | l :: ls, h => by
    have h0 := h l (by simp)
    simp only [kr]
    rw [if_pos (by omega), kr_zero_of j ls (fun l hl => h l (by simp [hl]))]
theorem ps_tail {l : Nat} {ls : List Nat} {a : Nat} (h : Fall (l :: ls)) (hp : ps (l :: ls) ≤ a + 1) : ps ls ≤ a := by
  by_cases h0 : l = 0
  · have := ps_zero_of ls (fun x hx => by have := List.rel_of_pairwise_cons h hx; omega)
    omega
  · simp only [ps, if_neg h0] at hp
    omega
theorem inc_ps : ∀ (a : Nat) (ls : List Nat), Fall ls → ps ls ≤ a → a ≤ ls.length → ps (inc a ls) = a
  | 0, ls, _, h, _ => by rw [inc_zero]; omega
  | a + 1, [], _, _, h => by simp at h
  | a + 1, l :: ls, hf, hp, hl => by
    have := inc_ps a ls (List.pairwise_cons.1 hf).2 (ps_tail hf hp) (by simpa using hl)
    simp only [inc, ps]
    rw [if_neg (by omega), this]
    omega
theorem inc_kr (j : Nat) : ∀ (a : Nat) (ls : List Nat), Fall ls → ps ls ≤ a → a ≤ ls.length → kr (j + 1) (inc a ls) + ps ls * 2 ^ j = a * 2 ^ j + kr j ls
  | 0, ls, hf, h, _ => by
    rw [inc_zero]
    have e : ∀ ls : List Nat, ps ls = 0 → ∀ l ∈ ls, l ≤ 0 := by
      intro ls
      induction ls with
      | nil => simp
      | cons l ls ih =>
        intro h x hx
        simp only [ps] at h
        by_cases h0 : l = 0
        · rcases List.mem_cons.1 hx with rfl | hx
          · omega
          · exact ih (by omega) x hx
        · rw [if_neg h0] at h; omega
    have z := e ls (by omega)
    rw [kr_zero_of _ ls z, kr_zero_of _ ls z, show ps ls = 0 by omega]
    simp
  | a + 1, [], _, _, h => by simp at h
  | a + 1, l :: ls, hf, hp, hl => by
    have := inc_kr j a ls (List.pairwise_cons.1 hf).2 (ps_tail hf hp) (by simpa using hl)
    simp only [inc, kr, ps]
    rw [if_neg (by omega), Nat.add_mul, Nat.add_mul, show j + 1 - (l + 1) = j - l from by omega]
    by_cases h0 : l = 0
    · subst h0; simp; omega
    · rw [if_neg h0, if_neg h0]; omega
def R (n : Nat) (B : Nat → List Bool) : Nat → Nat → List Nat
  | 0, _ => List.replicate n 0
  | j + 1, m => inc (nf (B (j + 1)) m) (R n B j (2 * nt (B (j + 1)) m))
/-- what the made lengths are -/
theorem made {ws L W B} (h : Lvs ws L W B) : ∀ j, j ≤ L → ∀ m, m ≤ (W j).length →
    (R ws.length B j m).length = ws.length ∧ (∀ l ∈ R ws.length B j m, l ≤ j) ∧ Fall (R ws.length B j m) ∧ cost ws (R ws.length B j m) = sm (W j) m ∧
      2 * kr j (R ws.length B j m) + m * 2 ^ j = 2 * ps (R ws.length B j m) * 2 ^ j ∧ (j = 0 → ps (R ws.length B j m) = 0) ∧ (0 < j → ps (R ws.length B j m) = nf (B j) m)
  | 0, _, m, hm => by
    rw [h.zero] at hm ⊢
    simp at hm
    subst hm
    have z : ∀ l ∈ List.replicate ws.length 0, l ≤ 0 := by intro l hl; have := List.eq_of_mem_replicate hl; omega
    have c : ∀ ws : List Int, cost ws (List.replicate ws.length 0) = 0 := by
      intro ws
      induction ws with
      | nil => rfl
      | cons w ws ih => simp [List.replicate_succ, cost, ih]
    refine ⟨by simp [R], z, ?_, ?_, ?_, fun _ => ps_zero_of _ z, fun h => by omega⟩
    · simp only [R]
      exact List.pairwise_replicate.2 (.inr (Nat.le_refl _))
    · simp only [R]; rw [c, sm_zero]
    · simp only [R]; rw [kr_zero_of _ _ z, ps_zero_of _ z]
  | j + 1, hj, m, hm => by
    have s := h.step j (by omega)
    obtain ⟨s1, s2, s3, s4⟩ := s.split m hm
    rw [prs_len] at s3
    obtain ⟨i1, i2, i3, i4, i5, i6, i7⟩ := made h j (by omega) (2 * nt (B (j + 1)) m) (by omega)
    rw [prs_sm _ _ (by omega)] at s4
    have hps : ps (R ws.length B j (2 * nt (B (j + 1)) m)) ≤ nf (B (j + 1)) m := by
      by_cases hj0 : j = 0
      · rw [i6 hj0]; omega
      · rw [i7 (by omega)]
        obtain ⟨j', rfl⟩ : ∃ j', j = j' + 1 := ⟨j - 1, by omega⟩
        have s' := h.step j' (by omega)
        by_cases hp : nt (B (j' + 1 + 1)) m = 0
        · rw [hp]; simp [nf]
        · by_cases hq : nf (B (j' + 1)) (2 * nt (B (j' + 1 + 1)) m) = 0
          · omega
          · obtain ⟨t1, t2, t3, t4⟩ := s'.split (2 * nt (B (j' + 1 + 1)) m) (by omega)
            have a1 := s'.last h.srt (prs_sorted _ (h.posW j' (by omega)) (h.srtW j' (by omega))) (2 * nt (B (j' + 1 + 1)) m) (nf (B (j' + 1)) (2 * nt (B (j' + 1 + 1)) m) - 1) (by omega) (by omega)
            have a2 := prs_getD (W (j' + 1)) (nt (B (j' + 1 + 1)) m - 1) (by omega)
            have a3 : 0 ≤ (W (j' + 1)).getD (2 * (nt (B (j' + 1 + 1)) m - 1)) 0 := h.posW (j' + 1) (by omega) _ (getD_mem _ _ (by omega))
            rw [show 2 * (nt (B (j' + 1 + 1)) m - 1) + 1 = 2 * nt (B (j' + 1 + 1)) m - 1 from by omega] at a2
            have := s.reach h.srt m (nf (B (j' + 1)) (2 * nt (B (j' + 1 + 1)) m) - 1) hm (by omega) (by omega) (by rw [a2]; omega)
            omega
    have e1 := inc_kr j (nf (B (j + 1)) m) _ i3 hps (by omega)
    have e2 := inc_ps (nf (B (j + 1)) m) _ i3 hps (by omega)
    refine ⟨by simp only [R]; rw [inc_len]; exact i1, inc_le _ _ i2, inc_fall _ _ i3, ?_, ?_, fun h => by omega, fun _ => e2⟩
    · simp only [R]
      rw [inc_cost _ _ _ i1, i4, s4]
    · simp only [R]
      rw [e2]
      generalize kr (j + 1) (inc (nf (B (j + 1)) m) (R ws.length B j (2 * nt (B (j + 1)) m))) = K at *
      generalize kr j (R ws.length B j (2 * nt (B (j + 1)) m)) = K' at *
      generalize ps (R ws.length B j (2 * nt (B (j + 1)) m)) = q at *
      generalize nf (B (j + 1)) m = a at *
      generalize nt (B (j + 1)) m = p at *
      subst s1
      rw [Nat.pow_succ]
      generalize 2 ^ j = z at *
      have x1 : 2 * p * z = 2 * (p * z) := Nat.mul_assoc _ _ _
      have x2 : 2 * q * z = 2 * (q * z) := Nat.mul_assoc _ _ _
      have x3 : (a + p) * (z * 2) = 2 * (a * z) + 2 * (p * z) := by rw [Nat.add_mul, ← Nat.mul_assoc, ← Nat.mul_assoc]; omega
      have x4 : 2 * a * (z * 2) = 4 * (a * z) := by rw [← Nat.mul_assoc, Nat.mul_assoc 2 a z]; omega
      rw [x1, x2] at i5
      rw [x3, x4]
      omega
theorem kr_pos (j : Nat) : ∀ ls : List Nat, 0 < ps ls → 0 < kr j ls
  | [], h => by simp [ps] at h
  | l :: ls, h => by
    simp only [ps, kr] at h ⊢
    by_cases h0 : l = 0
    · rw [if_pos h0] at h ⊢
      have := kr_pos j ls (by omega)
      omega
    · rw [if_neg h0]
      have : 0 < 2 ^ (j - l) := Nat.pow_pos (by omega)
      omega
theorem all_of_ps : ∀ ls : List Nat, ps ls = ls.length → ∀ l ∈ ls, 1 ≤ l
  | [], _ => by simp
  | l :: ls, h => by
    simp only [ps, List.length_cons] at h
    have := ps_le ls
    by_cases h0 : l = 0
    · rw [if_pos h0] at h; omega
    · rw [if_neg h0] at h
      intro x hx
      rcases List.mem_cons.1 hx with rfl | hx
      · omega
      · exact all_of_ps ls (by omega) x hx
/-- THE MADE LENGTHS: a whole code's, falling as the leaves rise, and their cost. -/
theorem made_all {ws L W B} (h : Lvs ws L W B) (hL : 0 < L) (h2 : 2 ≤ ws.length) (hn : ws.length ≤ 2 ^ L) :
    (R ws.length B L (2 * ws.length - 2)).length = ws.length ∧ (∀ l ∈ R ws.length B L (2 * ws.length - 2), 1 ≤ l ∧ l ≤ L) ∧ Fall (R ws.length B L (2 * ws.length - 2)) ∧
      cost ws (R ws.length B L (2 * ws.length - 2)) = sm (W L) (2 * ws.length - 2) ∧ kr L (R ws.length B L (2 * ws.length - 2)) = 2 ^ L := by
  obtain ⟨i1, i2, i3, i4, i5, i6, i7⟩ := made h L (Nat.le_refl _) (2 * ws.length - 2) (h.enough hL hn)
  have hle := ps_le (R ws.length B L (2 * ws.length - 2))
  have hk := kr_pos L (R ws.length B L (2 * ws.length - 2))
  generalize R ws.length B L (2 * ws.length - 2) = ls at *
  have hz : 0 < 2 ^ L := Nat.pow_pos (by omega)
  clear hn
  generalize 2 ^ L = z at *
  have p : ps ls = ws.length := by
    by_cases hc : ps ls = ws.length
    · exact hc
    · by_cases hd : ps ls = ws.length - 1
      · have := hk (by omega)
        rw [hd, show 2 * (ws.length - 1) = 2 * ws.length - 2 from by omega] at i5
        omega
      · have : (2 * ps ls + 2) * z ≤ (2 * ws.length - 2) * z := Nat.mul_le_mul_right z (by omega)
        rw [Nat.add_mul] at this
        omega
  refine ⟨i1, fun l hl => ⟨all_of_ps ls (by omega) l hl, i2 l hl⟩, i3, i4, ?_⟩
  rw [p, show 2 * ws.length = (2 * ws.length - 2) + 2 from by omega, Nat.add_mul, show (2 * ws.length - 2) + 2 - 2 = 2 * ws.length - 2 from by omega] at i5
  omega
end Go.Proofs.Yticokbmafhpebaa.PM
