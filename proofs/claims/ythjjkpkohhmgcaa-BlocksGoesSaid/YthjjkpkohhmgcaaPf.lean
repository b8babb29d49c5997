/- The plain law of code in blocks: where they begin, their numbers, where they go on; no program in sight. -/
namespace Go.Proofs.Ythjjkpkohhmgcaa.Blk

/-- Cod: where each instruction goes on, where what it throws may be taken. -/
structure Cod where
  next : List (List Nat)
  thrown : List (List Nat)
abbrev Cod.n (c : Cod) : Nat := c.next.length
abbrev Cod.nx (c : Cod) (i : Nat) : List Nat := c.next.getD i []
abbrev Cod.th (c : Cod) (i : Nat) : List Nat := c.thrown.getD i []
/-- What instruction i makes begin. -/
def mk (c : Cod) (i k : Nat) : Bool := (c.nx i).any (fun t => t != i + 1 && t == k) || ((c.th i).contains k || (!(c.nx i == [i + 1]) && (decide (i + 1 < c.n) && k == i + 1)))
/-- What those below i make begin. -/
def bgTo (c : Cod) (i k : Nat) : Bool := k == 0 || (List.range i).any (fun j => mk c j k)
def bg (c : Cod) (k : Nat) : Bool := bgTo c c.n k
/-- Where blocks begin, below i. -/
def starts (c : Cod) (i : Nat) : List Nat := (List.range i).filter (bg c)
theorem bgTo_succ (c : Cod) (i k : Nat) : bgTo c (i + 1) k = (bgTo c i k || mk c i k) := by
  unfold bgTo
  rw [List.range_succ, List.any_append, Bool.or_assoc]
  simp
theorem starts_succ (c : Cod) (i : Nat) : starts c (i + 1) = starts c i ++ if bg c i then [i] else [] := by
  unfold starts
  rw [List.range_succ, List.filter_append]
  cases h : bg c i <;> simp [h]
theorem bg_zero (c : Cod) : bg c 0 = true := by simp [bg, bgTo]
theorem starts_pos (c : Cod) {i : Nat} (hi : 0 < i) : 0 < (starts c i).length := by
  have : (0 : Nat) ∈ starts c i := by
    unfold starts
    rw [List.mem_filter]
    exact ⟨by simpa using hi, bg_zero c⟩
  exact List.length_pos_of_mem this
theorem mem_starts {c : Cod} {i k : Nat} : k ∈ starts c i ↔ k < i ∧ bg c k = true := by
  unfold starts
  rw [List.mem_filter, List.mem_range]
/-- The number of the block that begins at k. -/
def num (c : Cod) (k : Nat) : Nat := (starts c k).length
theorem starts_getElem {c : Cod} {k : Nat} (hk : bg c k = true) {i : Nat} (hi : k < i) : (starts c i)[num c k]? = some k := by
  have key : ∀ d, (starts c (k + 1 + d))[num c k]? = some k := by
    intro d
    induction d with
    | zero =>
      rw [Nat.add_zero, starts_succ, if_pos hk]
      unfold num
      simp
    | succ d ih =>
      rw [← Nat.add_assoc, starts_succ, List.getElem?_append_left (List.getElem?_eq_some_iff.1 ih).1]
      exact ih
  have := key (i - (k + 1))
  rwa [show k + 1 + (i - (k + 1)) = i by omega] at this
theorem num_lt {c : Cod} {k : Nat} (hk : bg c k = true) {i : Nat} (hi : k < i) : num c k < (starts c i).length := (List.getElem?_eq_some_iff.1 (starts_getElem hk hi)).1
theorem starts_mono (c : Cod) (i d : Nat) : ∃ t, starts c (i + d) = starts c i ++ t := by
  induction d with
  | zero => exact ⟨[], by simp⟩
  | succ d ih =>
    obtain ⟨t, h⟩ := ih
    exact ⟨_, by rw [← Nat.add_assoc, starts_succ, h, List.append_assoc]⟩
theorem starts_sorted (c : Cod) (i : Nat) : (starts c i).Pairwise (· < ·) := List.Pairwise.filter _ List.pairwise_lt_range
/-- Where block b begins, and ends. -/
def fromB (c : Cod) (b : Nat) : Nat := (starts c c.n).getD b c.n
def toB (c : Cod) (b : Nat) : Nat := fromB c (b + 1)
def many (c : Cod) : Nat := (starts c c.n).length
theorem start_get (c : Cod) (k : Nat) (hk : k < (starts c c.n).length) : (starts c c.n)[k] = fromB c k := by
  unfold fromB
  rw [List.getD_eq_getElem?_getD, List.getElem?_eq_getElem hk]
  rfl
theorem from_lt {c : Cod} {b : Nat} (hb : b < many c) : fromB c b < c.n ∧ bg c (fromB c b) = true ∧ num c (fromB c b) = b := by
  have e : (starts c c.n)[b]? = some (fromB c b) := by
    unfold fromB
    rw [List.getD_eq_getElem?_getD, List.getElem?_eq_getElem hb]
    rfl
  have hm := mem_starts.1 (List.mem_of_getElem? e)
  have hb' : b < (starts c c.n).length := hb
  refine ⟨hm.1, hm.2, ?_⟩
  have h1 := starts_getElem hm.2 hm.1
  have hs := starts_sorted c c.n
  rcases Nat.lt_trichotomy (num c (fromB c b)) b with h | h | h
  · have h2 := List.pairwise_iff_getElem.1 hs _ _ (List.getElem?_eq_some_iff.1 h1).1 hb' h
    rw [(List.getElem?_eq_some_iff.1 h1).2, start_get] at h2
    omega
  · exact h
  · have h2 := List.pairwise_iff_getElem.1 hs _ _ hb' (List.getElem?_eq_some_iff.1 h1).1 h
    rw [(List.getElem?_eq_some_iff.1 h1).2, start_get] at h2
    omega
theorem from_num {c : Cod} {k : Nat} (hk : bg c k = true) (hn : k < c.n) : fromB c (num c k) = k := by
  unfold fromB
  rw [List.getD_eq_getElem?_getD, starts_getElem hk hn]
  rfl
theorem from_out {c : Cod} {b : Nat} (hb : many c ≤ b) : fromB c b = c.n := by
  unfold fromB
  rw [List.getD_eq_getElem?_getD, List.getElem?_eq_none hb]
  rfl
theorem from_zero {c : Cod} (hn : 0 < c.n) : fromB c 0 = 0 := by
  have := from_num (bg_zero c) hn
  rwa [show num c 0 = 0 from rfl] at this
theorem to_gt {c : Cod} {b : Nat} (hb : b < many c) : fromB c b < toB c b ∧ toB c b ≤ c.n := by
  unfold toB
  by_cases h : b + 1 < many c
  · have h1 := from_lt hb
    have h2 := from_lt h
    refine ⟨?_, by omega⟩
    have hb' : b < (starts c c.n).length := hb
    have h' : b + 1 < (starts c c.n).length := h
    have hs := List.pairwise_iff_getElem.1 (starts_sorted c c.n) b (b + 1) hb' h' (by omega)
    rw [start_get, start_get] at hs
    exact hs
  · rw [from_out (b := b + 1) (by omega)]
    exact ⟨(from_lt hb).1, Nat.le_refl _⟩
/-- Between there is no beginning. -/
theorem no_bg {c : Cod} {b i : Nat} (hb : b < many c) (h1 : fromB c b < i) (h2 : i < toB c b) : bg c i = false := by
  cases h : bg c i with
  | false => rfl
  | true =>
    exfalso
    have hin : i < c.n := by have := (to_gt hb).2; omega
    have hf := from_num h hin
    have hm : num c i < many c := num_lt h hin
    -- the numbers are as the beginnings
    have hmono : ∀ x y, bg c x = true → bg c y = true → x < y → num c x < num c y := fun x y hx hy hxy => num_lt hx hxy
    have l1 : b < num c i := by
      have := hmono _ _ (from_lt hb).2.1 h h1
      rwa [(from_lt hb).2.2] at this
    unfold toB at h2
    by_cases hb1 : b + 1 < many c
    · have := hmono _ _ h (from_lt hb1).2.1 h2
      rw [(from_lt hb1).2.2] at this
      omega
    · omega
/-- Where block b goes on. -/
def goes (c : Cod) (b : Nat) : List Nat := (List.range (many c)).filter fun k => (c.nx (toB c b - 1)).contains (fromB c k) || (List.range (toB c b - fromB c b)).any fun j => (c.th (fromB c b + j)).contains (fromB c k)
theorem mem_goes {c : Cod} {b k : Nat} : k ∈ goes c b ↔ k < many c ∧ (fromB c k ∈ c.nx (toB c b - 1) ∨ ∃ i, fromB c b ≤ i ∧ i < toB c b ∧ fromB c k ∈ c.th i) := by
  unfold goes
  rw [List.mem_filter, List.mem_range, Bool.or_eq_true, List.contains_iff_mem, List.any_eq_true]
  constructor
  · rintro ⟨h1, h2⟩
    refine ⟨h1, h2.imp id ?_⟩
    rintro ⟨j, hj, h3⟩
    rw [List.mem_range] at hj
    exact ⟨fromB c b + j, by omega, by omega, List.contains_iff_mem.1 h3⟩
  · rintro ⟨h1, h2⟩
    refine ⟨h1, h2.imp id ?_⟩
    rintro ⟨i, h3, h4, h5⟩
    exact ⟨i - fromB c b, by rw [List.mem_range]; omega, by rw [List.contains_iff_mem, show fromB c b + (i - fromB c b) = i by omega]; exact h5⟩
theorem goes_lt {c : Cod} {b k : Nat} (h : k ∈ goes c b) : k < many c := (mem_goes.1 h).1
theorem goes_sorted (c : Cod) (b : Nat) : (goes c b).Pairwise (· < ·) := List.Pairwise.filter _ List.pairwise_lt_range
/-- What an instruction goes to elsewhere is a beginning. -/
theorem bg_next {c : Cod} {i k : Nat} (hi : i < c.n) (hk : k ∈ c.nx i) (hne : k ≠ i + 1) : bg c k = true := by
  unfold bg bgTo
  rw [Bool.or_eq_true, List.any_eq_true]
  right
  refine ⟨i, by simpa using hi, ?_⟩
  unfold mk
  rw [Bool.or_eq_true, List.any_eq_true]
  left
  exact ⟨k, hk, by simp [hne]⟩
theorem bg_thrown {c : Cod} {i k : Nat} (hi : i < c.n) (hk : k ∈ c.th i) : bg c k = true := by
  unfold bg bgTo
  rw [Bool.or_eq_true, List.any_eq_true]
  right
  refine ⟨i, by simpa using hi, ?_⟩
  unfold mk
  rw [Bool.or_eq_true, Bool.or_eq_true]
  right; left
  exact List.contains_iff_mem.2 hk
theorem bg_behind {c : Cod} {i : Nat} (hi : i + 1 < c.n) (hk : c.nx i ≠ [i + 1]) : bg c (i + 1) = true := by
  unfold bg bgTo
  rw [Bool.or_eq_true, List.any_eq_true]
  right
  refine ⟨i, by simp; omega, ?_⟩
  unfold mk
  have hk' : (c.nx i == [i + 1]) = false := beq_eq_false_iff_ne.2 hk
  rw [hk']
  simp [hi]
/-- Why it is one. -/
theorem bg_why {c : Cod} {k : Nat} (h : bg c k = true) : k = 0 ∨ ∃ i, i < c.n ∧ ((k ∈ c.nx i ∧ k ≠ i + 1) ∨ k ∈ c.th i ∨ (k = i + 1 ∧ i + 1 < c.n ∧ c.nx i ≠ [i + 1])) := by
  unfold bg bgTo at h
  rw [Bool.or_eq_true, List.any_eq_true] at h
  rcases h with h | ⟨i, hi, h⟩
  · left; simpa using h
  · right
    refine ⟨i, by simpa using hi, ?_⟩
    unfold mk at h
    rw [Bool.or_eq_true, Bool.or_eq_true, List.any_eq_true] at h
    rcases h with ⟨t, ht, h⟩ | h | h
    · left
      simp only [Bool.and_eq_true, bne_iff_ne, beq_iff_eq] at h
      rw [← h.2]
      exact ⟨ht, h.1⟩
    · right; left
      exact List.contains_iff_mem.1 h
    · right; right
      simp only [Bool.and_eq_true, Bool.not_eq_true', beq_eq_false_iff_ne, decide_eq_true_eq, beq_iff_eq] at h
      exact ⟨h.2.2, h.2.1, h.1⟩
/-- What the last instruction of a block goes to is a beginning. -/
theorem last_bg {c : Cod} {b k : Nat} (hb : b < many c) (hk : k ∈ c.nx (toB c b - 1)) (hkn : k < c.n) : bg c k = true := by
  have ht := to_gt hb
  by_cases hne : k = toB c b - 1 + 1
  · have hto : k = toB c b := by omega
    unfold toB at hto
    have hb1 : b + 1 < many c := by
      by_cases h : b + 1 < many c
      · exact h
      · rw [from_out (by omega)] at hto; omega
    rw [hto]
    exact (from_lt hb1).2.1
  · exact bg_next (by omega) hk hne
/-- Within a block each instruction goes on to the one behind it alone. -/
theorem inner {c : Cod} {b i : Nat} (hb : b < many c) (h1 : fromB c b ≤ i) (h2 : i + 1 < toB c b) : c.nx i = [i + 1] := by
  have hn := (to_gt hb).2
  apply Classical.byContradiction
  intro h
  have := bg_behind (c := c) (i := i) (by omega) h
  rw [no_bg hb (by omega) h2] at this
  cases this
end Go.Proofs.Ythjjkpkohhmgcaa.Blk
