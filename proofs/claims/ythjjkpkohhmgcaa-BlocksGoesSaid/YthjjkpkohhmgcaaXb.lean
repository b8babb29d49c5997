/- Blocks: what Of computes, step by step; no walk. -/
import Derived.Test.YthjjkpkohhmgcaaPf
import Derived.Test.YthjjkpkohhmgcaaXa
namespace Go.Proofs.Ythjjkpkohhmgcaa
open Go.RowKit Go.Proofs.Ythjjkpkohhmgcaa.Blk

def nats (l : List Int) : List Nat := l.map Int.toNat
def codeOf (next thrown : List (List Int)) : Cod := ⟨next.map nats, thrown.map nats⟩
def codeE (next thrown : List (List Int)) : Int :=
  if 8192 < next.length ∨ next.any (manyB 2000) = true ∨ (thrown.take next.length).any (manyB 2000) = true then 5
  else if next.length = 0 ∨ thrown.length ≠ next.length then 2
  else if next.any (outB next.length) = true ∨ thrown.any (outB next.length) = true then 9
  else 0
/-- Cod that may be. -/
structure MayC (next thrown : List (List Int)) : Prop where
  pos : 0 < next.length
  few : next.length ≤ 8192
  eq : thrown.length = next.length
  nx : ∀ l ∈ next, l.length ≤ 2000 ∧ ∀ k ∈ l, 0 ≤ k ∧ k < (next.length : Int)
  th : ∀ l ∈ thrown, l.length ≤ 2000 ∧ ∀ k ∈ l, 0 ≤ k ∧ k < (next.length : Int)
theorem many_iff {ls : List (List Int)} {m : Int} : ls.any (manyB m) = true ↔ ∃ l ∈ ls, m < (l.length : Int) := by
  rw [List.any_eq_true]
  constructor
  · rintro ⟨l, h1, h2⟩; exact ⟨l, h1, by unfold manyB at h2; simp at h2; omega⟩
  · rintro ⟨l, h1, h2⟩; exact ⟨l, h1, by unfold manyB; simp; omega⟩
theorem outs_iff {ls : List (List Int)} {m : Int} : ls.any (outB m) = true ↔ ∃ l ∈ ls, ∃ k ∈ l, ¬ (0 ≤ k ∧ k < m) := by
  rw [List.any_eq_true]
  constructor
  · rintro ⟨l, h1, h2⟩
    unfold outB at h2
    obtain ⟨k, h3, h4⟩ := List.any_eq_true.1 h2
    exact ⟨l, h1, k, h3, by simp at h4; omega⟩
  · rintro ⟨l, h1, k, h3, h4⟩
    exact ⟨l, h1, List.any_eq_true.2 ⟨k, h3, by simp; omega⟩⟩
theorem codeE_may (next thrown : List (List Int)) : codeE next thrown = 0 ↔ MayC next thrown := by
  unfold codeE
  constructor
  · intro h
    split at h
    · cases h
    · rename_i h1
      split at h
      · cases h
      · rename_i h2
        split at h
        · cases h
        · rename_i h3
          have he : thrown.length = next.length := by omega
          refine ⟨by omega, by omega, he, fun l hl => ⟨?_, fun k hk => ?_⟩, fun l hl => ⟨?_, fun k hk => ?_⟩⟩
          · exact Classical.byContradiction fun hn => h1 (.inr (.inl (many_iff.2 ⟨l, hl, by omega⟩)))
          · exact Classical.byContradiction fun hn => h3 (.inl (outs_iff.2 ⟨l, hl, k, hk, hn⟩))
          · exact Classical.byContradiction fun hn => h1 (.inr (.inr (many_iff.2 ⟨l, by rw [List.take_of_length_le (by omega)]; exact hl, by omega⟩)))
          · exact Classical.byContradiction fun hn => h3 (.inr (outs_iff.2 ⟨l, hl, k, hk, hn⟩))
  · intro h
    rw [if_neg, if_neg, if_neg]
    · rintro (h1 | h1)
      · obtain ⟨l, h2, k, h3, h4⟩ := outs_iff.1 h1
        exact h4 ((h.nx l h2).2 k h3)
      · obtain ⟨l, h2, k, h3, h4⟩ := outs_iff.1 h1
        exact h4 ((h.th l h2).2 k h3)
    · have := h.pos; have := h.eq; omega
    · rintro (h1 | h1 | h1)
      · have := h.few; omega
      · obtain ⟨l, h2, h3⟩ := many_iff.1 h1
        have := (h.nx l h2).1; omega
      · obtain ⟨l, h2, h3⟩ := many_iff.1 h1
        have := (h.th l (List.mem_of_mem_take h2)).1; omega
section
variable {next thrown : List (List Int)}
theorem codeOf_n : (codeOf next thrown).n = next.length := by simp [codeOf, Cod.n]
theorem codeOf_nx (i : Nat) : (codeOf next thrown).nx i = nats (next.getD i []) := by
  simp only [Cod.nx, codeOf, List.getD_eq_getElem?_getD, List.getElem?_map]
  cases next[i]? <;> rfl
theorem codeOf_th (i : Nat) : (codeOf next thrown).th i = nats (thrown.getD i []) := by
  simp only [Cod.th, codeOf, List.getD_eq_getElem?_getD, List.getElem?_map]
  cases thrown[i]? <;> rfl
theorem nats_get {l : List Int} {n q : Nat} (hl : ∀ k ∈ l, 0 ≤ k ∧ k < (n : Int)) (hq : q < l.length) : ∃ v, v < n ∧ (nats l)[q]? = some v ∧ l.getD q 0 = (v : Int) := by
  have hm := hl _ (List.getElem_mem hq)
  refine ⟨(l[q]).toNat, by omega, ?_, ?_⟩
  · unfold nats; rw [List.getElem?_map, List.getElem?_eq_getElem hq]; rfl
  · rw [List.getD_eq_getElem?_getD, List.getElem?_eq_getElem hq]
    show l[q] = _
    omega
theorem nats_len (l : List Int) : (nats l).length = l.length := by simp [nats]
theorem nats_ints {l : List Int} {n : Nat} (hl : ∀ k ∈ l, 0 ≤ k ∧ k < (n : Int)) : ints (nats l) = l := by
  unfold ints nats
  rw [List.map_map]
  refine (List.map_congr_left fun k hk => ?_).trans (List.map_id l)
  have := hl k hk
  show ((k.toNat : Nat) : Int) = k
  omega
theorem MayC.nxAt (h : MayC next thrown) {i : Nat} (hi : i < next.length) : (next.getD i []).length ≤ 2000 ∧ ∀ k ∈ next.getD i [], 0 ≤ k ∧ k < (next.length : Int) := by
  refine h.nx _ ?_
  rw [List.getD_eq_getElem?_getD, List.getElem?_eq_getElem hi]
  exact List.getElem_mem hi
theorem MayC.thAt (h : MayC next thrown) {i : Nat} (hi : i < next.length) : (thrown.getD i []).length ≤ 2000 ∧ ∀ k ∈ thrown.getD i [], 0 ≤ k ∧ k < (next.length : Int) := by
  refine h.th _ ?_
  rw [List.getD_eq_getElem?_getD, List.getElem?_eq_getElem (by rw [h.eq]; exact hi)]
  exact List.getElem_mem _
theorem MayC.nx_lt (h : MayC next thrown) {i : Nat} (hi : i < next.length) : ∀ k ∈ (codeOf next thrown).nx i, k < next.length := by
  intro k hk
  rw [codeOf_nx] at hk
  obtain ⟨z, hz, rfl⟩ := List.mem_map.1 hk
  have := (h.nxAt hi).2 z hz
  omega
theorem MayC.th_lt (h : MayC next thrown) {i : Nat} (hi : i < next.length) : ∀ k ∈ (codeOf next thrown).th i, k < next.length := by
  intro k hk
  rw [codeOf_th] at hk
  obtain ⟨z, hz, rfl⟩ := List.mem_map.1 hk
  have := (h.thAt hi).2 z hz
  omega
end
/-! Maps that are sets. -/
def setF (p : Nat → Bool) : Int → Option Int := fun k => if 0 ≤ k ∧ p k.toNat = true then some 1 else none
theorem setF_get (p : Nat → Bool) (k : Nat) : (setF p (k : Int)).getD 0 = if p k = true then 1 else 0 := by
  unfold setF
  rw [Int.toNat_natCast]
  by_cases h : p k = true
  · rw [if_pos ⟨by omega, h⟩, if_pos h]; rfl
  · rw [if_neg (fun e => h e.2), if_neg h]; rfl
theorem setF_some (p : Nat → Bool) (x : Int) : (setF p x).isSome = true ↔ ∃ k : Nat, x = (k : Int) ∧ p k = true := by
  unfold setF
  by_cases h : 0 ≤ x ∧ p x.toNat = true
  · rw [if_pos h]; exact ⟨fun _ => ⟨x.toNat, by omega, h.2⟩, fun _ => rfl⟩
  · rw [if_neg h]
    refine ⟨fun e => (by cases e), ?_⟩
    rintro ⟨k, rfl, hk⟩
    exact absurd ⟨by omega, by rw [Int.toNat_natCast]; exact hk⟩ h
theorem setF_upd (p : Nat → Bool) (v : Nat) : updI (setF p) (v : Int) 1 = setF (fun x => p x || x == v) := by
  funext x
  unfold updI setF
  by_cases e : x = (v : Int)
  · subst e; simp
  · rw [if_neg e]
    by_cases h : 0 ≤ x
    · have : (x.toNat == v) = false := by simp; omega
      simp [h, this]
    · simp [h]
theorem setF_none : (fun _ => none) = setF (fun _ => false) := by funext x; simp [setF]
theorem setF_zero (c : Cod) : updI (fun _ => none) 0 1 = setF (bgTo c 0) := by
  rw [setF_none]
  have := setF_upd (fun _ => false) 0
  rw [show ((0 : Nat) : Int) = 0 from rfl] at this
  rw [this]
  congr 1
  funext x
  simp [bgTo]
/-- Where blocks begin, as far as it is told: within instruction i, q of its ways. -/
def beg1 (c : Cod) (i q x : Nat) : Bool := bgTo c i x || ((c.nx i).take q).any (fun t => t != i + 1 && t == x)
def beg2 (c : Cod) (i q x : Nat) : Bool := beg1 c i (c.nx i).length x || ((c.th i).take q).contains x
theorem beg1_zero (c : Cod) (i : Nat) : beg1 c i 0 = bgTo c i := by funext x; simp [beg1]
theorem beg1_hit {c : Cod} {i q v : Nat} (h : (c.nx i)[q]? = some v) (hv : v ≠ i + 1) : (fun x => beg1 c i q x || x == v) = beg1 c i (q + 1) := by
  funext x
  unfold beg1
  rw [List.take_add_one, h, List.any_append]
  have : (v != i + 1) = true := by simpa using hv
  simp [this, Bool.or_assoc, Bool.beq_comm]
theorem beg1_miss {c : Cod} {i q v : Nat} (h : (c.nx i)[q]? = some v) (hv : v = i + 1) : beg1 c i (q + 1) = beg1 c i q := by
  funext x
  unfold beg1
  rw [List.take_add_one, h, List.any_append]
  have : (v != i + 1) = false := by simpa using hv
  simp [this]
theorem beg2_zero (c : Cod) (i : Nat) : beg2 c i 0 = beg1 c i (c.nx i).length := by funext x; simp [beg2]
theorem beg2_step {c : Cod} {i q v : Nat} (h : (c.th i)[q]? = some v) : (fun x => beg2 c i q x || x == v) = beg2 c i (q + 1) := by
  funext x
  unfold beg2
  rw [List.take_add_one, h, Bool.or_assoc]
  congr 1
  simp only [Option.toList_some]
  rw [Bool.eq_iff_iff]
  simp
theorem beg2_all (c : Cod) (i x : Nat) : beg2 c i (c.th i).length x = (bgTo c i x || ((c.nx i).any (fun t => t != i + 1 && t == x) || (c.th i).contains x)) := by
  unfold beg2 beg1
  rw [List.take_length, List.take_length, Bool.or_assoc]
theorem bgTo_hit {c : Cod} {i : Nat} (h1 : (c.nx i == [i + 1]) = false) (h2 : i + 1 < c.n) : (fun x => beg2 c i (c.th i).length x || x == i + 1) = bgTo c (i + 1) := by
  funext x
  rw [beg2_all, bgTo_succ]
  unfold mk
  rw [h1]
  simp [h2, Bool.or_assoc]
theorem bgTo_miss {c : Cod} {i : Nat} (h : (c.nx i == [i + 1]) = true ∨ ¬ i + 1 < c.n) : beg2 c i (c.th i).length = bgTo c (i + 1) := by
  funext x
  rw [beg2_all, bgTo_succ]
  unfold mk
  rcases h with h | h
  · rw [h]; simp
  · have : decide (i + 1 < c.n) = false := by simpa using h
    rw [this]; simp
/-! The numbers. -/
def numF (c : Cod) (i : Nat) : Int → Option Int := fun k => if 0 ≤ k ∧ k.toNat < i ∧ bg c k.toNat = true then some (num c k.toNat : Int) else none
theorem numF_zero (c : Cod) : (fun _ => none) = numF c 0 := by funext k; simp [numF]
theorem numF_hit {c : Cod} {i : Nat} (h : bg c i = true) : updI (numF c i) (i : Int) ((starts c i).length : Int) = numF c (i + 1) := by
  funext k
  unfold updI numF
  by_cases e : k = (i : Int)
  · subst e; simp [h, num]
  · rw [if_neg e]
    by_cases h0 : 0 ≤ k
    · have : k.toNat < i + 1 ↔ k.toNat < i := by omega
      simp [h0, this]
    · simp [h0]
theorem numF_miss {c : Cod} {i : Nat} (h : bg c i = false) : numF c (i + 1) = numF c i := by
  funext k
  unfold numF
  by_cases e : k.toNat = i
  · simp [e, h]
  · have : k.toNat < i + 1 ↔ k.toNat < i := by omega
    simp [this]
theorem numF_get {c : Cod} {k n : Nat} (h : bg c k = true) (hk : k < n) : (numF c n (k : Int)).getD 0 = (num c k : Int) := by
  unfold numF
  rw [Int.toNat_natCast, if_pos ⟨by omega, hk, h⟩]
  rfl
/-! The blocks. -/
def outC (c : Cod) (i : Nat) : List Bk := (List.range (starts c i).length).map fun b => ⟨(fromB c b : Int), ((min (toB c b) i : Nat) : Int), [], false⟩
theorem outC_len (c : Cod) (i : Nat) : (outC c i).length = (starts c i).length := by simp [outC]
theorem outC_zero (c : Cod) : outC c 0 = [] := by simp [outC, starts]
theorem starts_pre {c : Cod} {i b : Nat} (hi : i ≤ c.n) (hb : b < (starts c i).length) : (starts c i)[b]? = some (fromB c b) := by
  obtain ⟨t, h⟩ := starts_mono c i (c.n - i)
  rw [show i + (c.n - i) = c.n by omega] at h
  unfold fromB
  rw [h, List.getD_eq_getElem?_getD, List.getElem?_append_left hb, List.getElem?_eq_getElem hb]
  rfl
theorem starts_le {c : Cod} {i : Nat} (hi : i ≤ c.n) : (starts c i).length ≤ many c := by
  obtain ⟨t, h⟩ := starts_mono c i (c.n - i)
  rw [show i + (c.n - i) = c.n by omega] at h
  unfold many
  rw [h, List.length_append]
  omega
theorem starts_len (c : Cod) (i : Nat) : (starts c i).length ≤ i := by
  unfold starts
  have := List.length_filter_le (bg c) (List.range i)
  rwa [List.length_range] at this
/-- Those not last end below i. -/
theorem to_le {c : Cod} {i b : Nat} (hi : i ≤ c.n) (hb : b + 1 < (starts c i).length) : toB c b < i := by
  have := starts_pre hi hb
  exact (mem_starts.1 (List.mem_of_getElem? this)).1
/-- The last one goes on at least to i. -/
theorem to_ge {c : Cod} {i b : Nat} (hi : i ≤ c.n) (hb : b + 1 = (starts c i).length) : i ≤ toB c b := by
  have hm := starts_le hi
  unfold toB
  by_cases h : b + 1 < many c
  · obtain ⟨t, ht⟩ := starts_mono c i (c.n - i)
    rw [show i + (c.n - i) = c.n by omega] at ht
    apply Classical.byContradiction
    intro hn
    have hlt := from_lt h
    have : fromB c (b + 1) ∈ starts c i := mem_starts.2 ⟨by omega, hlt.2.1⟩
    have hnum : num c (fromB c (b + 1)) < (starts c i).length := num_lt hlt.2.1 (by omega)
    rw [hlt.2.2] at hnum
    omega
  · rw [from_out (by omega)]; exact hi
theorem outC_hit {c : Cod} {i : Nat} (hi : i < c.n) (h : bg c i = true) : outC c (i + 1) = outC c i ++ [⟨(i : Int), ((i + 1 : Nat) : Int), [], false⟩] := by
  unfold outC
  have hl : (starts c (i + 1)).length = (starts c i).length + 1 := by rw [starts_succ, if_pos h]; simp
  rw [hl, List.range_succ, List.map_append]
  congr 1
  · refine List.map_congr_left fun b hb => ?_
    have hb' : b < (starts c i).length := List.mem_range.1 hb
    have := to_le (c := c) (i := i + 1) (b := b) (by omega) (by omega)
    rw [Nat.min_eq_left (by omega), Nat.min_eq_left (by omega)]
  · have hf : fromB c (starts c i).length = i := from_num h hi
    have := to_ge (c := c) (i := i + 1) (b := (starts c i).length) (by omega) (by omega)
    simp only [List.map_cons, List.map_nil]
    rw [Nat.min_eq_right (by omega), hf]
theorem outC_miss {c : Cod} {i : Nat} (hi : i < c.n) (h0 : 0 < (starts c i).length) (h : bg c i = false) : outC c (i + 1) = (outC c i).set ((starts c i).length - 1) ⟨(fromB c ((starts c i).length - 1) : Int), ((i + 1 : Nat) : Int), [], false⟩ := by
  unfold outC
  have hl : starts c (i + 1) = starts c i := by rw [starts_succ, h]; simp
  rw [hl]
  apply List.ext_getElem?
  intro b
  by_cases hb : b < (starts c i).length
  · rw [List.getElem?_set]
    by_cases e : (starts c i).length - 1 = b
    · rw [if_pos e, if_pos (by simp; omega), List.getElem?_map, List.getElem?_range hb, ← e]
      have := to_ge (c := c) (i := i + 1) (b := (starts c i).length - 1) (by omega) (by rw [hl]; omega)
      simp only [Option.map_some]
      rw [Nat.min_eq_right (by omega)]
    · rw [if_neg e, List.getElem?_map, List.getElem?_map, List.getElem?_range hb]
      have := to_le (c := c) (i := i) (b := b) (by omega) (by omega)
      simp only [Option.map_some]
      rw [Nat.min_eq_left (by omega), Nat.min_eq_left (by omega)]
  · rw [List.getElem?_eq_none (by simp; omega), List.getElem?_eq_none (by simp; omega)]
/-- Blocks, of some where they go on is told. -/
def outG (c : Cod) (m : Nat) : List Bk := (List.range (many c)).map fun b => ⟨(fromB c b : Int), (toB c b : Int), if b < m then ints (goes c b) else [], false⟩
theorem outG_len (c : Cod) (m : Nat) : (outG c m).length = many c := by simp [outG]
theorem outC_all (c : Cod) : outC c c.n = outG c 0 := by
  unfold outC outG
  refine List.map_congr_left fun b hb => ?_
  have hb' : b < many c := List.mem_range.1 hb
  have := (to_gt hb').2
  rw [Nat.min_eq_left this]
  simp
theorem outG_get {c : Cod} {m b : Nat} (hb : b < many c) : (outG c m).getD b zBk = ⟨(fromB c b : Int), (toB c b : Int), if b < m then ints (goes c b) else [], false⟩ := by
  simp [outG, List.getD, hb]
theorem outG_step {c : Cod} {b : Nat} : (outG c b).set b ⟨(fromB c b : Int), (toB c b : Int), ints (goes c b), false⟩ = outG c (b + 1) := by
  unfold outG
  apply List.ext_getElem?
  intro i
  by_cases hi : i < many c
  · rw [List.getElem?_set]
    by_cases e : b = i
    · subst e; simp [hi]
    · have : (i < b + 1) ↔ i < b := by omega
      simp [hi, e, this]
  · rw [List.getElem?_eq_none (by simp; omega), List.getElem?_eq_none (by simp; omega)]
/-- Where a block goes on, as far as it is told: the instructions below i, q of what i throws. -/
def got1 (c : Cod) (b i q x : Nat) : Bool := ((List.range (i - fromB c b)).any fun j => (c.th (fromB c b + j)).any fun k => x == num c k) || ((c.th i).take q).any fun k => x == num c k
def got2 (c : Cod) (b q x : Nat) : Bool := ((List.range (toB c b - fromB c b)).any fun j => (c.th (fromB c b + j)).any fun k => x == num c k) || ((c.nx (toB c b - 1)).take q).any fun k => x == num c k
theorem got1_zero (c : Cod) (b : Nat) : (fun _ => false) = got1 c b (fromB c b) 0 := by funext x; simp [got1]
theorem got1_step {c : Cod} {b i q v : Nat} (h : (c.th i)[q]? = some v) : (fun x => got1 c b i q x || x == num c v) = got1 c b i (q + 1) := by
  funext x
  unfold got1
  rw [List.take_add_one, h, List.any_append, Bool.or_assoc]
  simp
theorem got1_next {c : Cod} {b i : Nat} (h : fromB c b ≤ i) : got1 c b i (c.th i).length = got1 c b (i + 1) 0 := by
  funext x
  unfold got1
  rw [show i + 1 - fromB c b = (i - fromB c b) + 1 by omega, List.range_succ, List.any_append, List.take_length]
  simp only [List.any_cons, List.any_nil, Bool.or_false, List.take_zero]
  rw [show fromB c b + (i - fromB c b) = i by omega]
theorem got2_zero (c : Cod) (b : Nat) : got1 c b (toB c b) 0 = got2 c b 0 := by funext x; simp [got1, got2]
theorem got2_step {c : Cod} {b q v : Nat} (h : (c.nx (toB c b - 1))[q]? = some v) : (fun x => got2 c b q x || x == num c v) = got2 c b (q + 1) := by
  funext x
  unfold got2
  rw [List.take_add_one, h, List.any_append, Bool.or_assoc]
  simp
theorem got2_all {c : Cod} {b : Nat} (hb : b < many c) (hn : ∀ i, i < c.n → (∀ k ∈ c.nx i, k < c.n) ∧ ∀ k ∈ c.th i, k < c.n) (x : Nat) : got2 c b (c.nx (toB c b - 1)).length x = true ↔ x ∈ goes c b := by
  have ht := to_gt hb
  have key : ∀ k, bg c k = true → k < c.n → (x = num c k ↔ (x < many c ∧ fromB c x = k)) := by
    intro k hk hkn
    constructor
    · rintro rfl; exact ⟨num_lt hk hkn, from_num hk hkn⟩
    · rintro ⟨h1, rfl⟩; exact (from_lt h1).2.2.symm
  rw [mem_goes]
  unfold got2
  rw [List.take_length, Bool.or_eq_true, List.any_eq_true, List.any_eq_true]
  constructor
  · rintro (⟨j, hj, h⟩ | ⟨k, hk, h⟩)
    · rw [List.mem_range] at hj
      obtain ⟨k, hk, h⟩ := List.any_eq_true.1 h
      have hk2 := (hn _ (by omega)).2 k hk
      obtain ⟨h1, h2⟩ := (key k (bg_thrown (by omega) hk) hk2).1 (by simpa using h)
      exact ⟨h1, .inr ⟨fromB c b + j, by omega, by omega, by rw [h2]; exact hk⟩⟩
    · have hk2 := (hn _ (by omega)).1 k hk
      obtain ⟨h1, h2⟩ := (key k (last_bg hb hk hk2) hk2).1 (by simpa using h)
      exact ⟨h1, .inl (by rw [h2]; exact hk)⟩
  · rintro ⟨h1, h | ⟨i, h2, h3, h⟩⟩
    · right
      have hk2 := (hn _ (by omega)).1 _ h
      exact ⟨_, h, by simpa using (key _ (last_bg hb h hk2) hk2).2 ⟨h1, rfl⟩⟩
    · left
      have hk2 := (hn i (by omega)).2 _ h
      refine ⟨i - fromB c b, by rw [List.mem_range]; omega, List.any_eq_true.2 ⟨fromB c x, by rw [show fromB c b + (i - fromB c b) = i by omega]; exact h, ?_⟩⟩
      simpa using (key _ (bg_thrown (by omega) h) hk2).2 ⟨h1, rfl⟩
theorem goes_keys {c : Cod} {b : Nat} (hb : b < many c) (hn : ∀ i, i < c.n → (∀ k ∈ c.nx i, k < c.n) ∧ ∀ k ∈ c.th i, k < c.n) : (ints (goes c b)).Pairwise (· < ·) ∧ ∀ x, x ∈ ints (goes c b) ↔ (setF (got2 c b (c.nx (toB c b - 1)).length) x).isSome = true := by
  refine ⟨List.pairwise_map.2 ((goes_sorted c b).imp fun h => by omega), fun x => ?_⟩
  rw [setF_some]
  unfold ints
  rw [List.mem_map]
  constructor
  · rintro ⟨k, hk, rfl⟩; exact ⟨k, rfl, (got2_all hb hn k).2 hk⟩
  · rintro ⟨k, rfl, hk⟩; exact ⟨k, (got2_all hb hn k).1 hk, rfl⟩
/-- The blocks, whether they are reached is told of some. -/
def outS (c : Cod) (D : List Nat) : List Bk := (List.range (many c)).map fun b => ⟨(fromB c b : Int), (toB c b : Int), ints (goes c b), decide (b ∈ D)⟩
theorem outS_len (c : Cod) (D : List Nat) : (outS c D).length = many c := by simp [outS]
theorem outG_all (c : Cod) : outG c (many c) = outS c [] := by
  unfold outG outS
  refine List.map_congr_left fun b hb => ?_
  rw [if_pos (List.mem_range.1 hb)]
  simp
theorem outS_get {c : Cod} {D : List Nat} {b : Nat} (hb : b < many c) : (outS c D).getD b zBk = ⟨(fromB c b : Int), (toB c b : Int), ints (goes c b), decide (b ∈ D)⟩ := by
  simp [outS, List.getD, hb]
theorem outS_step {c : Cod} {D : List Nat} {b : Nat} : (outS c D).set b ⟨(fromB c b : Int), (toB c b : Int), ints (goes c b), true⟩ = outS c (D ++ [b]) := by
  unfold outS
  apply List.ext_getElem?
  intro i
  by_cases hi : i < many c
  · rw [List.getElem?_set]
    by_cases e : b = i
    · subst e; simp [hi]
    · simp [hi, e, Ne.symm e]
  · rw [List.getElem?_eq_none (by simp; omega), List.getElem?_eq_none (by simp; omega)]
theorem gB_outS {c : Cod} {D : List Nat} {b : Nat} (hb : b < many c) : gB (outS c D) b = goes c b := by
  unfold gB
  rw [outS_get hb]
  show (ints (goes c b)).map Int.toNat = goes c b
  unfold ints
  rw [List.map_map]
  refine (List.map_congr_left fun k _ => ?_).trans (List.map_id _)
  simp
/-- The blocks of code. -/
def blocksOf (c : Cod) : List Bk := outS c (lookS (outS c [])).done
end Go.Proofs.Ythjjkpkohhmgcaa
