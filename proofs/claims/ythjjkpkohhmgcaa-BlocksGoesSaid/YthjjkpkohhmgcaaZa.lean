/- What the laws BlocksJoin and BlocksGoes go over: Of's answer; which instructions are come to from elsewhere; a row of bools in memory. -/
import Derived.Test.YthjjkpkohhmgcaaYe
namespace Go.Proofs.Ythjjkpkohhmgcaa.Blk
def hit (c : Cod) (i k : Nat) : Bool := (c.nx i).any (fun t => t != i + 1 && t == k) || (c.th i).contains k
/-- Those below i come to k, from elsewhere than right ahead. -/
def cmTo (c : Cod) (i k : Nat) : Bool := (List.range i).any fun j => hit c j k
def cm1 (c : Cod) (i q x : Nat) : Bool := cmTo c i x || ((c.nx i).take q).any (fun t => t != i + 1 && t == x)
def cm2 (c : Cod) (i q x : Nat) : Bool := cm1 c i (c.nx i).length x || ((c.th i).take q).contains x
theorem cmTo_zero (c : Cod) : (fun _ => false) = cmTo c 0 := by funext x; simp [cmTo]
theorem cmTo_succ (c : Cod) (i k : Nat) : cmTo c (i + 1) k = (cmTo c i k || hit c i k) := by
  unfold cmTo
  rw [List.range_succ, List.any_append]
  simp
theorem cm1_zero (c : Cod) (i : Nat) : cm1 c i 0 = cmTo c i := by funext x; simp [cm1]
theorem cm1_step {c : Cod} {i q v : Nat} (h : (c.nx i)[q]? = some v) {z : Bool} (hz : z = (cm1 c i q v || v != i + 1)) : (fun x => if x = v then z else cm1 c i q x) = cm1 c i (q + 1) := by
  subst hz
  funext x
  have e : cm1 c i (q + 1) x = (cm1 c i q x || (v != i + 1 && v == x)) := by
    unfold cm1
    rw [List.take_add_one, h, List.any_append, Bool.or_assoc]
    simp
  rw [e]
  by_cases hx : x = v
  · subst hx
    simp
  · rw [if_neg hx]
    have : (v == x) = false := by simp; omega
    rw [this, Bool.and_false, Bool.or_false]
theorem cm2_zero (c : Cod) (i : Nat) : cm2 c i 0 = cm1 c i (c.nx i).length := by funext x; simp [cm2]
theorem cm2_step {c : Cod} {i q v : Nat} (h : (c.th i)[q]? = some v) : (fun x => if x = v then true else cm2 c i q x) = cm2 c i (q + 1) := by
  funext x
  have e : cm2 c i (q + 1) x = (cm2 c i q x || v == x) := by
    unfold cm2
    rw [List.take_add_one, h, Bool.or_assoc, Bool.eq_iff_iff]
    simp only [Bool.or_eq_true, List.contains_iff_mem, List.mem_append, beq_iff_eq]
    constructor
    · rintro (h | h | h)
      · exact .inl h
      · exact .inr (.inl h)
      · simp at h; exact .inr (.inr h.symm)
    · rintro (h | h | h)
      · exact .inl h
      · exact .inr (.inl h)
      · exact .inr (.inr (by simp [h]))
  rw [e]
  by_cases hx : x = v
  · subst hx; simp
  · rw [if_neg hx]
    have : (v == x) = false := by simp; omega
    rw [this, Bool.or_false]
theorem cm2_all (c : Cod) (i : Nat) : cm2 c i (c.th i).length = cmTo c (i + 1) := by
  funext x
  rw [cmTo_succ]
  unfold cm2 cm1 hit
  rw [List.take_length, List.take_length, Bool.or_assoc]
theorem cm_bg {c : Cod} {k : Nat} (h : cmTo c c.n k = true) : bg c k = true := by
  unfold cmTo at h
  obtain ⟨i, hi, h⟩ := List.any_eq_true.1 h
  have hi := List.mem_range.1 hi
  unfold hit at h
  rw [Bool.or_eq_true, List.any_eq_true] at h
  rcases h with ⟨t, ht, h⟩ | h
  · simp only [Bool.and_eq_true, bne_iff_ne, beq_iff_eq] at h
    rw [← h.2]
    exact bg_next hi ht h.1
  · exact bg_thrown hi (List.contains_iff_mem.1 h)
/-- Why a block ends: one comes to what is behind from elsewhere, or its last does not go on to that alone. -/
theorem bg_cm {c : Cod} {k : Nat} (h : bg c k = true) (h0 : 0 < k) : cmTo c c.n k = true ∨ c.nx (k - 1) ≠ [k] := by
  rcases bg_why h with e | ⟨i, hi, ⟨h1, h2⟩ | h1 | ⟨h1, _, h3⟩⟩
  · omega
  · left
    refine List.any_eq_true.2 ⟨i, List.mem_range.2 hi, ?_⟩
    unfold hit
    rw [Bool.or_eq_true, List.any_eq_true]
    exact .inl ⟨k, h1, by simp [h2]⟩
  · left
    refine List.any_eq_true.2 ⟨i, List.mem_range.2 hi, ?_⟩
    unfold hit
    rw [Bool.or_eq_true]
    exact .inr (List.contains_iff_mem.2 h1)
  · right
    rw [h1, show i + 1 - 1 = i by omega]
    exact h3
end Go.Proofs.Ythjjkpkohhmgcaa.Blk
namespace Go.Proofs.Ythjjkpkohhmgcaa
open Go.RowKit Go.Proofs.YthjjkpkohhmgcaaW.PrintWords Go.Proofs.Ythjjkpkohhmgcaa.Blk Go.Proofs.Ythjjkpkohhmgcaa.Dom

theorem of_err {A1 A2 : Option Addr} {c1 c2 : Nat} {next thrown : List (List Int)} {w : World} (h1 : kIs.C w A1 next.length next) (h2 : kIs.C w A2 thrown.length thrown) (hc2 : thrown.length ≤ c2) (hz : codeE next thrown ≠ 0) : Calls Try.prog 20 #[.slice A1 next.length c1, .slice A2 thrown.length c2] w fun e w' => e = .returned (.tuple #[.slice none 0 0, .int .i64 (codeE next thrown)]) ∧ Below w.heap.size w w' := by
  refine (of_any A1 A2 c1 c2 next thrown w h1 h2 hc2).mono ?_
  rintro e w' ⟨hB, ⟨_, rfl⟩ | ⟨hM, _⟩⟩
  · exact ⟨rfl, hB⟩
  · exact absurd ((codeE_may _ _).2 hM) hz
theorem of_ok {A1 A2 : Option Addr} {c1 c2 : Nat} {next thrown : List (List Int)} {w : World} (h1 : kIs.C w A1 next.length next) (h2 : kIs.C w A2 thrown.length thrown) (hc2 : thrown.length ≤ c2) (hz : codeE next thrown = 0) : Calls Try.prog 20 #[.slice A1 next.length c1, .slice A2 thrown.length c2] w fun e w' => ∃ A c, e = .returned (.tuple #[.slice A (many (codeOf next thrown)) c, .int .i64 0]) ∧ kB.C w' A (many (codeOf next thrown)) (blocksOf (codeOf next thrown)) ∧ Below w.heap.size w w' := by
  refine (of_any A1 A2 c1 c2 next thrown w h1 h2 hc2).mono ?_
  rintro e w' ⟨hB, ⟨h, _⟩ | ⟨hM, A, c, rfl, hC⟩⟩
  · exact absurd hz h
  · exact ⟨A, c, rfl, hC, hB⟩
theorem bRow_put {n b : Nat} (p : Nat → Bool) (z : Bool) : (bRow n p).setIfInBounds b (.bool z) = bRow n (fun x => if x = b then z else p x) := by
  apply Array.toList_inj.1
  unfold bRow
  simp only [List.setIfInBounds_toArray]
  apply List.ext_getElem?
  intro i
  by_cases hi : i < n
  · rw [List.getElem?_set]
    by_cases e : b = i
    · subst e; simp [hi]
    · simp [hi, e, Ne.symm e]
  · rw [List.getElem?_eq_none (by simp; omega), List.getElem?_eq_none (by simp; omega)]
/-- A row of bools in memory that is written, beside all that was there. -/
structure BRW (w : World) (n g : Nat) (p : Nat → Bool) (wr : World) : Prop where
  below : Below w.heap.size w wr
  row : wr.heap[g]? = some (.cells (bRow n p) 4 (0, 0))
  old : w.heap.size ≤ g
section
variable {w wr w1 : World} {n g : Nat} {p : Nat → Bool}
theorem BRW.at (h : BRW w n g p wr) {b : Nat} (hb : b < n) : wr.cell? ⟨g, b, none⟩ = some (.bool (p b)) := by rw [blk_cell h.row, bRow_get p hb]
theorem BRW.put (h : BRW w n g p wr) (b : Nat) (z : Bool) : BRW w n g (fun x => if x = b then z else p x) (wr.setCell ⟨g, b, none⟩ (.bool z)) :=
  ⟨h.below.setCell h.old _, blk_put h.row b _ (bRow_put p z), h.old⟩
theorem BRW.step (h : BRW w n g p wr) (hb : Below wr.heap.size wr w1) : BRW w n g p w1 := ⟨below_weaken h.below h.below.size hb, blk_below h.row hb, h.old⟩
theorem BRW.congr (h : BRW w n g p wr) {p' : Nat → Bool} (e : p = p') : BRW w n g p' wr := e ▸ h
theorem BRW.made (w : World) (n : Nat) : BRW w n w.heap.size (fun _ => false) (w.alloc (.cells (List.replicate n (.bool false)).toArray 4)) :=
  ⟨below_alloc (Below.refl _ _) _, by rw [bRow_false]; exact blk_new w (.cells (List.replicate n (.bool false)).toArray 4), Nat.le_refl _⟩
end
/-- A list of numbers that may be, by what they are. -/
theorem nats_inj {l : List Int} {n : Nat} (hl : ∀ k ∈ l, 0 ≤ k ∧ k < (n : Int)) {m : List Nat} (h : nats l = m) : l = ints m := by rw [← h, nats_ints hl]
end Go.Proofs.Ythjjkpkohhmgcaa
