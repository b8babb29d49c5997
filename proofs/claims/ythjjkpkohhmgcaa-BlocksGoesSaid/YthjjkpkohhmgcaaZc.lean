/- What the law BlocksGoes goes over: where a block goes on, and which blocks one comes to, as the loops tell it. -/
import Derived.Test.YthjjkpkohhmgcaaZa
namespace Go.Proofs.Ythjjkpkohhmgcaa
open Go.RowKit Go.Proofs.YthjjkpkohhmgcaaW.PrintWords Go.Proofs.Ythjjkpkohhmgcaa.Blk Go.Proofs.Ythjjkpkohhmgcaa.Dom

/-- Does block b go on to k, told of its instructions below i. -/
def wP (c : Cod) (b k i : Nat) : Bool := (c.nx (toB c b - 1)).contains (fromB c k) || (List.range (i - fromB c b)).any fun j => (c.th (fromB c b + j)).contains (fromB c k)
theorem wP_start (c : Cod) (b k : Nat) : wP c b k (fromB c b) = (c.nx (toB c b - 1)).contains (fromB c k) := by simp [wP]
theorem wP_step {c : Cod} {b k i : Nat} (h : fromB c b ≤ i) : wP c b k (i + 1) = (wP c b k i || (c.th i).contains (fromB c k)) := by
  unfold wP
  rw [show i + 1 - fromB c b = (i - fromB c b) + 1 by omega, List.range_succ, List.any_append, ← Bool.or_assoc, List.any_cons, List.any_nil, Bool.or_false, show fromB c b + (i - fromB c b) = i by omega]
theorem wP_all {c : Cod} {b k : Nat} (hk : k < many c) : wP c b k (toB c b) = (goes c b).contains k := by
  rw [Bool.eq_iff_iff, List.contains_iff_mem]
  unfold goes
  rw [List.mem_filter, List.mem_range]
  exact ⟨fun h => ⟨hk, h⟩, fun h => h.2⟩
theorem ints_contains (m : List Nat) (f : Nat) : (ints m).contains (f : Int) = m.contains f := by
  rw [Bool.eq_iff_iff, List.contains_iff_mem, List.contains_iff_mem]
  unfold ints
  rw [List.mem_map]
  exact ⟨fun ⟨x, hx, e⟩ => by rw [show f = x by omega]; exact hx, fun h => ⟨f, h, rfl⟩⟩
theorem nats_contains {l : List Int} {n : Nat} (hl : ∀ k ∈ l, 0 ≤ k ∧ k < (n : Int)) (f : Nat) : l.contains (f : Int) = (nats l).contains f := by
  conv => lhs; rw [← nats_ints hl]
  exact ints_contains _ f
/-- Which blocks one comes to from those below b that are reached, and from b to those below q. -/
def cgo (c : Cod) (D : List Nat) (b q x : Nat) : Bool := x == 0 || ((List.range b).any (fun j => (goes c j).contains x && D.contains j) || (decide (x < q) && ((goes c b).contains x && D.contains b)))
theorem cgo_zero (c : Cod) (D : List Nat) : (fun x => if x = 0 then true else false) = cgo c D 0 0 := by
  funext x
  unfold cgo
  by_cases h : x = 0 <;> simp [h]
theorem cgo_step {c : Cod} {D : List Nat} {b k : Nat} {z : Bool} (hz : z = (cgo c D b k k || ((goes c b).contains k && D.contains b))) : (fun x => if x = k then z else cgo c D b k x) = cgo c D b (k + 1) := by
  subst hz
  funext x
  by_cases hx : x = k
  · subst hx
    unfold cgo
    simp [Bool.or_assoc]
  · rw [if_neg hx]
    unfold cgo
    have : (x < k + 1) ↔ x < k := by omega
    simp only [this]
theorem cgo_all {c : Cod} {D : List Nat} {b : Nat} : cgo c D b (many c) = cgo c D (b + 1) 0 := by
  funext x
  unfold cgo
  rw [List.range_succ, List.any_append]
  simp only [List.any_cons, List.any_nil, Bool.or_false, Nat.not_lt_zero, decide_false, Bool.false_and]
  by_cases h : x < many c
  · rw [decide_eq_true h, Bool.true_and]
  · have : (goes c b).contains x = false := by
      rw [← Bool.not_eq_true, List.contains_iff_mem]
      exact fun hm => h (goes_lt hm)
    rw [this]
    simp only [Bool.false_and, Bool.and_false, Bool.or_false]
/-- What is reached. -/
structure GoL (c : Cod) (D : List Nat) : Prop where
  root : D.contains 0 = true
  shut : ∀ b k, b < many c → (goes c b).contains k = true → D.contains b = true → D.contains k = true
  come : ∀ b, D.contains b = true → cgo c D (many c) 0 b = true
theorem goL {next thrown : List (List Int)} (hM : MayC next thrown) : GoL (codeOf next thrown) (lookS (outS (codeOf next thrown) [])).done := by
  have hn := codeOf_n (next := next) (thrown := thrown)
  generalize codeOf next thrown = c at *
  have h0 : 0 < many c := starts_pos c (by rw [hn]; exact hM.pos)
  have h8 : many c ≤ 8192 := by have := starts_len c c.n; have := hM.few; unfold many; omega
  have may := may_outS h0 h8 []
  have T : Look.Told (gB (outS c [])) (outS c []).length (lookS (outS c [])) := Look.look_law may.lt may.pos (Nat.le_refl _)
  rw [outS_len] at T
  have TM := T.mem
  have TL := T.lt
  clear T may
  generalize (lookS (outS c [])).done = D at *
  refine ⟨?_, fun b k hb hk hD => ?_, fun b hD => ?_⟩
  · rw [List.contains_iff_mem, TM]; exact .root
  · rw [List.contains_iff_mem] at hk hD ⊢
    rw [TM] at hD ⊢
    exact .step hD (by rw [gB_outS hb]; exact hk)
  · rw [List.contains_iff_mem, TM] at hD
    unfold cgo
    cases hD with
    | root => simp
    | step h1 h2 =>
      rename_i p
      have hp := (TM p).2 h1
      have hpl := TL p hp
      rw [gB_outS hpl] at h2
      rw [Bool.or_eq_true, Bool.or_eq_true, List.any_eq_true]
      refine .inr (.inl ⟨p, List.mem_range.2 hpl, ?_⟩)
      rw [Bool.and_eq_true, List.contains_iff_mem, List.contains_iff_mem]
      exact ⟨h2, hp⟩
end Go.Proofs.Ythjjkpkohhmgcaa
