/- What the law BlocksAbove goes over: rows of whether one comes to a block without another one; the way up. -/
import Derived.Test.YthjjkpkohhmgcaaYe
namespace Go.Proofs.Ythjjkpkohhmgcaa
open Go.RowKit Go.Proofs.YthjjkpkohhmgcaaW.PrintWords Go.Proofs.Ythjjkpkohhmgcaa.Dom

theorem above_err {A : Option Addr} {c : Nat} {L : List Bk} {w : World} (hL : kB.C w A L.length L) (hb : L.length * 48 ≤ 140737488355328) (hz : checkE L ≠ 0) : Calls Try.prog 16 #[.slice A L.length c] w fun e w' => e = .returned (.tuple #[.slice none 0 0, .int .i64 (checkE L)]) ∧ Below w.heap.size w w' := by
  refine (above_any A c L w hL hb).mono ?_
  rintro e w' ⟨hB, ⟨_, rfl⟩ | ⟨hM, _⟩⟩
  · exact ⟨rfl, hB⟩
  · exact absurd ((checkE_may L).2 hM) hz
/-- Above's row: F; how it is held against the ways. -/
structure UpF (L : List Bk) (F : Nat → Int) (up : Nat → Option Nat) : Prop where
  tell : ∀ b o, up b = some o → F b = (o : Int) ∧ b ∈ (lookS L).done ∧ b ≠ 0 ∧ o ∈ (lookS L).done ∧ plc (lookS L) o < plc (lookS L) b
  bare : ∀ b, up b = none → F b = -1
  set : ∀ b, b ∈ (lookS L).done → b ≠ 0 → ∃ o, up b = some o
  anc : ∀ b x, b ∈ (lookS L).done → (Anc up x b ↔ ¬ Av (fun a b => b ∈ gB L a) x b)
theorem above_ok {A : Option Addr} {c : Nat} {L : List Bk} {w : World} (hL : kB.C w A L.length L) (hb : L.length * 48 ≤ 140737488355328) (hz : checkE L = 0) : Calls Try.prog 16 #[.slice A L.length c] w fun e w' => ∃ (g c1 : Nat) (F : Nat → Int) (up : Nat → Option Nat), e = .returned (.tuple #[.slice (some ⟨g, 0, none⟩) L.length c1, .int .i64 0]) ∧ (∀ x, x < L.length → w'.cell? ⟨g, x, none⟩ = some (.int .i64 (F x))) ∧ UpF L F up ∧ Below w.heap.size w w' := by
  refine (above_any A c L w hL hb).mono ?_
  rintro e w' ⟨hB, ⟨h, _⟩ | ⟨hM, g, c1, up, t, rfl, hc, ⟨i, hI⟩, hf⟩⟩
  · exact absurd hz h
  · refine ⟨g, c1, fun x => match up x with | some o => (o : Int) | none => -1, up, rfl, hc, ⟨fun b o e => ?_, fun b e => ?_, fun b hbd h0 => ?_, hf⟩, hB⟩
    · obtain ⟨h1, h2, h3, h4, _⟩ := hI.tree b o e
      exact ⟨by simp only [e], h1, h2, h3, h4⟩
    · simp only [e]
    · rcases ((hf b 0 hbd).2 av_zero).cases' with e | ⟨o, e, _⟩
      · exact absurd e.symm h0
      · exact ⟨o, e⟩
/-- On the way up from b: x; i steps. -/
structure Way (L : List Bk) (up : Nat → Option Nat) (d b x i : Nat) : Prop where
  R : x ∈ (lookS L).done
  iff : Anc up d b ↔ Anc up d x
  le : plc (lookS L) x + i ≤ plc (lookS L) b
section
variable {L : List Bk} {F : Nat → Int} {up : Nat → Option Nat} {d b x i : Nat}
theorem Way.start (hb : b ∈ (lookS L).done) : Way L up d b b 0 := ⟨hb, Iff.rfl, by omega⟩
theorem Way.go (h : UpF L F up) (w : Way L up d b x i) (hx : x ≠ d) (h0 : x ≠ 0) : ∃ o, up x = some o ∧ F x = (o : Int) ∧ Way L up d b o (i + 1) := by
  obtain ⟨o, e⟩ := h.set x w.R h0
  obtain ⟨h1, _, _, h4, h5⟩ := h.tell x o e
  refine ⟨o, e, h1, h4, w.iff.trans ⟨fun k => ?_, fun k => .step e k⟩, by have := w.le; omega⟩
  rcases k.cases' with e2 | ⟨o', e2, k⟩
  · exact absurd e2.symm hx
  · rw [e] at e2; cases e2; exact k
theorem Way.hit (w : Way L up d b d i) : Anc up d b := w.iff.2 (.refl _)
theorem Way.out (h : UpF L F up) (w : Way L up d b 0 i) (hd : d ≠ 0) : ¬ Anc up d b := by
  intro k
  rcases (w.iff.1 k).cases' with e | ⟨o, e, _⟩
  · exact hd e
  · exact (h.tell 0 o e).2.2.1 rfl
end
/-- The rows of which blocks one comes to without the first k, in memory. -/
structure WO (w : World) (n k : Nat) (G : Nat → Nat) (P : Nat → Nat → Bool) (v : Value) (wr : World) : Prop where
  below : Below w.heap.size w wr
  row : kRaw.R 43 wr w.heap.size (fun _ => True) v ((List.range k).map fun d => ⟨some ⟨G d, 0, none⟩, n, n⟩)
  each : ∀ d, d < k → wr.heap[G d]? = some (.cells (bRow n (P d)) 4 (0, 0))
section
variable {w wr w1 : World} {n k : Nat} {G : Nat → Nat} {P : Nat → Nat → Bool} {v : Value}
theorem WO.start (w : World) (n : Nat) (G : Nat → Nat) (P : Nat → Nat → Bool) : WO w n 0 G P (.slice none 0 0) w := ⟨Below.refl _ _, Kd.R_nil _ _ _ _ _, fun d h => by omega⟩
theorem WO.step (h : WO w n k G P v wr) (hb : Below wr.heap.size wr w1) : WO w n k G P v w1 := ⟨below_weaken h.below h.below.size hb, Kd.R_below h.row hb, fun d hd => blk_below (h.each d hd) hb⟩
theorem WO.push (h : WO w n k G P v wr) {g : Nat} {p : Nat → Bool} (hg : wr.heap[g]? = some (.cells (bRow n p) 4 (0, 0))) {v1 : Value}
    (hR : kRaw.R 43 w1 w.heap.size (fun _ => True) v1 ((List.range k).map (fun d => (⟨some ⟨G d, 0, none⟩, n, n⟩ : Sl)) ++ [⟨some ⟨g, 0, none⟩, n, n⟩])) (hB : Below w.heap.size w w1) (hG : wr.grownBy w1 v.ownBlock) :
    WO w n (k + 1) (fun d => if d = k then g else G d) (fun d => if d = k then p else P d) v1 w1 := by
  refine ⟨hB, ?_, fun d hd => ?_⟩
  · have e : (List.range (k + 1)).map (fun d => (⟨some ⟨if d = k then g else G d, 0, none⟩, n, n⟩ : Sl)) = (List.range k).map (fun d => (⟨some ⟨G d, 0, none⟩, n, n⟩ : Sl)) ++ [⟨some ⟨g, 0, none⟩, n, n⟩] := by
      rw [List.range_succ, List.map_append]
      congr 1
      · exact List.map_congr_left fun d hd => by rw [if_neg (by have := List.mem_range.1 hd; omega)]
      · simp
    rw [e]
    exact hR
  · by_cases e : d = k
    · subst e
      simp only [if_true]
      exact blk_grown hg hG (Kd.R_ne h.row hg (by decide))
    · simp only [if_neg e]
      exact blk_grown (h.each d (by omega)) hG (Kd.R_ne h.row (h.each d (by omega)) (by decide))
end
theorem infoBools : (Try.prog.info? 43).map (fun i => (i.zero, i.size, i.bytes)) = some (some (.slice none 0 0), 1, 24) := by kernel_rfl
end Go.Proofs.Ythjjkpkohhmgcaa
