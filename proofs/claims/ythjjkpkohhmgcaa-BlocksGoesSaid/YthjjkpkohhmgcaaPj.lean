/- The plain law of going from block to block with a list of those still to be looked at; no program in sight. -/
import Derived.Test.YthjjkpkohhmgcaaPh
namespace Go.Proofs.Ythjjkpkohhmgcaa.Dom
open Look

/-- How many are not yet seen. -/
def nf (n : Nat) (p : Nat → Bool) : Nat := ((List.range n).filter fun i => !p i).length
theorem nf_lt {n v : Nat} {p : Nat → Bool} (hv : v < n) (hp : p v = false) : nf n (fun x => p x || x == v) < nf n p := by
  unfold nf
  refine filter_lt _ _ _ (fun x _ hx => ?_) v (by simpa using hv) ?_ ?_
  · have hx' : (!(p x || x == v)) = true := hx
    simp only [Bool.not_eq_true', Bool.or_eq_false_iff] at hx'
    simpa using hx'.1
  · show (!(p v || v == v)) = false
    simp
  · show (!p v) = true
    simp [hp]
theorem nf_le (n : Nat) (p : Nat → Bool) : nf n p ≤ n := by
  unfold nf
  have := List.length_filter_le (fun i => !p i) (List.range n)
  rwa [List.length_range] at this
def updL (g : Nat → List Nat) (b : Nat) (l : List Nat) : Nat → List Nat := fun u => if u = b then l else g u
/-- What is known while one goes: p: those seen; T: those still to be looked at; G: the ways that have been looked at. -/
structure Seen (g G : Nat → List Nat) (n x : Nat) (p : Nat → Bool) (T : List Nat) : Prop where
  sound : ∀ b, p b = true → b < n ∧ Av (fun a b => b ∈ g a) x b
  todo : ∀ b ∈ T, p b = true
  shut : ∀ u, p u = true → u ∉ T → ∀ v ∈ G u, v ≠ x → p v = true
  root : x ≠ 0 → p 0 = true
  size : T.length + nf n p ≤ n
section
variable {g : Nat → List Nat} {n x : Nat} {p : Nat → Bool} {T : List Nat}
theorem Seen.none (h0 : x = 0) : Seen g g n x (fun _ => false) [] :=
  ⟨fun _ h => (by cases h), fun _ h => (by cases h), fun _ h => (by cases h), fun h => absurd h0 h, by have := nf_le n (fun _ => false); simpa using this⟩
theorem Seen.start (h0 : x ≠ 0) (hn : 0 < n) : Seen g g n x (fun y => false || y == 0) [0] := by
  have h1 := nf_lt (n := n) (v := 0) (p := fun _ => false) hn rfl
  have h2 := nf_le n (fun _ => false)
  refine ⟨fun b hb => ?_, fun b hb => ?_, fun u hu hT => ?_, fun _ => rfl, by simp only [List.length_singleton]; omega⟩
  · have e : b = 0 := by simpa using hb
    subst e
    exact ⟨hn, .root h0⟩
  · simp only [List.mem_singleton] at hb; subst hb; rfl
  · have e : u = 0 := by simpa using hu
    subst e
    exact absurd (by simp) hT
/-- The last one is taken off. -/
theorem Seen.pop {b : Nat} (h : Seen g g n x p (T ++ [b])) : Seen g (updL g b ((g b).take 0)) n x p T ∧ p b = true ∧ b < n := by
  have hb := h.todo b (by simp)
  refine ⟨⟨h.sound, fun y hy => h.todo y (List.mem_append_left _ hy), fun u hu hT v hv => ?_, h.root, by have := h.size; simp only [List.length_append, List.length_singleton] at this; omega⟩, hb, (h.sound b hb).1⟩
  unfold updL at hv
  split at hv
  · rw [List.take_zero] at hv; cases hv
  · rename_i hne
    exact h.shut u hu (fun hm => (List.mem_append.1 hm).elim hT (fun hm => hne (by simpa using hm))) v hv
theorem Seen.miss {b q v : Nat} (h : Seen g (updL g b ((g b).take q)) n x p T) (hv : (g b)[q]? = some v) (hm : p v = true ∨ v = x) : Seen g (updL g b ((g b).take (q + 1))) n x p T := by
  refine ⟨h.sound, h.todo, fun u hu hT y hy hyx => ?_, h.root, h.size⟩
  have hs := h.shut u hu hT y
  unfold updL at hs hy
  split at hy
  · rename_i e
    rw [if_pos e] at hs
    rw [List.take_add_one, hv] at hy
    rcases List.mem_append.1 hy with hy | hy
    · exact hs hy hyx
    · simp only [Option.toList_some, List.mem_singleton] at hy
      subst hy
      exact hm.elim id (fun e => absurd e hyx)
  · rename_i e
    rw [if_neg e] at hs
    exact hs hy hyx
theorem Seen.hit {b q v : Nat} (h : Seen g (updL g b ((g b).take q)) n x p T) (hv : (g b)[q]? = some v) (hb : p b = true) (hvn : v < n) (hp : p v = false) (hx : v ≠ x) : Seen g (updL g b ((g b).take (q + 1))) n x (fun y => p y || y == v) (T ++ [v]) := by
  refine ⟨fun y hy => ?_, fun y hy => ?_, fun u hu hT y hy hyx => ?_, fun h0 => ?_, ?_⟩
  · by_cases e : y = v
    · subst e
      exact ⟨hvn, .step (h.sound b hb).2 (List.mem_of_getElem? hv) hx⟩
    · exact h.sound y (by simpa [e] using hy)
  · rcases List.mem_append.1 hy with hy | hy
    · simp [h.todo y hy]
    · simp only [List.mem_singleton] at hy; simp [hy]
  · have hnv : u ≠ v := fun e => hT (by simp [e])
    have hu' : p u = true := by simpa [hnv] using hu
    have hs := h.shut u hu' (fun hm => hT (List.mem_append_left _ hm)) y
    unfold updL at hs hy
    split at hy
    · rename_i e
      rw [if_pos e] at hs
      rw [List.take_add_one, hv] at hy
      rcases List.mem_append.1 hy with hy | hy
      · simp [hs hy hyx]
      · simp only [Option.toList_some, List.mem_singleton] at hy
        simp [hy]
    · rename_i e
      rw [if_neg e] at hs
      simp [hs hy hyx]
  · simp [h.root h0]
  · have := nf_lt hvn hp
    have := h.size
    simp only [List.length_append, List.length_singleton]
    omega
theorem Seen.done {b : Nat} (h : Seen g (updL g b ((g b).take (g b).length)) n x p T) : Seen g g n x p T := by
  refine ⟨h.sound, h.todo, fun u hu hT y hy hyx => h.shut u hu hT y ?_ hyx, h.root, h.size⟩
  unfold updL
  split
  · rename_i e; subst e; rwa [List.take_length]
  · exact hy
/-- At the end. -/
theorem Seen.all (h : Seen g g n x p []) (b : Nat) : p b = true ↔ Av (fun a b => b ∈ g a) x b := by
  refine ⟨fun hb => (h.sound b hb).2, fun ha => ?_⟩
  induction ha with
  | root h0 => exact h.root h0
  | step _ e hne ih => exact h.shut _ ih (by simp) _ e hne
end
end Go.Proofs.Ythjjkpkohhmgcaa.Dom
