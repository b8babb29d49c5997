/- The blocks right above, as the iteration has them: the one above both, a block's round, passes; no program in sight. -/
import Derived.Test.YthjjkpkohhmgcaaPd
import Derived.Test.YthjjkpkohhmgcaaPg
namespace Go.Proofs.Ythjjkpkohhmgcaa.Dom
open Look

/-- Order as it was looked through: places. -/
def plc (s : Lk) (x : Nat) : Nat := s.done.reverse.idxOf x
theorem plc_get {s : Lk} (hn : s.done.Nodup) {i x : Nat} (h : s.done.reverse[i]? = some x) : plc s x = i := by
  obtain ⟨hi, e⟩ := List.getElem?_eq_some_iff.1 h
  unfold plc
  rw [← e]
  have hr : s.done.reverse.Nodup := List.pairwise_reverse.2 (hn.imp (fun h => Ne.symm h))
  exact hr.idxOf_getElem i hi
theorem get_plc {s : Lk} {x : Nat} (h : x ∈ s.done) : s.done.reverse[plc s x]? = some x := by
  unfold plc
  have := List.idxOf_lt_length_of_mem (List.mem_reverse.2 h)
  rw [List.getElem?_eq_getElem this, List.getElem_idxOf]
theorem plc_lt {s : Lk} {x : Nat} (h : x ∈ s.done) : plc s x < s.done.length := by
  have := List.idxOf_lt_length_of_mem (List.mem_reverse.2 h)
  rwa [List.length_reverse] at this
theorem plc_bef {s : Lk} (hn : s.done.Nodup) {x p : Nat} (h : Bef s.done x p) : plc s p < plc s x := by
  obtain ⟨a, b, e, hx⟩ := h
  obtain ⟨c, d, rfl⟩ := List.append_of_mem hx
  have hr : s.done.reverse = b.reverse ++ [p] ++ (d.reverse ++ [x] ++ c.reverse) := by rw [e]; simp
  have h1 : s.done.reverse[b.length]? = some p := by rw [hr]; simp
  have h2 : s.done.reverse[b.length + 1 + d.length]? = some x := by
    rw [hr, List.getElem?_append_right (by simp)]
    simp [show b.length + 1 + d.length - (b.length + 1) = d.length by omega]
  rw [plc_get hn h1, plc_get hn h2]
  omega
/-- The graph of a look. -/
def graphOf {g : Nat → List Nat} {n : Nat} {s : Lk} (t : Told g n s) : Graph where
  R x := x ∈ s.done
  E a b := b ∈ g a
  pl := plc s
  root := (t.mem 0).2 .root
  pl0 := by
    obtain ⟨D, e, _⟩ := t.root
    refine plc_get t.once ?_
    rw [e]; simp
  pos b hb h0 := by
    obtain ⟨D, e, _⟩ := t.root
    refine Nat.pos_of_ne_zero fun hz => h0 ?_
    have := get_plc hb
    rw [hz, e] at this
    simpa using this.symm
  inj a b ha hb e := by
    have h1 := get_plc ha
    rw [e, get_plc hb] at h1
    exact (Option.some.inj h1).symm
  dst a b ha e := (t.mem b).2 (.step ((t.mem a).1 ha) e)
  fwd b hb h0 := by
    obtain ⟨D, e, hD⟩ := t.root
    have hbD : b ∈ D := by
      rw [e] at hb
      rcases List.mem_append.1 hb with h | h
      · exact h
      · exact absurd (by simpa using h) h0
    obtain ⟨p, h1, h2, h3⟩ := hD b hbD
    exact ⟨p, h2, h1, plc_bef t.once h3⟩
section
variable {G : Graph} {up : Nat → Option Nat} {i : Nat}
/-- What stands in the row. -/
def outV (up : Nat → Option Nat) (c : Nat) : Int := if c = 0 then 0 else match up c with | some o => (o : Int) | none => -1
theorem outV_set {c : Nat} : outV up c = -1 ↔ ¬ Set' up c := by
  unfold outV Set'
  by_cases h : c = 0
  · simp [h]
  · cases e : up c with
    | none => simp [h]
    | some o => simp [h]
theorem outV_up {c o : Nat} (e : up c = some o) (h0 : c ≠ 0) : outV up c = (o : Int) := by simp [outV, e, h0]
theorem outV_put (b o : Nat) (h0 : b ≠ 0) : outV (put up b o) = fun c => if c = b then (o : Int) else outV up c := by
  funext c
  by_cases e : c = b
  · subst e; simp [outV, put_same, h0]
  · simp [outV, put_ne _ _ e, e]
/-- The two while the one above both is looked for. -/
structure Two (G : Graph) (up : Nat → Option Nat) (a0 b0 a b : Nat) : Prop where
  Ra : G.R a
  Rb : G.R b
  Sa : Set' up a
  Sb : Set' up b
  iff : ∀ x, (Anc up x a ∧ Anc up x b) ↔ (Anc up x a0 ∧ Anc up x b0)
theorem Two.start {a b : Nat} (ha : G.R a) (hb : G.R b) (sa : Set' up a) (sb : Set' up b) : Two G up a b a b := ⟨ha, hb, sa, sb, fun _ => Iff.rfl⟩
theorem Two.left (h : Inv G up i) {a0 b0 a b : Nat} (t : Two G up a0 b0 a b) (hlt : G.pl b < G.pl a) : ∃ o, up a = some o ∧ a ≠ 0 ∧ G.pl o < G.pl a ∧ Two G up a0 b0 o b := by
  have h0 : a ≠ 0 := fun e => by subst e; rw [G.pl0] at hlt; omega
  rcases t.Sa with e | ⟨o, e⟩
  · exact absurd e h0
  · obtain ⟨_, _, h3, h4, h5⟩ := h.tree _ _ e
    refine ⟨o, e, h0, h4, h3, t.Rb, h5, t.Sb, fun x => ?_⟩
    rw [← t.iff x]
    refine ⟨fun k => ⟨.step e k.1, k.2⟩, fun k => ⟨?_, k.2⟩⟩
    rcases k.1.cases' with rfl | ⟨o', e', k'⟩
    · have := h.le t.Rb k.2
      omega
    · rw [e] at e'
      cases e'
      exact k'
theorem Two.right (h : Inv G up i) {a0 b0 a b : Nat} (t : Two G up a0 b0 a b) (hlt : G.pl a < G.pl b) : ∃ o, up b = some o ∧ b ≠ 0 ∧ G.pl o < G.pl b ∧ Two G up a0 b0 a o := by
  have t' : Two G up b0 a0 b a := ⟨t.Rb, t.Ra, t.Sb, t.Sa, fun x => by rw [And.comm, t.iff x, And.comm]⟩
  obtain ⟨o, e, h0, h1, k⟩ := t'.left h hlt
  exact ⟨o, e, h0, h1, k.Rb, k.Ra, k.Sb, k.Sa, fun x => by rw [And.comm, k.iff x, And.comm]⟩
theorem Two.done {a0 b0 a : Nat} (t : Two G up a0 b0 a a) (x : Nat) : Anc up x a ↔ (Anc up x a0 ∧ Anc up x b0) := by
  rw [← t.iff x]; simp
theorem Two.apart {a0 b0 a b : Nat} (t : Two G up a0 b0 a b) (hne : a ≠ b) : G.pl a ≠ G.pl b := fun e => hne (G.inj a b t.Ra t.Rb e)
/-- What has been found of those that go to a block. -/
def Found (G : Graph) (up : Nat → Option Nat) (ps : List Nat) (at' : Option Nat) : Prop :=
  match at' with
  | none => ∀ p ∈ ps, ¬ Set' up p
  | some r => G.R r ∧ Set' up r ∧ (∃ p ∈ ps, Set' up p) ∧ ∀ x, Anc up x r ↔ ∀ p ∈ ps, Set' up p → Anc up x p
theorem Found.start : Found G up [] none := fun p h => by cases h
theorem Found.skip {ps : List Nat} {at' : Option Nat} (h : Found G up ps at') {p : Nat} (hp : ¬ Set' up p) : Found G up (ps ++ [p]) at' := by
  cases at' with
  | none =>
    intro q hq
    rcases List.mem_append.1 hq with hq | hq
    · exact h q hq
    · simp only [List.mem_singleton] at hq; subst hq; exact hp
  | some r =>
    obtain ⟨h1, h2, ⟨q, hq, hs⟩, h3⟩ := h
    refine ⟨h1, h2, ⟨q, List.mem_append_left _ hq, hs⟩, fun x => ?_⟩
    rw [h3 x]
    refine ⟨fun k q hq hs => ?_, fun k q hq hs => k q (List.mem_append_left _ hq) hs⟩
    rcases List.mem_append.1 hq with hq | hq
    · exact k q hq hs
    · simp only [List.mem_singleton] at hq; subst hq; exact absurd hs hp
theorem Found.first {ps : List Nat} (h : Found G up ps none) {p : Nat} (hR : G.R p) (hp : Set' up p) : Found G up (ps ++ [p]) (some p) := by
  refine ⟨hR, hp, ⟨p, by simp, hp⟩, fun x => ⟨fun k q hq hs => ?_, fun k => k p (by simp) hp⟩⟩
  rcases List.mem_append.1 hq with hq | hq
  · exact absurd hs (h q hq)
  · simp only [List.mem_singleton] at hq; subst hq; exact k
theorem Found.both {ps : List Nat} {r : Nat} (h : Found G up ps (some r)) {p r' : Nat} (hp : Set' up p) (t : Two G up r p r' r') : Found G up (ps ++ [p]) (some r') := by
  obtain ⟨h1, h2, ⟨q, hq, hs⟩, h3⟩ := h
  refine ⟨t.Ra, t.Sa, ⟨q, List.mem_append_left _ hq, hs⟩, fun x => ?_⟩
  rw [t.done x, h3 x]
  refine ⟨fun k q hq hs => ?_, fun k => ⟨fun q hq hs => k q (List.mem_append_left _ hq) hs, k p (by simp) hp⟩⟩
  rcases List.mem_append.1 hq with hq | hq
  · exact k.1 q hq hs
  · simp only [List.mem_singleton] at hq; subst hq; exact k.2
theorem Found.at {ps : List Nat} {r b : Nat} (h : Found G up ps (some r)) (hps : ∀ p, p ∈ ps ↔ (G.R p ∧ G.E p b)) : At G up b r :=
  ⟨h.1, h.2.1, fun x => by rw [h.2.2.2 x]; exact ⟨fun k p h1 h2 => k p ((hps p).2 ⟨h1, h2⟩), fun k p h1 => k p ((hps p).1 h1).1 ((hps p).1 h1).2⟩⟩
theorem Found.some_ {ps : List Nat} {at' : Option Nat} {b : Nat} (h : Found G up ps at') (I : Inv G up i) (hb : G.R b) (hi : G.pl b = i) (h0 : b ≠ 0) (hps : ∀ p, p ∈ ps ↔ (G.R p ∧ G.E p b)) : ∃ r, at' = some r := by
  obtain ⟨p, h1, h2, h3⟩ := G.fwd b hb h0
  cases at' with
  | some r => exact ⟨r, rfl⟩
  | none => exact absurd (I.fill p h1 (by omega)) (h p ((hps p).2 ⟨h1, h2⟩))
theorem put_self {b r : Nat} (e : up b = some r) : put up b r = up := by
  funext c
  by_cases h : c = b
  · subst h; rw [put_same, e]
  · exact put_ne _ _ h
/-- How much there is left to go up. -/
def pot (G : Graph) (up : Nat → Option Nat) (n : Nat) : Nat := ((List.range n).map fun c => match up c with | some o => G.pl o | none => n).sum
theorem sum_lt (l : List Nat) (f g : Nat → Nat) (h : ∀ x ∈ l, f x ≤ g x) {b : Nat} (hb : b ∈ l) (hlt : f b < g b) : (l.map f).sum < (l.map g).sum := by
  have le : ∀ l : List Nat, (∀ x ∈ l, f x ≤ g x) → (l.map f).sum ≤ (l.map g).sum := by
    intro l
    induction l with
    | nil => intro _; simp
    | cons a l ih =>
      intro h
      have := h a List.mem_cons_self
      have := ih (fun x hx => h x (List.mem_cons_of_mem _ hx))
      simp only [List.map_cons, List.sum_cons]
      omega
  induction l with
  | nil => cases hb
  | cons a l ih =>
    simp only [List.map_cons, List.sum_cons]
    have ha := h a List.mem_cons_self
    rcases List.mem_cons.1 hb with rfl | hb
    · have := le l (fun x hx => h x (List.mem_cons_of_mem _ hx))
      omega
    · have := ih (fun x hx => h x (List.mem_cons_of_mem _ hx)) hb
      omega
theorem pot_lt (h : Inv G up i) {b r n : Nat} (hb : G.R b) (hi : G.pl b = i) (h0 : b ≠ 0) (A : At G up b r) (hne : up b ≠ some r) (hn : b < n) (hpl : ∀ x, G.R x → G.pl x < n) : pot G (put up b r) n < pot G up n := by
  unfold pot
  refine sum_lt _ _ _ (fun x _ => ?_) (List.mem_range.2 hn) ?_
  · by_cases e : x = b
    · subst e
      rw [put_same]
      show G.pl r ≤ _
      cases eu : up x with
      | none => exact Nat.le_of_lt (hpl r A.R)
      | some o =>
        rcases step_place h hb hi h0 A eu with rfl | hh
        · exact Nat.le_refl _
        · exact Nat.le_of_lt hh
    · rw [put_ne _ _ e]
      exact Nat.le_refl _
  · rw [put_same]
    show G.pl r < _
    cases eu : up b with
    | none => exact hpl r A.R
    | some o =>
      rcases step_place h hb hi h0 A eu with rfl | hh
      · exact absurd eu hne
      · exact hh
end
end Go.Proofs.Ythjjkpkohhmgcaa.Dom
