/- The plain law of the blocks right above, in closed form: who is come to without another one; the row of those right above. -/
import Derived.Test.YthjjkpkohhmgcaaPh
namespace Go.Proofs.Ythjjkpkohhmgcaa.Dom
open Look

theorem Inv.up_eq {G : Graph} {up : Nat → Option Nat} {i : Nat} (h : Inv G up i) (hf : ∀ b x, G.R b → (Anc up x b ↔ ¬ Av G.E x b)) {b o : Nat} (hb : G.R b) (hne : o ≠ b) (ho : ¬ Av G.E o b) (hmax : ∀ x, x ≠ b → ¬ Av G.E x b → G.pl x ≤ G.pl o) : up b = some o := by
  rcases ((hf b o hb).2 ho).cases' with e | ⟨o', e, k⟩
  · exact absurd e hne
  · obtain ⟨_, _, h3, h4, _⟩ := h.tree _ _ e
    have hn : o' ≠ b := fun e => by subst e; omega
    have h5 := hmax o' hn ((hf b o' hb).1 (.step e (.refl _)))
    have h6 := h.le h3 k
    have h7 := (h.anc h3 k).1
    rw [e, G.inj o o' h7 h3 (by omega)]
theorem Inv.up_none {G : Graph} {up : Nat → Option Nat} {i : Nat} (h : Inv G up i) {b : Nat} (hb : ¬ G.R b) : up b = none := by
  cases e : up b with
  | none => rfl
  | some o => exact absurd (h.tree _ _ e).1 hb
section
variable {g : Nat → List Nat} {n : Nat}
/-- Ways that do not lead to x. -/
def wo (g : Nat → List Nat) (x u : Nat) : List Nat := (g u).filter fun v => v != x
theorem av_iff {x b : Nat} (hx : x ≠ 0) : Av (fun a b => b ∈ g a) x b ↔ Rc (wo g x) b := by
  constructor
  · intro h
    induction h with
    | root _ => exact .root
    | step _ e hne ih => exact .step ih (List.mem_filter.2 ⟨e, by simpa using hne⟩)
  · intro h
    induction h with
    | root => exact .root hx
    | step _ hv ih =>
      obtain ⟨h1, h2⟩ := List.mem_filter.1 hv
      exact .step ih h1 (by simpa using h2)
theorem av_zero {E : Nat → Nat → Prop} {b : Nat} : ¬ Av E 0 b := by
  intro h
  induction h with
  | root h => exact h rfl
  | step _ _ _ ih => exact ih
/-- Is b come to without x? -/
def avB (g : Nat → List Nat) (n x b : Nat) : Bool := x != 0 && (at' (wo g x) n 0 ⟨fun _ => 0, [], []⟩).done.contains b
theorem avB_iff (hg : ∀ u, u < n → ∀ v ∈ g u, v < n) (h0 : 0 < n) {x b : Nat} : avB g n x b = true ↔ Av (fun a b => b ∈ g a) x b := by
  unfold avB
  rw [Bool.and_eq_true, List.contains_iff_mem]
  by_cases hx : x = 0
  · subst hx
    exact ⟨fun h => absurd h.1 (by simp), fun h => absurd h av_zero⟩
  · have t := look_law (g := wo g x) (n := n) (d := n) (fun u hu v hv => hg u hu v (List.mem_filter.1 hv |>.1)) h0 (Nat.le_refl _)
    rw [t.mem, av_iff hx]
    exact ⟨fun h => h.2, fun h => ⟨by simpa using hx, h⟩⟩
theorem av_reach {x b : Nat} (h : Av (fun a b => b ∈ g a) x b) : Rc g b := by
  induction h with
  | root _ => exact .root
  | step _ e _ ih => exact .step ih e
theorem reach_av {x b : Nat} (h : Rc g b) (hx : ∀ y, Rc g y → y ≠ x) : Av (fun a b => b ∈ g a) x b := by
  induction h with
  | root => exact .root (fun e => hx 0 .root e.symm)
  | step h1 hv ih => exact .step ih hv (hx _ (.step h1 hv))
/-- The one right above, in closed form: of those without which it is not come to the last one in order. -/
def upC (g : Nat → List Nat) (n : Nat) (s : Lk) (b : Nat) : Option Nat := if b = 0 ∨ ¬ b ∈ s.done then none else (s.done.reverse.filter fun x => x != b && !avB g n x b).getLast?
theorem up_closed (hg : ∀ u, u < n → ∀ v ∈ g u, v < n) (h0 : 0 < n) {s : Lk} (t : Told g n s) {up : Nat → Option Nat} {i : Nat} (h : Inv (graphOf t) up i) (hf : ∀ b x, b ∈ s.done → (Anc up x b ↔ ¬ Av (fun a b => b ∈ g a) x b)) (b : Nat) : up b = upC g n s b := by
  unfold upC
  by_cases hb0 : b = 0
  · subst hb0; rw [if_pos (.inl rfl)]; exact h.zero
  by_cases hb : b ∈ s.done
  · rw [if_neg (by simp [hb0, hb])]
    have hRb : (graphOf t).R b := hb
    -- the root is one of them
    have hmem : ∀ x, x ∈ (s.done.reverse.filter fun x => x != b && !avB g n x b) ↔ x ≠ b ∧ ¬ Av (fun a b => b ∈ g a) x b := by
      intro x
      rw [List.mem_filter, List.mem_reverse, Bool.and_eq_true, Bool.not_eq_true', ← Bool.not_eq_true, avB_iff hg h0]
      constructor
      · rintro ⟨_, h1, h2⟩; exact ⟨by simpa using h1, h2⟩
      · rintro ⟨h1, h2⟩
        exact ⟨(h.anc hRb ((hf b x hb).2 h2)).1, by simpa using h1, h2⟩
    have hr := (hmem 0).2 ⟨Ne.symm hb0, av_zero⟩
    obtain ⟨o, ho⟩ : ∃ o, (s.done.reverse.filter fun x => x != b && !avB g n x b).getLast? = some o := by
      cases e : (s.done.reverse.filter fun x => x != b && !avB g n x b).getLast? with
      | some o => exact ⟨o, rfl⟩
      | none => rw [List.getLast?_eq_none_iff] at e; rw [e] at hr; cases hr
    rw [ho]
    have hom := (hmem o).1 (List.mem_of_getLast? ho)
    refine h.up_eq (fun b x hb => hf b x hb) hRb hom.1 hom.2 (fun x hx hxa => ?_)
    have hx2 := (hmem x).2 ⟨hx, hxa⟩
    -- the last one has the greatest place
    have hpw : s.done.reverse.Pairwise (fun a c => plc s a < plc s c) := by
      rw [List.pairwise_iff_getElem]
      intro i1 i2 h1 h2 hlt
      rw [plc_get t.once (List.getElem?_eq_getElem h1), plc_get t.once (List.getElem?_eq_getElem h2)]
      exact hlt
    have hpf := hpw.filter (fun x => x != b && !avB g n x b)
    obtain ⟨l, hl⟩ : ∃ l, (s.done.reverse.filter fun x => x != b && !avB g n x b) = l ++ [o] := List.getLast?_eq_some_iff.1 ho
    rw [hl] at hpf hx2
    show plc s x ≤ plc s o
    rcases List.mem_append.1 hx2 with h | h
    · exact Nat.le_of_lt ((List.pairwise_append.1 hpf).2.2 x h o (by simp))
    · rw [show x = o by simpa using h]
      exact Nat.le_refl _
  · rw [if_pos (.inr hb)]
    exact h.up_none hb
end
end Go.Proofs.Ythjjkpkohhmgcaa.Dom
