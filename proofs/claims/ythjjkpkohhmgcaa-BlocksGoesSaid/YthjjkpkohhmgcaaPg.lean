/- Looking through: how much there can be; no program in sight. -/
import Derived.Test.YthjjkpkohhmgcaaPe
namespace Go.Proofs.Ythjjkpkohhmgcaa.Look

/-- How many are not closed. -/
def nc (n : Nat) (s : Lk) : Nat := ((List.range n).filter fun x => decide (s.st x ≠ 2)).length
structure Rel (n K c : Nat) (s s' : Lk) : Prop where
  keep : ∀ x, s.st x ≠ 0 → s'.st x = s.st x
  two : (∀ x, s.st x ≤ 2) → ∀ x, s'.st x ≤ 2
  pot : s'.back.length + K * fresh n s' ≤ s.back.length + K * fresh n s + c
  sum : s'.done.length + nc n s' ≤ s.done.length + nc n s
section
variable {n K : Nat}
theorem Rel.refl (s : Lk) : Rel n K 0 s s := ⟨fun _ _ => rfl, fun h => h, Nat.le_refl _, Nat.le_refl _⟩
theorem Rel.fresh0 {c : Nat} {s s' : Lk} (h : Rel n K c s s') : fresh n s' ≤ fresh n s :=
  fresh_le fun x hx => Classical.byContradiction fun hn => hn (by rw [← h.keep x hn]; exact hx)
theorem Rel.trans {c c' : Nat} {s s' t : Lk} (h : Rel n K c s s') (k : Rel n K c' s' t) : Rel n K (c + c') s t :=
  ⟨fun x hx => by rw [k.keep x (by rw [h.keep x hx]; exact hx), h.keep x hx], fun a => k.two (h.two a), by have := h.pot; have := k.pot; omega, by have := h.sum; have := k.sum; omega⟩
theorem Rel.mono {c c' : Nat} {s s' : Lk} (h : Rel n K c s s') (hc : c ≤ c') : Rel n K c' s s' := ⟨h.keep, h.two, by have := h.pot; omega, h.sum⟩
theorem turn_rel {d : Nat} {rec' : Nat → Lk → Lk} (hr : ∀ to s, to < n → s.st to = 0 → fresh n s ≤ d → Rel n K 0 s (rec' to s)) (b : Nat) (s : Lk) (hf : fresh n s ≤ d) {to : Nat} (ht : to < n) : Rel n K 1 s (turn rec' b s to) := by
  unfold turn
  split
  · exact ⟨fun _ _ => rfl, fun h => h, by show (s.back ++ [(b, to)]).length + K * fresh n s ≤ _; simp; omega, Nat.le_refl _⟩
  · split
    · rename_i h0
      exact (hr to s ht h0 hf).mono (by omega)
    · exact (Rel.refl s).mono (by omega)
theorem fold_rel {d : Nat} {rec' : Nat → Lk → Lk} (hr : ∀ to s, to < n → s.st to = 0 → fresh n s ≤ d → Rel n K 0 s (rec' to s)) (b : Nat) : ∀ (l : List Nat) (s : Lk), (∀ v ∈ l, v < n) → fresh n s ≤ d → Rel n K l.length s (l.foldl (turn rec' b) s) := by
  intro l
  induction l with
  | nil => intro s _ _; exact Rel.refl s
  | cons a l ih =>
    intro s hl hf
    have h1 := turn_rel hr b s hf (hl a List.mem_cons_self)
    have h2 := ih (turn rec' b s a) (fun v hv => hl v (List.mem_cons_of_mem _ hv)) (by have := h1.fresh0; omega)
    rw [List.foldl_cons, List.length_cons, Nat.add_comm]
    exact h1.trans h2
theorem open_fresh {b : Nat} {s : Lk} (hb : b < n) (h0 : s.st b = 0) : fresh n (opened s b) < fresh n s := by
  refine filter_lt _ _ _ (fun x _ hx => ?_) b (by simpa using hb) ?_ ?_
  · have hx' : upd s.st b 1 x = 0 := of_decide_eq_true hx
    apply decide_eq_true
    by_cases e : x = b
    · subst e; rw [upd_same] at hx'; omega
    · rwa [upd_ne _ _ e] at hx'
  · exact decide_eq_false (by show upd s.st b 1 b ≠ 0; rw [upd_same]; decide)
  · exact decide_eq_true h0
theorem open_nc {b : Nat} {s : Lk} (h0 : s.st b = 0) : nc n (opened s b) ≤ nc n s := by
  refine filter_le _ _ _ (fun x _ hx => ?_)
  have hx' : upd s.st b 1 x ≠ 2 := of_decide_eq_true hx
  apply decide_eq_true
  by_cases e : x = b
  · subst e; omega
  · rwa [upd_ne _ _ e] at hx'
theorem close_nc {b : Nat} {s : Lk} (hb : b < n) (h1 : s.st b = 1) : nc n (closed s b) < nc n s := by
  refine filter_lt _ _ _ (fun x _ hx => ?_) b (by simpa using hb) ?_ ?_
  · have hx' : upd s.st b 2 x ≠ 2 := of_decide_eq_true hx
    apply decide_eq_true
    by_cases e : x = b
    · subst e; omega
    · rwa [upd_ne _ _ e] at hx'
  · exact decide_eq_false (by show ¬ upd s.st b 2 b ≠ 2; rw [upd_same]; decide)
  · exact decide_eq_true (by omega)
theorem close_fresh {b : Nat} {s : Lk} (h1 : s.st b = 1) : fresh n (closed s b) ≤ fresh n s := by
  refine fresh_le (fun x hx => ?_)
  have hx' : upd s.st b 2 x = 0 := hx
  by_cases e : x = b
  · subst e; rw [upd_same] at hx'; omega
  · rwa [upd_ne _ _ e] at hx'
variable {g : Nat → List Nat}
/-- In the loop of a block. -/
def mid (g : Nat → List Nat) (d b q : Nat) (s : Lk) : Lk := ((g b).take q).foldl (turn (at' g d) b) (opened s b)
theorem at_mid (d b : Nat) (s : Lk) : at' g (d + 1) b s = closed (mid g d b (g b).length s) b := by
  unfold mid
  rw [List.take_length]
  rfl
theorem mid_zero (d b : Nat) (s : Lk) : mid g d b 0 s = opened s b := rfl
theorem mid_succ {d b q : Nat} {s : Lk} {to : Nat} (h : (g b)[q]? = some to) : mid g d b (q + 1) s = turn (at' g d) b (mid g d b q s) to := by
  unfold mid
  rw [List.take_add_one, h]
  simp
theorem at_rel (hg : ∀ u, u < n → ∀ v ∈ g u, v < n) (hK : ∀ u, u < n → (g u).length ≤ K) : ∀ d b s, b < n → s.st b = 0 → fresh n s ≤ d → Rel n K 0 s (at' g d b s) := by
  intro d
  induction d with
  | zero =>
    intro b s hb h0 hf
    have := open_fresh hb h0
    omega
  | succ d ih =>
    intro b s hb h0 hf
    have ho := open_fresh (n := n) hb h0
    have hm := fold_rel (K := K) (n := n) (d := d) (rec' := at' g d) (fun to s h1 h2 h3 => ih to s h1 h2 h3) b (g b) (opened s b) (hg b hb) (by omega)
    have hsb : ((g b).foldl (turn (at' g d) b) (opened s b)).st b = 1 := by rw [hm.keep b (by simp [opened, upd_same])]; simp [opened, upd_same]
    show Rel n K 0 s (closed ((g b).foldl (turn (at' g d) b) (opened s b)) b)
    generalize (g b).foldl (turn (at' g d) b) (opened s b) = t at *
    have hn1 := open_nc (n := n) h0
    have hn2 := close_nc (n := n) hb hsb
    have hf2 := close_fresh (n := n) hsb
    refine ⟨fun x hx => ?_, fun h2 x => ?_, ?_, ?_⟩
    · have e : x ≠ b := fun e => hx (e ▸ h0)
      show upd t.st b 2 x = _
      rw [upd_ne _ _ e, hm.keep x (by show upd s.st b 1 x ≠ 0; rw [upd_ne _ _ e]; exact hx)]
      exact upd_ne _ _ e
    · show upd t.st b 2 x ≤ 2
      by_cases e : x = b
      · subst e; rw [upd_same]; exact Nat.le_refl 2
      · rw [upd_ne _ _ e]
        refine hm.two (fun y => ?_) x
        show upd s.st b 1 y ≤ 2
        by_cases e : y = b
        · subst e; rw [upd_same]; decide
        · rw [upd_ne _ _ e]; exact h2 y
    · have h1 := hm.pot
      have h3 := hK b hb
      have h4 : K * fresh n (closed t b) ≤ K * fresh n t := Nat.mul_le_mul_left _ hf2
      have h5 : K * fresh n (opened s b) + K ≤ K * fresh n s := by
        rw [← Nat.mul_succ]; exact Nat.mul_le_mul_left _ ho
      show t.back.length + K * fresh n (closed t b) ≤ _
      have : (opened s b).back.length = s.back.length := rfl
      omega
    · show (t.done ++ [b]).length + nc n (closed t b) ≤ _
      have := hm.sum
      have e : (opened s b).done.length = s.done.length := rfl
      simp
      omega
/-- So much there is at most. -/
structure Fine (n K : Nat) (s : Lk) : Prop where
  two : ∀ x, s.st x ≤ 2
  pot : s.back.length + K * fresh n s ≤ K * n
  sum : s.done.length + nc n s ≤ n
theorem Fine.start : Fine n K ⟨fun _ => 0, [], []⟩ := by
  refine ⟨fun x => by simp, ?_, ?_⟩
  · unfold fresh
    have := List.length_filter_le (fun x => decide ((⟨fun _ => 0, [], []⟩ : Lk).st x = 0)) (List.range n)
    rw [List.length_range] at this
    have := Nat.mul_le_mul_left K this
    show 0 + _ ≤ _
    omega
  · unfold nc
    have := List.length_filter_le (fun x => decide ((⟨fun _ => 0, [], []⟩ : Lk).st x ≠ 2)) (List.range n)
    rw [List.length_range] at this
    show 0 + _ ≤ _
    omega
theorem Fine.rel {s s' : Lk} (h : Fine n K s) (r : Rel n K 0 s s') : Fine n K s' := ⟨r.two h.two, by have := r.pot; have := h.pot; omega, by have := r.sum; have := h.sum; omega⟩
theorem Fine.at {s : Lk} (h : Fine n K s) (hg : ∀ u, u < n → ∀ v ∈ g u, v < n) (hK : ∀ u, u < n → (g u).length ≤ K) {d b : Nat} (hb : b < n) (h0 : s.st b = 0) (hf : fresh n s ≤ d) : Fine n K (at' g d b s) := h.rel (at_rel hg hK d b s hb h0 hf)
theorem Fine.mid {s : Lk} (h : Fine n K s) (hg : ∀ u, u < n → ∀ v ∈ g u, v < n) (hK : ∀ u, u < n → (g u).length ≤ K) {d b : Nat} (hb : b < n) (h0 : s.st b = 0) (hf : fresh n s ≤ d + 1) {q : Nat} (hq : q ≤ (g b).length) :
    Fine n K (mid g d b q s) ∧ fresh n (mid g d b q s) ≤ d ∧ (mid g d b q s).st b = 1 ∧ (q < (g b).length → (mid g d b q s).back.length + 1 ≤ K * n) ∧ (mid g d b q s).done.length + 1 ≤ n := by
  have ho := open_fresh (n := n) hb h0
  have hm := fold_rel (K := K) (n := n) (d := d) (rec' := at' g d) (fun to s h1 h2 h3 => at_rel hg hK d to s h1 h2 h3) b ((g b).take q) (opened s b) (fun v hv => hg b hb v (List.mem_of_mem_take hv)) (by omega)
  have hl : ((g b).take q).length = q := by rw [List.length_take]; omega
  rw [hl] at hm
  have hsb : (Look.mid g d b q s).st b = 1 := by unfold Look.mid; rw [hm.keep b (by simp [opened, upd_same])]; simp [opened, upd_same]
  have hff : fresh n (Look.mid g d b q s) ≤ fresh n (opened s b) := hm.fresh0
  have h5 : K * fresh n (opened s b) + K ≤ K * fresh n s := by
    rw [← Nat.mul_succ]; exact Nat.mul_le_mul_left _ ho
  have hp := hm.pot
  have e1 : (opened s b).back.length = s.back.length := rfl
  have e2 : (opened s b).done.length = s.done.length := rfl
  have hk := hK b hb
  have hpp := h.pot
  have hss := h.sum
  have hs := hm.sum
  have hn1 := open_nc (n := n) h0
  have hn2 := close_nc (n := n) hb hsb
  have e3 : Look.mid g d b q s = ((g b).take q).foldl (turn (at' g d) b) (opened s b) := rfl
  rw [← e3] at hp hs hm
  refine ⟨⟨hm.two (fun y => ?_), by omega, by omega⟩, by omega, hsb, fun hlt => ?_, by omega⟩
  · show upd s.st b 1 y ≤ 2
    by_cases e : y = b
    · subst e; rw [upd_same]; decide
    · rw [upd_ne _ _ e]; exact h.two y
  · omega
end
end Go.Proofs.Ythjjkpkohhmgcaa.Look
