/- The plain law of classes that stand above one another: steps, chains, all above; no program in sight. -/
namespace Go.Proofs.YtlihpmhnlooapaaDoor.Link

/-- One step up. -/
def Step (sup : Nat → Int) (fs : Nat → List Nat) (i j : Nat) : Prop := (j : Int) = sup i ∨ j ∈ fs i
/-- Steps up, none too. -/
inductive Reach (sup : Nat → Int) (fs : Nat → List Nat) : Nat → Nat → Prop
  | refl (i : Nat) : Reach sup fs i i
  | step {i k j : Nat} : Step sup fs i k → Reach sup fs k j → Reach sup fs i j
section
variable {sup : Nat → Int} {fs : Nat → List Nat}
theorem Reach.trans {a b c : Nat} (h : Reach sup fs a b) (k : Reach sup fs b c) : Reach sup fs a c := by
  induction h with
  | refl => exact k
  | step s _ ih => exact .step s (ih k)
theorem Reach.one {a b : Nat} (h : Step sup fs a b) : Reach sup fs a b := .step h (.refl _)
/-- One step at the least. -/
def Above (sup : Nat → Int) (fs : Nat → List Nat) (i j : Nat) : Prop := ∃ k, Step sup fs i k ∧ Reach sup fs k j
theorem Reach.cases' {a b : Nat} (h : Reach sup fs a b) : a = b ∨ Above sup fs a b := by
  cases h with
  | refl => exact .inl rfl
  | step s r => exact .inr ⟨_, s, r⟩
theorem Above.trans {a b c : Nat} (h : Above sup fs a b) (k : Reach sup fs b c) : Above sup fs a c := by
  obtain ⟨x, s, r⟩ := h
  exact ⟨x, s, r.trans k⟩
theorem Reach.above {a b c : Nat} (h : Reach sup fs a b) (k : Above sup fs b c) : Above sup fs a c := by
  obtain ⟨x, s, r⟩ := k
  cases h with
  | refl => exact ⟨x, s, r⟩
  | step s' r' => exact ⟨_, s', r'.trans (.step s r)⟩

/-- What a set has been found to be. -/
structure Good (n : Nat) (sup : Nat → Int) (fs : Nat → List Nat) (face : Nat → Bool) : Prop where
  pos : 0 < n
  sup0 : sup 0 = -1
  sup_lt : ∀ i, 0 < i → i < n → 0 ≤ sup i ∧ sup i < n
  fs_lt : ∀ i, i < n → ∀ f ∈ fs i, f < n
  up_class : ∀ i, 0 < i → i < n → face (sup i).toNat = false
  up_face : ∀ i, 0 < i → i < n → face i = true → sup i = 0
  fs_face : ∀ i, i < n → ∀ f ∈ fs i, face f = true
  fs_once : ∀ i, i < n → (fs i).Nodup
  ring : ∀ i, i < n → ¬ Above sup fs i i
variable {n : Nat} {face : Nat → Bool}

theorem Good.step_lt (G : Good n sup fs face) {i j : Nat} (hi : i < n) (h : Step sup fs i j) : j < n := by
  rcases h with h | h
  · by_cases h0 : i = 0
    · subst h0; rw [G.sup0] at h; omega
    · have := G.sup_lt i (by omega) hi; omega
  · exact G.fs_lt i hi j h
theorem Good.reach_lt (G : Good n sup fs face) {i j : Nat} (hi : i < n) (h : Reach sup fs i j) : j < n := by
  induction h with
  | refl => exact hi
  | step s _ ih => exact ih (G.step_lt hi s)
theorem Good.anti (G : Good n sup fs face) {i j : Nat} (hi : i < n) (h : Reach sup fs i j) (k : Reach sup fs j i) : i = j := by
  rcases h.cases' with h | h
  · exact h
  · exact absurd (h.trans k) (G.ring i hi)

open Classical in
/-- How many stand above. -/
noncomputable def rank (n : Nat) (sup : Nat → Int) (fs : Nat → List Nat) (i : Nat) : Nat := ((List.range n).filter fun j => decide (Above sup fs i j)).length
theorem filter_lt {α : Type} (l : List α) (p q : α → Bool) (h : ∀ x, p x = true → q x = true) (x : α) (hx : x ∈ l) (hp : p x = false) (hq : q x = true) : (l.filter p).length < (l.filter q).length := by
  induction l with
  | nil => cases hx
  | cons a l ih =>
    have hle : ∀ l : List α, (l.filter p).length ≤ (l.filter q).length := by
      intro l
      induction l with
      | nil => simp
      | cons b l ih =>
        simp only [List.filter_cons]
        cases hb : p b with
        | true => rw [h b hb]; simpa using ih
        | false =>
          cases q b with
          | true => simp; omega
          | false => simpa using ih
    simp only [List.filter_cons]
    rcases List.mem_cons.1 hx with rfl | hx
    · rw [hp, hq]
      have := hle l
      simp; omega
    · have := ih hx
      cases ha : p a with
      | true => rw [h a ha]; simpa using this
      | false =>
        cases q a with
        | true => simp; omega
        | false => simpa using this
theorem rank_le (n : Nat) (i : Nat) : rank n sup fs i ≤ n := by
  unfold rank
  exact Nat.le_trans (List.length_filter_le _ _) (by simp)
open Classical in
theorem Good.rank_lt (G : Good n sup fs face) {i j : Nat} (hi : i < n) (h : Step sup fs i j) : rank n sup fs j < rank n sup fs i := by
  unfold rank
  have hj := G.step_lt hi h
  refine filter_lt _ _ _ (fun x hx => ?_) j (by simpa using hj) ?_ ?_
  · have := of_decide_eq_true hx
    exact decide_eq_true ⟨j, h, by obtain ⟨y, s, r⟩ := this; exact .step s r⟩
  · exact decide_eq_false (G.ring j hj)
  · exact decide_eq_true ⟨j, h, .refl _⟩

/-- A class, the one above it, and so on. -/
def chainF (sup : Nat → Int) : Nat → Int → List Nat
  | 0, _ => []
  | d + 1, i => if i < 0 then [] else i.toNat :: chainF sup d (sup i.toNat)
/-- .. at a depth that is enough. -/
def chainL (n : Nat) (sup : Nat → Int) (i : Nat) : List Nat := chainF sup (n + 2) i
theorem Good.chainF_eq (G : Good n sup fs face) (d : Nat) : ∀ (d' i : Nat), i < n → rank n sup fs i + 2 ≤ d → rank n sup fs i + 2 ≤ d' → chainF sup d i = chainF sup d' i := by
  induction d with
  | zero => intro d' i _ h; omega
  | succ d ih =>
    intro d' i hi h h'
    obtain ⟨e, rfl⟩ : ∃ e, d' = e + 1 := ⟨d' - 1, by omega⟩
    simp only [chainF, Int.toNat_natCast]
    rw [if_neg (by omega), if_neg (by omega)]
    congr 1
    by_cases h0 : i = 0
    · subst h0
      rw [G.sup0]
      obtain ⟨d, rfl⟩ : ∃ x, d = x + 1 := ⟨d - 1, by omega⟩
      obtain ⟨e, rfl⟩ : ∃ x, e = x + 1 := ⟨e - 1, by omega⟩
      simp [chainF]
    · have hs := G.sup_lt i (by omega) hi
      obtain ⟨u, hu⟩ := Int.eq_ofNat_of_zero_le hs.1
      rw [hu]
      have hr := G.rank_lt hi (j := u) (.inl (by omega))
      exact ih e u (by omega) (by omega) (by omega)
theorem Good.chain_zero (G : Good n sup fs face) : chainL n sup 0 = [0] := by
  unfold chainL
  simp only [chainF]
  rw [if_neg (by omega)]
  simp [G.sup0]
theorem Good.chain_step (G : Good n sup fs face) {i : Nat} (h0 : 0 < i) (hi : i < n) : chainL n sup i = i :: chainL n sup (sup i).toNat := by
  have hs := G.sup_lt i h0 hi
  obtain ⟨u, hu⟩ := Int.eq_ofNat_of_zero_le hs.1
  rw [hu, Int.toNat_natCast]
  unfold chainL
  rw [show n + 2 = (n + 1) + 1 from rfl, chainF, if_neg (by omega), Int.toNat_natCast, hu]
  congr 1
  have h1 := G.rank_lt hi (j := u) (.inl (by omega))
  have h2 := rank_le (sup := sup) (fs := fs) n i
  exact G.chainF_eq _ _ u (by omega) (by omega) (by omega)
/-- Induction along the chain. -/
theorem Good.up_ind (G : Good n sup fs face) {P : Nat → Prop} (h0 : P 0) (hs : ∀ i, 0 < i → i < n → P (sup i).toNat → P i) : ∀ i, i < n → P i := by
  have key : ∀ d i, rank n sup fs i < d → i < n → P i := by
    intro d
    induction d with
    | zero => intro i h; omega
    | succ d ih =>
      intro i h hi
      by_cases hz : i = 0
      · subst hz; exact h0
      · have hu := G.sup_lt i (by omega) hi
        obtain ⟨u, hu'⟩ := Int.eq_ofNat_of_zero_le hu.1
        refine hs i (by omega) hi ?_
        rw [hu', Int.toNat_natCast]
        have := G.rank_lt hi (j := u) (.inl (by omega))
        exact ih u (by omega) (by omega)
  exact fun i => key (rank n sup fs i + 1) i (by omega)
theorem Good.chain_self (G : Good n sup fs face) {i : Nat} (hi : i < n) : i ∈ chainL n sup i := by
  by_cases h0 : i = 0
  · subst h0; rw [G.chain_zero]; simp
  · rw [G.chain_step (by omega) hi]; simp
theorem Good.chain_lt (G : Good n sup fs face) {i k : Nat} (hi : i < n) (h : k ∈ chainL n sup i) : k < n := by
  refine (G.up_ind (P := fun i => ∀ k, k ∈ chainL n sup i → k < n) ?_ ?_ i hi) k h
  · intro k h; rw [G.chain_zero] at h; have := G.pos; simp at h; omega
  · intro i h0 hi ih k h
    rw [G.chain_step h0 hi] at h
    rcases List.mem_cons.1 h with rfl | h
    · exact hi
    · exact ih k h
theorem Good.chain_top (G : Good n sup fs face) {i : Nat} (hi : i < n) : 0 ∈ chainL n sup i := by
  refine G.up_ind (P := fun i => 0 ∈ chainL n sup i) ?_ ?_ i hi
  · rw [G.chain_zero]; simp
  · intro i h0 hi ih
    rw [G.chain_step h0 hi]
    exact List.mem_cons_of_mem _ ih
theorem Good.chain_reach (G : Good n sup fs face) {i k : Nat} (hi : i < n) (h : k ∈ chainL n sup i) : Reach sup fs i k := by
  refine (G.up_ind (P := fun i => ∀ k, k ∈ chainL n sup i → Reach sup fs i k) ?_ ?_ i hi) k h
  · intro k h; rw [G.chain_zero] at h; simp at h; subst h; exact .refl _
  · intro i h0 hi ih k h
    rw [G.chain_step h0 hi] at h
    have hs := G.sup_lt i h0 hi
    rcases List.mem_cons.1 h with rfl | h
    · exact .refl _
    · exact .step (.inl (by omega)) (ih k h)
theorem Good.chain_up (G : Good n sup fs face) {i k j : Nat} (hi : i < n) (h : k ∈ chainL n sup i) (hj : (j : Int) = sup k) : j ∈ chainL n sup i := by
  refine (G.up_ind (P := fun i => ∀ k, k ∈ chainL n sup i → (j : Int) = sup k → j ∈ chainL n sup i) ?_ ?_ i hi) k h hj
  · intro k h hj
    rw [G.chain_zero] at h
    simp at h
    subst h
    rw [G.sup0] at hj
    omega
  · intro i h0 hi ih k h hj
    have hs := G.sup_lt i h0 hi
    rw [G.chain_step h0 hi] at h ⊢
    rcases List.mem_cons.1 h with rfl | h
    · refine List.mem_cons_of_mem _ ?_
      rw [← hj, Int.toNat_natCast]
      exact G.chain_self (by omega)
    · exact List.mem_cons_of_mem _ (ih k h hj)
/-- On a class's chain there is no interface but itself. -/
theorem Good.chain_face (G : Good n sup fs face) {i k : Nat} (hi : i < n) (h : k ∈ chainL n sup i) (hk : k ≠ i) : face k = false := by
  refine (G.up_ind (P := fun i => ∀ k, k ∈ chainL n sup i → k ≠ i → face k = false) ?_ ?_ i hi) k h hk
  · intro k h hk; rw [G.chain_zero] at h; simp at h; exact absurd h hk
  · intro i h0 hi ih k h hk
    rw [G.chain_step h0 hi] at h
    rcases List.mem_cons.1 h with rfl | h
    · exact absurd rfl hk
    · by_cases e : k = (sup i).toNat
      · subst e; exact G.up_class i h0 hi
      · exact ih k h e

/-- An interface, and all that it has, each once. -/
def addF (fs : Nat → List Nat) : Nat → List Nat → Nat → List Nat
  | 0, out, _ => out
  | d + 1, out, f => if f ∈ out then out else (fs f).foldl (addF fs d) (out ++ [f])
/-- All above a class. -/
def aboveL (n : Nat) (sup : Nat → Int) (fs : Nat → List Nat) (i : Nat) : List Nat :=
  (chainL n sup i).foldl (fun out k => (fs k).foldl (addF fs (n + 2)) out) (chainL n sup i)

/-- What an interface's adding keeps: no one but those of E lacks an interface of its own. -/
def Closed (fs : Nat → List Nat) (E : Nat → Prop) (out : List Nat) : Prop := ∀ x ∈ out, ¬ E x → ∀ g ∈ fs x, g ∈ out
theorem fold_adds (fs : Nat → List Nat) (add : List Nat → Nat → List Nat) (l : List Nat) (R : Nat → Prop) (E : Nat → Prop)
    (hadd : ∀ out g, g ∈ l → Closed fs E out → (∀ x ∈ out, x ∈ add out g) ∧ g ∈ add out g ∧ Closed fs E (add out g) ∧ (∀ x ∈ add out g, x ∈ out ∨ R x)) :
    ∀ out, Closed fs E out → (∀ x ∈ out, x ∈ l.foldl add out) ∧ (∀ g ∈ l, g ∈ l.foldl add out) ∧ Closed fs E (l.foldl add out) ∧ (∀ x ∈ l.foldl add out, x ∈ out ∨ R x) := by
  induction l with
  | nil => intro out h; exact ⟨fun x hx => hx, fun g hg => (by cases hg), h, fun x hx => .inl hx⟩
  | cons a l ih =>
    intro out h
    obtain ⟨h1, h2, h3, h4⟩ := hadd out a List.mem_cons_self h
    obtain ⟨k1, k2, k3, k4⟩ := ih (fun out g hg => hadd out g (List.mem_cons_of_mem _ hg)) (add out a) h3
    refine ⟨fun x hx => k1 x (h1 x hx), fun g hg => ?_, k3, fun x hx => ?_⟩
    · rcases List.mem_cons.1 hg with rfl | hg
      · exact k1 _ h2
      · exact k2 g hg
    · rcases k4 x hx with h | h
      · exact h4 x h
      · exact .inr h
theorem Good.addF_law (G : Good n sup fs face) (d : Nat) : ∀ (f : Nat) (out : List Nat) (E : Nat → Prop), f < n → rank n sup fs f < d → Closed fs E out →
    (∀ x ∈ out, x ∈ addF fs d out f) ∧ f ∈ addF fs d out f ∧ Closed fs E (addF fs d out f) ∧ (∀ x ∈ addF fs d out f, x ∈ out ∨ Reach sup fs f x) := by
  induction d with
  | zero => intro f out E _ h; omega
  | succ d ih =>
    intro f out E hf hr hc
    simp only [addF]
    by_cases hin : f ∈ out
    · rw [if_pos hin]
      exact ⟨fun x hx => hx, hin, hc, fun x hx => .inl hx⟩
    · rw [if_neg hin]
      have hc2 : Closed fs (fun x => E x ∨ x = f) (out ++ [f]) := by
        intro x hx hE g hg
        rcases List.mem_append.1 hx with hx | hx
        · exact List.mem_append_left _ (hc x hx (fun h => hE (.inl h)) g hg)
        · simp at hx; exact absurd (.inr hx) hE
      have key := fold_adds fs (addF fs d) (fs f) (fun x => Reach sup fs f x) (fun x => E x ∨ x = f) (fun out g hg hc => by
        have hs : Step sup fs f g := .inr hg
        obtain ⟨a1, a2, a3, a4⟩ := ih g out _ (G.step_lt hf hs) (by have := G.rank_lt hf hs; omega) hc
        exact ⟨a1, a2, a3, fun x hx => (a4 x hx).imp id (fun h => .step hs h)⟩) (out ++ [f]) hc2
      obtain ⟨k1, k2, k3, k4⟩ := key
      refine ⟨fun x hx => k1 x (List.mem_append_left _ hx), k1 f (by simp), fun x hx hE g hg => ?_, fun x hx => ?_⟩
      · by_cases e : x = f
        · subst e; exact k2 g hg
        · exact k3 x hx (fun h => h.elim hE e) g hg
      · rcases k4 x hx with h | h
        · rcases List.mem_append.1 h with h | h
          · exact .inl h
          · simp at h; subst h; exact .inr (.refl _)
        · exact .inr h
theorem Good.addF_depth (G : Good n sup fs face) (d : Nat) : ∀ (d' f : Nat) (out : List Nat), f < n → rank n sup fs f < d → rank n sup fs f < d' → addF fs d out f = addF fs d' out f := by
  induction d with
  | zero => intro d' f out _ h; omega
  | succ d ih =>
    intro d' f out hf h h'
    obtain ⟨e, rfl⟩ : ∃ e, d' = e + 1 := ⟨d' - 1, by omega⟩
    simp only [addF]
    have : ∀ (l : List Nat) (out : List Nat), (∀ g ∈ l, g ∈ fs f) → l.foldl (addF fs d) out = l.foldl (addF fs e) out := by
      intro l
      induction l with
      | nil => intro out _; rfl
      | cons g l ihl =>
        intro out hl
        have hs : Step sup fs f g := .inr (hl g List.mem_cons_self)
        have hr := G.rank_lt hf hs
        rw [List.foldl_cons, List.foldl_cons, ih e g out (G.step_lt hf hs) (by omega) (by omega)]
        exact ihl _ (fun x hx => hl x (List.mem_cons_of_mem _ hx))
    rw [this (fs f) _ (fun g h => h)]
theorem Good.mem_above (G : Good n sup fs face) {i j : Nat} (hi : i < n) : j ∈ aboveL n sup fs i ↔ Reach sup fs i j := by
  unfold aboveL
  have hadd : ∀ out g, g < n → ∀ E, Closed fs E out → (∀ x ∈ out, x ∈ addF fs (n + 2) out g) ∧ g ∈ addF fs (n + 2) out g ∧ Closed fs E (addF fs (n + 2) out g) ∧ (∀ x ∈ addF fs (n + 2) out g, x ∈ out ∨ Reach sup fs g x) :=
    fun out g hg E hc => G.addF_law (n + 2) g out E hg (by have := rank_le (sup := sup) (fs := fs) n g; omega) hc
  have inner : ∀ k, k ∈ chainL n sup i → ∀ out, Closed fs (fun x => x ∈ chainL n sup i) out →
      (∀ x ∈ out, x ∈ (fs k).foldl (addF fs (n + 2)) out) ∧ (∀ g ∈ fs k, g ∈ (fs k).foldl (addF fs (n + 2)) out) ∧ Closed fs (fun x => x ∈ chainL n sup i) ((fs k).foldl (addF fs (n + 2)) out) ∧ (∀ x ∈ (fs k).foldl (addF fs (n + 2)) out, x ∈ out ∨ Reach sup fs i x) := by
    intro k hk
    have hkn := G.chain_lt hi hk
    have hik := G.chain_reach hi hk
    exact fold_adds fs (addF fs (n + 2)) (fs k) (fun x => Reach sup fs i x) _ (fun out g hg hc => by
      have hs : Step sup fs k g := .inr hg
      obtain ⟨a1, a2, a3, a4⟩ := hadd out g (G.step_lt hkn hs) _ hc
      exact ⟨a1, a2, a3, fun x hx => (a4 x hx).imp id (fun h => hik.trans (.step hs h))⟩)
  have outer : ∀ (l : List Nat), (∀ k ∈ l, k ∈ chainL n sup i) → ∀ out, Closed fs (fun x => x ∈ chainL n sup i) out →
      (∀ x ∈ out, x ∈ l.foldl (fun out k => (fs k).foldl (addF fs (n + 2)) out) out) ∧ (∀ k ∈ l, ∀ g ∈ fs k, g ∈ l.foldl (fun out k => (fs k).foldl (addF fs (n + 2)) out) out) ∧ Closed fs (fun x => x ∈ chainL n sup i) (l.foldl (fun out k => (fs k).foldl (addF fs (n + 2)) out) out) ∧ (∀ x ∈ l.foldl (fun out k => (fs k).foldl (addF fs (n + 2)) out) out, x ∈ out ∨ Reach sup fs i x) := by
    intro l
    induction l with
    | nil => intro _ out hc; exact ⟨fun x hx => hx, fun k hk => (by cases hk), hc, fun x hx => .inl hx⟩
    | cons a l ih =>
      intro hl out hc
      obtain ⟨a1, a2, a3, a4⟩ := inner a (hl a List.mem_cons_self) out hc
      obtain ⟨b1, b2, b3, b4⟩ := ih (fun k hk => hl k (List.mem_cons_of_mem _ hk)) _ a3
      refine ⟨fun x hx => b1 x (a1 x hx), fun k hk g hg => ?_, b3, fun x hx => ?_⟩
      · rcases List.mem_cons.1 hk with rfl | hk
        · exact b1 g (a2 g hg)
        · exact b2 k hk g hg
      · rcases b4 x hx with h | h
        · exact a4 x h
        · exact .inr h
  obtain ⟨c1, c2, c3, c4⟩ := outer (chainL n sup i) (fun k h => h) (chainL n sup i) (fun x hx hE => absurd hx hE)
  constructor
  · intro h
    rcases c4 j h with h | h
    · exact G.chain_reach hi h
    · exact h
  · intro h
    have cl : ∀ a b, Step sup fs a b → a ∈ (chainL n sup i).foldl (fun out k => (fs k).foldl (addF fs (n + 2)) out) (chainL n sup i) → b ∈ (chainL n sup i).foldl (fun out k => (fs k).foldl (addF fs (n + 2)) out) (chainL n sup i) := by
      intro a b hs ha
      have hia : Reach sup fs i a := (c4 a ha).elim (G.chain_reach hi) id
      have han := G.reach_lt hi hia
      rcases hs with hs | hs
      · by_cases hch : a ∈ chainL n sup i
        · exact c1 b (G.chain_up hi hch hs)
        · -- an interface: Object stands above it
          have a0 : 0 < a := by
            rcases Nat.eq_zero_or_pos a with h | h
            · subst h; rw [G.sup0] at hs; omega
            · exact h
          have hface : face a = true := by
            have last : ∀ x y, Reach sup fs x y → x < n → x ∈ chainL n sup i ∨ face x = true → y ∈ chainL n sup i ∨ face y = true := by
              intro x y h
              induction h with
              | refl => intro _ h; exact h
              | step s r ih =>
                intro hx hd
                refine ih (G.step_lt hx s) ?_
                rcases s with s | s
                · rcases hd with hd | hd
                  · exact .inl (G.chain_up hi hd s)
                  · rename_i p q _
                    by_cases hp : p = 0
                    · subst hp; rw [G.sup0] at s; omega
                    · rw [G.up_face p (by omega) hx hd] at s
                      have : q = 0 := by omega
                      subst this
                      exact .inl (G.chain_top hi)
                · exact .inr (G.fs_face _ hx _ s)
            exact (last i a hia hi (.inl (G.chain_self hi))).resolve_left hch
          rw [G.up_face a a0 han hface] at hs
          have : b = 0 := by omega
          subst this
          exact c1 0 (G.chain_top hi)
      · by_cases hch : a ∈ chainL n sup i
        · exact c2 a hch b hs
        · exact c3 a ha hch b hs
    have all : ∀ a b, Reach sup fs a b → a ∈ (chainL n sup i).foldl (fun out k => (fs k).foldl (addF fs (n + 2)) out) (chainL n sup i) → b ∈ (chainL n sup i).foldl (fun out k => (fs k).foldl (addF fs (n + 2)) out) (chainL n sup i) := by
      intro a b h
      induction h with
      | refl => intro h; exact h
      | step s r ih => intro h; exact ih (cl _ _ s h)
    exact all i j h (c1 i (G.chain_self hi))
theorem Good.top (G : Good n sup fs face) {i : Nat} (hi : i < n) : Reach sup fs i 0 := G.chain_reach hi (G.chain_top hi)

/-- The nearest class above both. -/
def commonL (n : Nat) (sup : Nat → Int) (a b : Nat) : Int := match (chainL n sup a).find? (fun k => decide (k ∈ chainL n sup b)) with
  | some k => k
  | none => -1
theorem Good.common_some (G : Good n sup fs face) {a b : Nat} (ha : a < n) (hb : b < n) : ∃ c : Nat, commonL n sup a b = c ∧ c ∈ chainL n sup a ∧ c ∈ chainL n sup b := by
  unfold commonL
  cases h : (chainL n sup a).find? (fun k => decide (k ∈ chainL n sup b)) with
  | none =>
    have := List.find?_eq_none.1 h 0 (G.chain_top ha)
    simp at this
    exact absurd (G.chain_top hb) this
  | some c =>
    exact ⟨c, rfl, List.mem_of_find?_eq_some h, by simpa using List.find?_some h⟩
theorem Good.common_self (G : Good n sup fs face) {a : Nat} (ha : a < n) : commonL n sup a a = a := by
  unfold commonL
  have hm := G.chain_self ha
  by_cases h0 : a = 0
  · subst h0; rw [G.chain_zero]; simp
  · rw [G.chain_step (by omega) ha] at hm ⊢
    rw [List.find?_cons_of_pos (by simp)]
/-- Of two on one chain the one is on the other's. -/
theorem Good.chain_two (G : Good n sup fs face) {i a b : Nat} (hi : i < n) (ha : a ∈ chainL n sup i) (hb : b ∈ chainL n sup i) : a ∈ chainL n sup b ∨ b ∈ chainL n sup a := by
  refine (G.up_ind (P := fun i => ∀ a b, a ∈ chainL n sup i → b ∈ chainL n sup i → a ∈ chainL n sup b ∨ b ∈ chainL n sup a) ?_ ?_ i hi) a b ha hb
  · intro a b ha hb
    rw [G.chain_zero] at ha hb
    simp at ha hb
    subst ha hb
    exact .inl (G.chain_self G.pos)
  · intro i h0 hi ih a b ha hb
    have hs := G.sup_lt i h0 hi
    have ha0 := ha
    have hb0 := hb
    rw [G.chain_step h0 hi] at ha hb
    rcases List.mem_cons.1 ha with rfl | ha
    · exact .inr hb0
    · rcases List.mem_cons.1 hb with rfl | hb
      · exact .inl ha0
      · exact ih a b ha hb
theorem Good.chain_sub (G : Good n sup fs face) {i k j : Nat} (hi : i < n) (hk : k ∈ chainL n sup i) (hj : j ∈ chainL n sup k) : j ∈ chainL n sup i := by
  have hkn := G.chain_lt hi hk
  refine (G.up_ind (P := fun k => ∀ j, j ∈ chainL n sup k → k ∈ chainL n sup i → j ∈ chainL n sup i) ?_ ?_ k hkn) j hj hk
  · intro j hj hk; rw [G.chain_zero] at hj; simp at hj; subst hj; exact hk
  · intro k h0 hkn ih j hj hk
    rw [G.chain_step h0 hkn] at hj
    have hs := G.sup_lt k h0 hkn
    rcases List.mem_cons.1 hj with rfl | hj
    · exact hk
    · exact ih j hj (G.chain_up hi hk (by omega))
/-- The nearest one: of those on both chains all others stand above it. -/
theorem Good.common_least (G : Good n sup fs face) {a b c k : Nat} (ha : a < n) (hc : commonL n sup a b = c) (hk : k ∈ chainL n sup a) (hkb : k ∈ chainL n sup b) : k ∈ chainL n sup c := by
  unfold commonL at hc
  have hf : ∀ c, (chainL n sup a).find? (fun k => decide (k ∈ chainL n sup b)) = some c → k ∈ chainL n sup c := by
    refine G.up_ind (P := fun a => k ∈ chainL n sup a → ∀ c, (chainL n sup a).find? (fun k => decide (k ∈ chainL n sup b)) = some c → k ∈ chainL n sup c) ?_ ?_ a ha hk
    · intro hk c h
      rw [G.chain_zero] at hk h
      simp at hk
      subst hk
      have := List.mem_of_find?_eq_some h
      simp at this
      subst this
      rw [G.chain_zero]; simp
    · intro i h0 hi ih hk c h
      have hk0 := hk
      rw [G.chain_step h0 hi] at h hk
      by_cases hib : i ∈ chainL n sup b
      · rw [List.find?_cons_of_pos (by simpa using hib)] at h
        cases h
        exact hk0
      · rw [List.find?_cons_of_neg (by simpa using hib)] at h
        rcases List.mem_cons.1 hk with rfl | hk
        · exact absurd hkb hib
        · exact ih hk c h
  cases h : (chainL n sup a).find? (fun k => decide (k ∈ chainL n sup b)) with
  | none => rw [h] at hc; simp at hc
  | some d =>
    rw [h] at hc
    have : d = c := Int.ofNat.inj hc
    subst this
    exact hf d h
theorem Good.chain_anti (G : Good n sup fs face) {a b : Nat} (ha : a < n) (hb : b < n) (h : a ∈ chainL n sup b) (k : b ∈ chainL n sup a) : a = b := G.anti ha (G.chain_reach ha k) (G.chain_reach hb h)
theorem Good.common_turn (G : Good n sup fs face) {a b : Nat} (ha : a < n) (hb : b < n) : commonL n sup b a = commonL n sup a b := by
  obtain ⟨c, hc, c1, c2⟩ := G.common_some ha hb
  obtain ⟨d, hd, d1, d2⟩ := G.common_some hb ha
  have h1 := G.common_least ha hc d2 d1
  have h2 := G.common_least hb hd c2 c1
  have := G.chain_anti (G.chain_lt ha c1) (G.chain_lt hb d1) h2 h1
  rw [hc, hd, this]
end
end Go.Proofs.YtlihpmhnlooapaaDoor.Link
