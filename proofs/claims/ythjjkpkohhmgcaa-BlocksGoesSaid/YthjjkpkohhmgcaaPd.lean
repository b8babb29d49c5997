/- The plain law of the blocks right above: the iteration goes up alone, so it ends; where it ends it tells just what stands on all ways; no program in sight. -/
namespace Go.Proofs.Ythjjkpkohhmgcaa.Dom

/-- A graph as it was looked through: those that are reached, their places, edges among them. -/
structure Graph where
  R : Nat → Prop
  E : Nat → Nat → Prop
  pl : Nat → Nat
  root : R 0
  pl0 : pl 0 = 0
  pos : ∀ b, R b → b ≠ 0 → 0 < pl b
  inj : ∀ a b, R a → R b → pl a = pl b → a = b
  dst : ∀ a b, R a → E a b → R b
  fwd : ∀ b, R b → b ≠ 0 → ∃ p, R p ∧ E p b ∧ pl p < pl b
/-- One comes there without x. -/
inductive Av (E : Nat → Nat → Prop) (x : Nat) : Nat → Prop
  | root : x ≠ 0 → Av E x 0
  | step {p b : Nat} : Av E x p → E p b → b ≠ x → Av E x b
/-- A way, of which all between are so. -/
inductive Pth (E : Nat → Nat → Prop) (S : Nat → Prop) : Nat → Nat → Prop
  | one {a b : Nat} : E a b → Pth E S a b
  | cons {a x b : Nat} : E a x → S x → Pth E S x b → Pth E S a b
/-- It is it, or stands above it. -/
inductive Anc (up : Nat → Option Nat) : Nat → Nat → Prop
  | refl (b : Nat) : Anc up b b
  | step {x b o : Nat} : up b = some o → Anc up x o → Anc up x b
section
variable {E : Nat → Nat → Prop} {up : Nat → Option Nat}
theorem Pth.mono {S S' : Nat → Prop} (h : ∀ x, S x → S' x) {a b : Nat} (p : Pth E S a b) : Pth E S' a b := by
  induction p with
  | one e => exact .one e
  | cons e s _ ih => exact .cons e (h _ s) ih
theorem Pth.trans {S : Nat → Prop} {a b c : Nat} (p : Pth E S a b) (hb : S b) (q : Pth E S b c) : Pth E S a c := by
  induction p with
  | one e => exact .cons e hb q
  | cons e s _ ih => exact .cons e s (ih hb q)
theorem Pth.av {x a b : Nat} (p : Pth E (fun y => y ≠ x) a b) (h : Av E x a) (hb : b ≠ x) : Av E x b := by
  induction p with
  | one e => exact .step h e hb
  | cons e s _ ih => exact ih (.step h e s) hb
theorem Anc.trans {a b c : Nat} (h : Anc up a b) (k : Anc up b c) : Anc up a c := by
  induction k with
  | refl => exact h
  | step e _ ih => exact .step e ih
theorem Anc.cases' {x b : Nat} (h : Anc up x b) : x = b ∨ ∃ o, up b = some o ∧ Anc up x o := by
  cases h with
  | refl => exact .inl rfl
  | step e k => exact .inr ⟨_, e, k⟩
end
section
variable (G : Graph)
def Set' (up : Nat → Option Nat) (b : Nat) : Prop := b = 0 ∨ ∃ o, up b = some o
/-- What the iteration keeps; i: the place at which it stands. -/
structure Inv (up : Nat → Option Nat) (i : Nat) : Prop where
  tree : ∀ b o, up b = some o → G.R b ∧ b ≠ 0 ∧ G.R o ∧ G.pl o < G.pl b ∧ Set' up o
  path : ∀ b o, up b = some o → Pth G.E (fun y => G.pl o < G.pl y) o b
  doms : ∀ b, G.R b → Set' up b → ∀ x, ¬ Av G.E x b → Anc up x b
  post : ∀ b o, up b = some o → ∀ x, (∀ p, G.R p → G.E p b → Set' up p → Anc up x p) → Anc up x o
  keep : ∀ c o, up c = some o → ∀ p, G.R p → G.E p c → G.pl p < G.pl c → ∀ y, Anc up y o → (G.pl c < i ∨ i ≤ G.pl y) → Anc up y p
  fill : ∀ b, G.R b → G.pl b < i → Set' up b
variable {G}
variable {up : Nat → Option Nat} {i : Nat}
theorem Inv.anc (h : Inv G up i) {x b : Nat} (hb : G.R b) (k : Anc up x b) : G.R x ∧ (x = b ∨ G.pl x < G.pl b) := by
  induction k with
  | refl => exact ⟨hb, .inl rfl⟩
  | step e _ ih =>
    obtain ⟨h1, h2, h3, h4, _⟩ := h.tree _ _ e
    obtain ⟨i1, i2⟩ := ih h3
    refine ⟨i1, .inr ?_⟩
    rcases i2 with rfl | i2 <;> omega
theorem Inv.le (h : Inv G up i) {x b : Nat} (hb : G.R b) (k : Anc up x b) : G.pl x ≤ G.pl b := by
  rcases (h.anc hb k).2 with rfl | h <;> omega
theorem Inv.zero (h : Inv G up i) : up 0 = none := by
  cases e : up 0 with
  | none => rfl
  | some o => exact absurd rfl (h.tree _ _ e).2.1
/-- Way down, all of whose blocks stand behind. -/
theorem Inv.way (h : Inv G up i) {x b : Nat} (hb : G.R b) (k : Anc up x b) (hne : x ≠ b) : Pth G.E (fun y => G.pl x < G.pl y) x b := by
  induction k with
  | refl => exact absurd rfl hne
  | step e k ih =>
    rename_i b o
    obtain ⟨h1, h2, h3, h4, _⟩ := h.tree _ _ e
    have hp := h.path _ _ e
    by_cases hxo : x = o
    · subst hxo; exact hp
    · have hlt : G.pl x < G.pl o := by rcases (h.anc h3 k).2 with q | q <;> first | exact absurd q hxo | exact q
      exact (ih h3 hxo).trans hlt (hp.mono (fun y hy => by omega))
/-- Two above one stand one above the other. -/
theorem Inv.two (h : Inv G up i) {x y b : Nat} (hb : G.R b) (k : Anc up x b) (l : Anc up y b) (hle : G.pl x ≤ G.pl y) : Anc up x y := by
  induction k generalizing y with
  | refl =>
    rcases (h.anc hb l).2 with rfl | h2
    · exact .refl _
    · omega
  | step e k ih =>
    rename_i b o
    obtain ⟨h1, h2, h3, h4, _⟩ := h.tree _ _ e
    rcases l.cases' with rfl | ⟨o', e', l'⟩
    · exact .step e k
    · rw [e] at e'
      cases e'
      exact ih h3 l' hle
theorem Inv.root_anc (h : Inv G up i) : ∀ m b, G.pl b < m → G.R b → Set' up b → Anc up 0 b := by
  intro m
  induction m with
  | zero => intro b hb; omega
  | succ m ih =>
    intro b hb hR hs
    rcases hs with rfl | ⟨o, e⟩
    · exact .refl _
    · obtain ⟨h1, h2, h3, h4, h5⟩ := h.tree _ _ e
      exact .step e (ih o (by omega) h3 h5)
/-- What is laid at a block: the one below all that stand above all who go there. -/
structure At (G : Graph) (up : Nat → Option Nat) (b at' : Nat) : Prop where
  R : G.R at'
  set : Set' up at'
  iff : ∀ x, Anc up x at' ↔ ∀ p, G.R p → G.E p b → Set' up p → Anc up x p
def put (up : Nat → Option Nat) (b at' : Nat) : Nat → Option Nat := fun c => if c = b then some at' else up c
theorem put_same (up : Nat → Option Nat) (b at' : Nat) : put up b at' b = some at' := by simp [put]
theorem put_ne (up : Nat → Option Nat) {b c : Nat} (at' : Nat) (h : c ≠ b) : put up b at' c = up c := by simp [put, h]
section
variable {b at' : Nat} (h : Inv G up i) (hb : G.R b) (hi : G.pl b = i) (h0 : b ≠ 0) (A : At G up b at')
include h hb hi h0 A
theorem step_fwd : ∃ p, G.R p ∧ G.E p b ∧ G.pl p < G.pl b ∧ Set' up p ∧ Anc up at' p := by
  obtain ⟨p, h1, h2, h3⟩ := G.fwd b hb h0
  have hs := h.fill p h1 (by omega)
  exact ⟨p, h1, h2, h3, hs, (A.iff at').1 (.refl _) p h1 h2 hs⟩
theorem step_at : G.pl at' < G.pl b ∧ at' ≠ b := by
  obtain ⟨p, h1, h2, h3, h4, h5⟩ := step_fwd h hb hi h0 A
  have := h.le h1 h5
  exact ⟨by omega, fun e => by subst e; omega⟩
/-- Above at' nothing has changed. -/
theorem step_low {c : Nat} (hc : G.R c) (hlt : G.pl c < G.pl b) {x : Nat} : Anc (put up b at') x c ↔ Anc up x c := by
  constructor
  · intro k
    induction k with
    | refl => exact .refl _
    | step e k ih =>
      rename_i c o
      have hcb : c ≠ b := fun e => by subst e; omega
      rw [put_ne up at' hcb] at e
      obtain ⟨_, _, h3, h4, _⟩ := h.tree _ _ e
      exact .step e (ih h3 (by omega))
  · intro k
    induction k with
    | refl => exact .refl _
    | step e k ih =>
      rename_i c o
      have hcb : c ≠ b := fun e => by subst e; omega
      obtain ⟨_, _, h3, h4, _⟩ := h.tree _ _ e
      exact .step (by rw [put_ne up at' hcb]; exact e) (ih h3 (by omega))
/-- What was right above, if anything, stands below what is now. -/
theorem step_up {o : Nat} (e : up b = some o) : Anc up at' o := by
  have _u := (And.intro hb (And.intro hi h0))
  exact h.post b o e at' (fun p h1 h2 h3 => (A.iff at').1 (.refl _) p h1 h2 h3)
/-- What stands above now stood above. -/
theorem step_less {c : Nat} (hc : G.R c) (hs : Set' up c) {x : Nat} (k : Anc (put up b at') x c) : Anc up x c := by
  induction k with
  | refl => exact .refl _
  | step e k ih =>
    rename_i c o
    by_cases hcb : c = b
    · subst hcb
      rw [put_same] at e
      cases e
      have hl := (step_low h hb hi h0 A A.R (step_at h hb hi h0 A).1).1 k
      rcases hs with rfl | ⟨o, e⟩
      · exact absurd rfl h0
      · exact .step e (hl.trans (step_up h hb hi h0 A e))
    · rw [put_ne up at' hcb] at e
      obtain ⟨_, _, h3, _, h5⟩ := h.tree _ _ e
      exact .step e (ih h3 h5)
/-- What stood above stands there, but for those right above the block. -/
theorem step_more {c : Nat} (hc : G.R c) {x : Nat} (k : Anc up x c) : Anc (put up b at') x c ∨ (Anc up b c ∧ G.pl x < G.pl b ∧ Anc up x b) := by
  induction k with
  | refl => exact .inl (.refl _)
  | step e k ih =>
    rename_i c o
    obtain ⟨h1, h2, h3, h4, h5⟩ := h.tree _ _ e
    by_cases hcb : c = b
    · subst hcb
      right
      refine ⟨.refl _, ?_, .step e k⟩
      have := h.le h3 k
      omega
    · rcases ih h3 with i1 | ⟨i1, i2, i3⟩
      · exact .inl (.step (by rw [put_ne up at' hcb]; exact e) i1)
      · exact .inr ⟨.step e i1, i2, i3⟩
/-- .. and the block still stands where it stood. -/
theorem step_self {c : Nat} (hc : G.R c) (k : Anc up b c) : Anc (put up b at') b c := by
  rcases step_more h hb hi h0 A hc k with k | ⟨_, h2, _⟩
  · exact k
  · omega
theorem step_set {c : Nat} (hs : Set' up c) : Set' (put up b at') c := by
  have _u := (And.intro h h)
  rcases hs with rfl | ⟨o, e⟩
  · exact .inl rfl
  · by_cases hcb : c = b
    · subst hcb; exact .inr ⟨_, put_same _ _ _⟩
    · exact .inr ⟨o, by rw [put_ne up at' hcb]; exact e⟩
theorem step_set' {c : Nat} (hs : Set' (put up b at') c) (hcb : c ≠ b) : Set' up c := by
  have _u := (And.intro h (And.intro hb (And.intro hi (And.intro h0 A))))
  rcases hs with rfl | ⟨o, e⟩
  · exact .inl rfl
  · rw [put_ne up at' hcb] at e; exact .inr ⟨o, e⟩
/-- What stands above the block now: it, and those above at'. -/
theorem step_new {x : Nat} : Anc (put up b at') x b ↔ x = b ∨ Anc up x at' := by
  have hl := @step_low G up i b at' h hb hi h0 A at' A.R (step_at h hb hi h0 A).1 x
  constructor
  · intro k
    rcases k.cases' with e | ⟨o, e, k⟩
    · exact .inl e
    · rw [put_same] at e
      cases e
      exact .inr (hl.1 k)
  · rintro (rfl | k)
    · exact .refl _
    · exact .step (put_same _ _ _) (hl.2 k)
/-- One who stands on all ways to the block stands above at', or is the block. -/
theorem step_dom {x : Nat} (hx : ¬ Av G.E x b) : x = b ∨ Anc up x at' := by
  have _u := (And.intro hb (And.intro hi h0))
  by_cases e : x = b
  · exact .inl e
  · right
    rw [A.iff]
    intro p h1 h2 h3
    exact h.doms p h1 h3 x (fun a => hx (.step a h2 (fun hh => e hh.symm)))
theorem Inv.step : Inv G (put up b at') (i + 1) := by
  have hat := step_at h hb hi h0 A
  refine ⟨fun c o e => ?_, fun c o e => ?_, fun c hc hs x hx => ?_, fun c o e x hx => ?_, fun c o e p hp hE hlt y hy hcond => ?_, fun c hc hlt => ?_⟩
  · by_cases hcb : c = b
    · subst hcb
      rw [put_same] at e
      cases e
      exact ⟨hb, h0, A.R, hat.1, step_set h hb hi h0 A A.set⟩
    · rw [put_ne up at' hcb] at e
      obtain ⟨h1, h2, h3, h4, h5⟩ := h.tree _ _ e
      exact ⟨h1, h2, h3, h4, step_set h hb hi h0 A h5⟩
  · by_cases hcb : c = b
    · subst hcb
      rw [put_same] at e
      cases e
      obtain ⟨p, p1, p2, p3, p4, p5⟩ := step_fwd h hb hi h0 A
      by_cases hpa : at' = p
      · subst hpa; exact .one p2
      · have hw := h.way p1 p5 hpa
        have hlt : G.pl at' < G.pl p := by rcases (h.anc p1 p5).2 with e | e <;> first | exact absurd e hpa | exact e
        exact hw.trans hlt (.one p2)
    · rw [put_ne up at' hcb] at e
      exact h.path _ _ e
  · by_cases hcb : c = b
    · subst hcb
      exact (step_new h hb hi h0 A).2 (step_dom h hb hi h0 A hx)
    · have hs' := step_set' h hb hi h0 A hs hcb
      have k := h.doms c hc hs' x hx
      rcases step_more h hb hi h0 A hc k with k | ⟨k1, k2, k3⟩
      · exact k
      · have hxb : ¬ Av G.E x b := fun a => hx ((h.way hc k1 (fun e => hcb e.symm)).mono (fun y hy => by intro e; subst e; omega) |>.av a (fun e => by subst e; have := h.le hc k1; omega))
        have hxn := (step_new h hb hi h0 A).2 (step_dom h hb hi h0 A hxb)
        exact hxn.trans (step_self h hb hi h0 A hc k1)
  · by_cases hcb : c = b
    · subst hcb
      rw [put_same] at e
      cases e
      rw [step_low h hb hi h0 A A.R hat.1, A.iff]
      intro p h1 h2 h3
      by_cases hpc : p = c
      · -- who goes to itself
        subst hpc
        have k := hx p h1 h2 (step_set h hb hi h0 A h3)
        rcases h3 with rfl | ⟨o, e⟩
        · exact absurd rfl h0
        · rcases (step_new h hb hi h0 A).1 k with rfl | k
          · exact .refl _
          · exact .step e (k.trans (step_up h hb hi h0 A e))
      · exact step_less h hb hi h0 A h1 h3 (hx p h1 h2 (step_set h hb hi h0 A h3))
    · rw [put_ne up at' hcb] at e
      obtain ⟨h1, h2, h3, h4, h5⟩ := h.tree _ _ e
      by_cases hall : ∀ p, G.R p → G.E p c → Set' up p → Anc up x p
      · have k := h.post c o e x hall
        rcases step_more h hb hi h0 A h3 k with k | ⟨k1, k2, k3⟩
        · exact k
        · -- the block stands above c, so above one who goes to c ahead of it
          obtain ⟨p, p1, p2, p3⟩ := G.fwd c h1 h2
          have hob := h.le h3 k1
          have kp := h.keep c o e p p1 p2 p3 b k1 (.inr (by omega))
          have hbc : G.pl b < G.pl c := by omega
          have sp : Set' up p := by
            rcases kp.cases' with rfl | ⟨q, e, _⟩
            · rcases k3.cases' with rfl | ⟨q, e, _⟩
              · omega
              · exact .inr ⟨q, e⟩
            · exact .inr ⟨q, e⟩
          have kx := hx p p1 p2 (step_set h hb hi h0 A sp)
          -- x stands above p now; so does the block
          have kb := step_self h hb hi h0 A p1 kp
          have key : ∀ q, Anc (put up b at') b q → ∀ x, Anc (put up b at') x q → G.pl x < G.pl b → G.R q → Anc (put up b at') x b := by
            intro q kq
            induction kq with
            | refl => intro x kx _ _; exact kx
            | step e k ih =>
              rename_i q o'
              intro x kx hlt hq
              by_cases hqb : q = b
              · subst hqb; exact kx
              · rcases kx.cases' with rfl | ⟨o2, e2, kx⟩
                · exfalso
                  have e' := e
                  rw [put_ne up at' hqb] at e'
                  have t := h.tree _ _ e'
                  have hk : Anc up b o' := by
                    rcases t.2.2.2.2 with rfl | hs
                    · exact step_less h hb hi h0 A t.2.2.1 (.inl rfl) k
                    · exact step_less h hb hi h0 A t.2.2.1 (.inr hs) k
                  have := h.le t.2.2.1 hk
                  omega
                · rw [e] at e2
                  cases e2
                  have e' := e
                  rw [put_ne up at' hqb] at e'
                  exact ih x kx hlt (h.tree _ _ e').2.2.1
          have kxb := key p kb x kx k2 p1
          exact kxb.trans (step_self h hb hi h0 A h3 k1)
      · exfalso
        apply hall
        intro p h1 h2 h3
        exact step_less h hb hi h0 A h1 h3 (hx p h1 h2 (step_set h hb hi h0 A h3))
  · by_cases hcb : c = b
    · subst hcb
      rw [put_same] at e
      cases e
      rw [step_low h hb hi h0 A A.R hat.1] at hy
      rw [step_low h hb hi h0 A hp hlt]
      exact (A.iff y).1 hy p hp hE (h.fill p hp (by omega))
    · rw [put_ne up at' hcb] at e
      obtain ⟨h1, h2, h3, h4, h5⟩ := h.tree _ _ e
      have hy' := step_less h hb hi h0 A h3 h5 hy
      by_cases hci : G.pl c < i
      · have k := h.keep c o e p hp hE hlt y hy' (.inl hci)
        rwa [step_low h hb hi h0 A hp (by omega)]
      · have hcb' : G.pl c ≠ i := fun hh => hcb (G.inj c b h1 hb (by omega))
        have hyi : i + 1 ≤ G.pl y := by rcases hcond with hc | hc <;> omega
        have k := h.keep c o e p hp hE hlt y hy' (.inr (by omega))
        rcases step_more h hb hi h0 A hp k with k | ⟨_, k2, _⟩
        · exact k
        · omega
  · by_cases hcb : c = b
    · subst hcb; exact .inr ⟨_, put_same _ _ _⟩
    · have : G.pl c ≠ G.pl b := fun hh => hcb (G.inj c b hc hb hh)
      exact step_set h hb hi h0 A (h.fill c hc (by omega))
/-- What is laid stands no lower than what was there. -/
theorem step_place {o : Nat} (e : up b = some o) : at' = o ∨ G.pl at' < G.pl o := by
  obtain ⟨_, _, h3, _, _⟩ := h.tree _ _ e
  exact (h.anc h3 (step_up h hb hi h0 A e)).2
end
/-- At the start: the root alone. -/
theorem Inv.start (G : Graph) : Inv G (fun _ => none) 1 := by
  refine ⟨fun b o e => (by cases e), fun b o e => (by cases e), fun b hb hs x hx => ?_, fun b o e => (by cases e), fun b o e => (by cases e), fun b hb hlt => ?_⟩
  · rcases hs with rfl | ⟨o, e⟩
    · by_cases e : x = 0
      · subst e; exact .refl _
      · exact absurd (.root e) hx
    · cases e
  · left
    apply Classical.byContradiction
    intro h
    have := G.pos b hb h
    omega
/-- A new pass. -/
theorem Inv.again {m : Nat} (h : Inv G up m) (hm : ∀ b, G.R b → G.pl b < m) : Inv G up 1 := by
  refine ⟨h.tree, h.path, h.doms, h.post, fun c o e p hp hE hlt y hy _ => h.keep c o e p hp hE hlt y hy (.inl (hm c (h.tree _ _ e).1)), fun b hb _ => h.fill b hb (hm b hb)⟩
/-- Where nothing changes any more: just who stands on all ways. -/
theorem Inv.final (h : Inv G up i) (hset : ∀ b, G.R b → Set' up b) (hfix : ∀ b o, up b = some o → At G up b o) {b x : Nat} (hb : G.R b) : Anc up x b ↔ ¬ Av G.E x b := by
  refine ⟨fun k a => ?_, fun hx => h.doms b hb (hset b hb) x hx⟩
  induction a with
  | root hx =>
    rcases k.cases' with rfl | ⟨o, e, _⟩
    · exact hx rfl
    · rw [h.zero] at e; cases e
  | step a e hne ih =>
    rename_i p b
    rcases k.cases' with rfl | ⟨o, eo, k⟩
    · exact hne rfl
    · have hp : G.R p := by
        have key : ∀ q, Av G.E x q → G.R q := by
          intro q hq
          induction hq with
          | root _ => exact G.root
          | step _ e _ ih => exact G.dst _ _ ih e
        exact key p a
      exact ih hp (((hfix b o eo).iff x).1 k p hp e (hset p hp))
end
end Go.Proofs.Ythjjkpkohhmgcaa.Dom
