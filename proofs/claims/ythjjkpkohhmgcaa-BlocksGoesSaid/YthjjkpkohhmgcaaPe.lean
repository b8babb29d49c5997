/- The plain law of looking through blocks: who is come to, in which order they are done, which ways lead back; no program in sight. -/
namespace Go.Proofs.Ythjjkpkohhmgcaa.Look

/-- How far it has come: 0 fresh, 1 open, 2 closed. -/
structure Lk where
  st : Nat → Nat
  done : List Nat
  back : List (Nat × Nat)
def upd (f : Nat → Nat) (b v : Nat) : Nat → Nat := fun x => if x = b then v else f x
theorem upd_same (f : Nat → Nat) (b v : Nat) : upd f b v b = v := by simp [upd]
theorem upd_ne (f : Nat → Nat) {b x : Nat} (v : Nat) (h : x ≠ b) : upd f b v x = f x := by simp [upd, h]
def turn (rec' : Nat → Lk → Lk) (b : Nat) (s : Lk) (to : Nat) : Lk :=
  if s.st to = 1 then ⟨s.st, s.done, s.back ++ [(b, to)]⟩ else if s.st to = 0 then rec' to s else s
def opened (s : Lk) (b : Nat) : Lk := ⟨upd s.st b 1, s.done, s.back⟩
def closed (s : Lk) (b : Nat) : Lk := ⟨upd s.st b 2, s.done ++ [b], s.back⟩
def at' (g : Nat → List Nat) : Nat → Nat → Lk → Lk
  | 0, _, s => s
  | d + 1, b, s => closed ((g b).foldl (turn (at' g d) b) (opened s b)) b
/-- How many are fresh. -/
def fresh (n : Nat) (s : Lk) : Nat := ((List.range n).filter fun x => decide (s.st x = 0)).length
/-- v stands ahead of u. -/
def Bef (l : List Nat) (v u : Nat) : Prop := ∃ l1 l2, l = l1 ++ u :: l2 ∧ v ∈ l1
theorem Bef.more {l : List Nat} (m : List Nat) {v u : Nat} (h : Bef l v u) : Bef (l ++ m) v u := by
  obtain ⟨a, b, rfl, hv⟩ := h
  exact ⟨a, b ++ m, by simp, hv⟩
theorem Bef.less {l m : List Nat} {v u : Nat} (hn : (l ++ m).Nodup) (hu : u ∈ l) (h : Bef (l ++ m) v u) : Bef l v u := by
  obtain ⟨a, b, e, hv⟩ := h
  obtain ⟨c, d, rfl⟩ := List.append_of_mem hu
  have hn' := hn
  rw [List.append_assoc, List.cons_append] at e hn'
  have key : ∀ (c a : List Nat) (x y : List Nat), c ++ u :: x = a ++ u :: y → (c ++ u :: x).Nodup → c = a := by
    intro c
    induction c with
    | nil =>
      intro a x y e hn
      cases a with
      | nil => rfl
      | cons z a =>
        simp only [List.nil_append, List.cons_append, List.cons.injEq] at e
        obtain ⟨rfl, e⟩ := e
        rw [List.nil_append, e, List.nodup_cons] at hn
        exact absurd (by simp) hn.1
    | cons z c ih =>
      intro a x y e hn
      cases a with
      | nil =>
        simp only [List.nil_append, List.cons_append, List.cons.injEq] at e
        obtain ⟨rfl, e⟩ := e
        rw [List.cons_append, List.nodup_cons] at hn
        exact absurd (by simp) hn.1
      | cons z' a =>
        simp only [List.cons_append, List.cons.injEq] at e
        obtain ⟨rfl, e⟩ := e
        rw [List.cons_append, List.nodup_cons] at hn
        rw [ih a x y e hn.2]
  have := key c a _ _ e hn'
  subst this
  exact ⟨c, d, rfl, hv⟩
theorem Bef.last {l : List Nat} {v u : Nat} (hv : v ∈ l) : Bef (l ++ [u]) v u := ⟨l, [], by simp, hv⟩
theorem Bef.last' {l : List Nat} {v u : Nat} (hu : u ∉ l) (h : Bef (l ++ [u]) v u) : v ∈ l := by
  obtain ⟨a, b, e, hv⟩ := h
  have : ∀ (l a b : List Nat), u ∉ l → l ++ [u] = a ++ u :: b → l = a := by
    intro l
    induction l with
    | nil =>
      intro a b _ e
      cases a with
      | nil => rfl
      | cons z a => simp at e
    | cons z l ih =>
      intro a b hu e
      cases a with
      | nil => simp at e; exact absurd e.1 (fun h => hu (by simp [h]))
      | cons z' a =>
        simp only [List.cons_append, List.cons.injEq] at e
        obtain ⟨rfl, e⟩ := e
        rw [ih a b (fun h => hu (List.mem_cons_of_mem _ h)) e]
  rw [this l a b hu e]
  exact hv
/-- What always is so. -/
structure Inv (g : Nat → List Nat) (s : Lk) : Prop where
  two : ∀ x, s.st x ≤ 2
  mem : ∀ x, x ∈ s.done ↔ s.st x = 2
  once : s.done.Nodup
  shut : ∀ u ∈ s.done, ∀ v ∈ g u, s.st v ≠ 0
  back : ∀ u ∈ s.done, ∀ v ∈ g u, (u, v) ∈ s.back ↔ ¬ Bef s.done v u
  only : ∀ q ∈ s.back, q.2 ∈ g q.1 ∧ s.st q.1 ≠ 0
/-- What comes of a block, of some. -/
structure Post (g : Nat → List Nat) (Rch : Nat → Prop) (n : Nat) (s s' : Lk) : Prop where
  inv : Inv g s'
  keep : ∀ x, s.st x ≠ 0 → s'.st x = s.st x
  new : ∀ x, s.st x = 0 → s'.st x = 0 ∨ (s'.st x = 2 ∧ Rch x ∧ x < n)
  done : ∃ D, s'.done = s.done ++ D ∧ ∀ x ∈ D, s.st x = 0
theorem filter_le {α : Type} (l : List α) (p q : α → Bool) (h : ∀ x ∈ l, p x = true → q x = true) : (l.filter p).length ≤ (l.filter q).length := by
  induction l with
  | nil => simp
  | cons a l ih =>
    have ih := ih (fun x hx => h x (List.mem_cons_of_mem _ hx))
    simp only [List.filter_cons]
    cases hp : p a with
    | true => rw [h a List.mem_cons_self hp]; simpa using ih
    | false =>
      cases q a with
      | true => simp; omega
      | false => simpa using ih
theorem filter_lt {α : Type} (l : List α) (p q : α → Bool) (h : ∀ x ∈ l, p x = true → q x = true) (x : α) (hx : x ∈ l) (hp : p x = false) (hq : q x = true) : (l.filter p).length < (l.filter q).length := by
  induction l with
  | nil => cases hx
  | cons a l ih =>
    have hl := filter_le l p q (fun x hx => h x (List.mem_cons_of_mem _ hx))
    simp only [List.filter_cons]
    rcases List.mem_cons.1 hx with rfl | hx
    · rw [hp, hq]; simp; omega
    · have := ih (fun x hx => h x (List.mem_cons_of_mem _ hx)) hx
      cases ha : p a with
      | true => rw [h a List.mem_cons_self ha]; simpa using this
      | false =>
        cases q a with
        | true => simp; omega
        | false => simpa using this
theorem fresh_le {n : Nat} {s s' : Lk} (h : ∀ x, s'.st x = 0 → s.st x = 0) : fresh n s' ≤ fresh n s := filter_le _ _ _ (fun x _ hx => by simp only [decide_eq_true_eq] at hx ⊢; exact h x hx)
section
variable {g : Nat → List Nat} {Rch : Nat → Prop} {n : Nat}
theorem Post.refl {s : Lk} (h : Inv g s) : Post g Rch n s s := ⟨h, fun _ _ => rfl, fun _ h => .inl h, ⟨[], by simp, fun _ h => by cases h⟩⟩
theorem Post.fresh0 {s s' : Lk} (h : Post g Rch n s s') : ∀ x, s'.st x = 0 → s.st x = 0 := fun x hx => Classical.byContradiction fun hn => hn (by rw [← h.keep x hn]; exact hx)
theorem Post.trans {s s' t : Lk} (h : Post g Rch n s s') (k : Post g Rch n s' t) : Post g Rch n s t := by
  have hf := h.fresh0
  refine ⟨k.inv, fun x hx => ?_, fun x hx => ?_, ?_⟩
  · have := h.keep x hx
    rw [k.keep x (by rw [this]; exact hx), this]
  · rcases h.new x hx with h0 | h2
    · exact k.new x h0
    · right
      exact ⟨by rw [k.keep x (by rw [h2.1]; decide), h2.1], h2.2⟩
  · obtain ⟨D, e, hD⟩ := h.done
    obtain ⟨D', e', hD'⟩ := k.done
    exact ⟨D ++ D', by rw [e', e, List.append_assoc], fun x hx => (List.mem_append.1 hx).elim (hD x) (fun hx => hf x (hD' x hx))⟩
theorem Bef.keep {s s' : Lk} (h : Post g Rch n s s') {u v : Nat} (hu : u ∈ s.done) : Bef s'.done v u ↔ Bef s.done v u := by
  obtain ⟨D, e, _⟩ := h.done
  rw [e]
  exact ⟨Bef.less (by rw [← e]; exact h.inv.once) hu, Bef.more D⟩
/-- The loop over where a block goes on. -/
structure Run (g : Nat → List Nat) (Rch : Nat → Prop) (n : Nat) (b : Nat) (s1 : Lk) (vs : List Nat) (s : Lk) : Prop where
  post : Post g Rch n s1 s
  seen : ∀ v ∈ vs, (s.st v = 1 ∧ (b, v) ∈ s.back) ∨ (s.st v = 2 ∧ (b, v) ∉ s.back)
  mine : ∀ v, (b, v) ∈ s.back → v ∈ vs
  pred : ∀ x ∈ s.done, x ∉ s1.done → (x ∈ g b) ∨ ∃ p, x ∈ g p ∧ p ∈ s.done ∧ Bef s.done x p
  back : ∃ D, s.back = s1.back ++ D ∧ ∀ q ∈ D, s1.st q.1 = 0 ∨ q.1 = b
theorem at_law (hg : ∀ u, u < n → ∀ v ∈ g u, v < n) (hR : ∀ u, Rch u → ∀ v ∈ g u, Rch v) : ∀ d b s, b < n → Rch b → s.st b = 0 → fresh n s ≤ d → Inv g s →
    Post g Rch n s (at' g d b s) ∧ (at' g d b s).st b = 2 ∧ (∃ D, (at' g d b s).back = s.back ++ D ∧ ∀ q ∈ D, s.st q.1 = 0) ∧
      ∃ D, (at' g d b s).done = s.done ++ D ++ [b] ∧ ∀ x ∈ D, ∃ p, x ∈ g p ∧ p ∈ (at' g d b s).done ∧ Bef (at' g d b s).done x p := by
  intro d
  induction d with
  | zero =>
    intro b s hb _ h0 hf _
    exfalso
    have : b ∈ (List.range n).filter fun x => decide (s.st x = 0) := by simp [hb, h0]
    have := List.length_pos_of_mem this
    unfold fresh at hf
    omega
  | succ d ih =>
    intro b s hb hRb h0 hf hI
    have hnb : ∀ v, (b, v) ∉ s.back := fun v hv => (hI.only _ hv).2 h0
    -- opened
    have hI1 : Inv g (opened s b) := by
      refine ⟨fun x => ?_, fun x => ?_, hI.once, fun u hu v hv => ?_, hI.back, fun q hq => ⟨(hI.only q hq).1, ?_⟩⟩
      · by_cases e : x = b
        · subst e; simp only [opened, upd_same]; omega
        · simp only [opened, upd_ne _ _ e]; exact hI.two x
      · by_cases e : x = b
        · subst e
          simp only [opened, upd_same]
          exact ⟨fun hx => by rw [hI.mem] at hx; omega, fun h => by omega⟩
        · simp only [opened, upd_ne _ _ e]; exact hI.mem x
      · by_cases e : v = b
        · subst e; simp only [opened, upd_same]; decide
        · simp only [opened, upd_ne _ _ e]; exact hI.shut u hu v hv
      · by_cases e : q.1 = b
        · simp only [opened, e, upd_same]; decide
        · simp only [opened, upd_ne _ _ e]; exact (hI.only q hq).2
    have hf1 : fresh n (opened s b) < fresh n s := by
      refine filter_lt _ _ _ (fun x _ hx => ?_) b (by simpa using hb) ?_ ?_
      · have hx' : upd s.st b 1 x = 0 := of_decide_eq_true hx
        apply decide_eq_true
        by_cases e : x = b
        · subst e; rw [upd_same] at hx'; omega
        · rwa [upd_ne _ _ e] at hx'
      · exact decide_eq_false (by show upd s.st b 1 b ≠ 0; rw [upd_same]; decide)
      · exact decide_eq_true h0
    -- the loop
    have loop : ∀ ws vs, vs ++ ws = g b → ∀ t, Run g Rch n b (opened s b) vs t → Run g Rch n b (opened s b) (g b) (ws.foldl (turn (at' g d) b) t) := by
      intro ws
      induction ws with
      | nil => intro vs e t h; rw [List.append_nil] at e; rw [← e]; exact h
      | cons to ws ihl =>
        intro vs e t h
        rw [List.foldl_cons]
        have hto : to ∈ g b := by rw [← e]; simp
        have hsb : t.st b = 1 := by rw [h.post.keep b (by simp [opened, upd_same])]; simp [opened, upd_same]
        refine ihl (vs ++ [to]) (by rw [← e]; simp) _ ?_
        unfold turn
        have I := h.post.inv
        by_cases h1 : t.st to = 1
        · rw [if_pos h1]
          have hIt : Inv g ⟨t.st, t.done, t.back ++ [(b, to)]⟩ := by
            refine ⟨I.two, I.mem, I.once, I.shut, fun u hu v hv => ?_, fun q hq => ?_⟩
            · rw [← I.back u hu v hv]
              show (u, v) ∈ t.back ++ [(b, to)] ↔ _
              rw [List.mem_append]
              have hub : u ≠ b := fun e => by subst e; have := (I.mem u).1 hu; omega
              simp [hub]
            · rcases List.mem_append.1 hq with hq | hq
              · exact I.only q hq
              · simp only [List.mem_singleton] at hq
                subst hq
                exact ⟨hto, by show t.st b ≠ 0; rw [hsb]; decide⟩
          refine ⟨⟨hIt, h.post.keep, h.post.new, h.post.done⟩, fun v hv => ?_, fun v hv => ?_, h.pred, ?_⟩
          · rcases List.mem_append.1 hv with hv | hv
            · rcases h.seen v hv with ⟨a, c⟩ | ⟨a, c⟩
              · exact .inl ⟨a, List.mem_append_left _ c⟩
              · refine .inr ⟨a, fun hh => ?_⟩
                rcases List.mem_append.1 hh with hh | hh
                · exact c hh
                · simp only [List.mem_singleton, Prod.mk.injEq, true_and] at hh
                  subst hh
                  have a' : t.st v = 2 := a
                  omega
            · simp only [List.mem_singleton] at hv
              subst hv
              exact .inl ⟨h1, by simp⟩
          · rcases List.mem_append.1 hv with hv | hv
            · exact List.mem_append_left _ (h.mine v hv)
            · simp only [List.mem_singleton, Prod.mk.injEq, true_and] at hv
              subst hv
              simp
          · obtain ⟨D, eD, hD⟩ := h.back
            refine ⟨D ++ [(b, to)], by show t.back ++ [(b, to)] = _; rw [eD, List.append_assoc], fun q hq => ?_⟩
            rcases List.mem_append.1 hq with hq | hq
            · exact hD q hq
            · simp only [List.mem_singleton] at hq
              subst hq
              exact .inr rfl
        · rw [if_neg h1]
          by_cases h2 : t.st to = 0
          · rw [if_pos h2]
            have hft : fresh n t ≤ d := by
              have := fresh_le (n := n) h.post.fresh0
              omega
            obtain ⟨hP, hto2, ⟨Bk, eB, hB⟩, D, eD, hD⟩ := ih to t (hg b hb to hto) (hR b hRb to hto) h2 hft I
            have hbk : ∀ v, (b, v) ∈ (at' g d to t).back ↔ (b, v) ∈ t.back := fun v => by
              rw [eB, List.mem_append]
              refine ⟨fun hh => hh.elim id (fun hh => ?_), .inl⟩
              have := hB _ hh
              simp only [hsb] at this
              cases this
            refine ⟨h.post.trans hP, fun v hv => ?_, fun v hv => ?_, fun x hx hx1 => ?_, ?_⟩
            · rw [hbk]
              rcases List.mem_append.1 hv with hv | hv
              · rcases h.seen v hv with ⟨a, c⟩ | ⟨a, c⟩
                · exact .inl ⟨by rw [hP.keep v (by omega)]; exact a, c⟩
                · exact .inr ⟨by rw [hP.keep v (by omega)]; exact a, c⟩
              · simp only [List.mem_singleton] at hv
                subst hv
                refine .inr ⟨hto2, fun hh => ?_⟩
                rcases h.seen v (h.mine v hh) with ⟨a, _⟩ | ⟨a, _⟩ <;> omega
            · rw [hbk] at hv
              exact List.mem_append_left _ (h.mine v hv)
            · rw [eD] at hx
              rcases List.mem_append.1 hx with hx | hx
              · rcases List.mem_append.1 hx with hx | hx
                · rcases h.pred x hx hx1 with hp | ⟨p, p1, p2, p3⟩
                  · exact .inl hp
                  · refine .inr ⟨p, p1, by rw [eD]; simp [p2], (Bef.keep hP p2).2 p3⟩
                · exact .inr (hD x hx)
              · simp only [List.mem_singleton] at hx
                subst hx
                exact .inl hto
            · obtain ⟨D0, e0, hD0⟩ := h.back
              refine ⟨D0 ++ Bk, by rw [eB, e0, List.append_assoc], fun q hq => ?_⟩
              rcases List.mem_append.1 hq with hq | hq
              · exact hD0 q hq
              · exact .inl (h.post.fresh0 _ (hB q hq))
          · rw [if_neg h2]
            have h3 : t.st to = 2 := by have := I.two to; omega
            refine ⟨h.post, fun v hv => ?_, fun v hv => List.mem_append_left _ (h.mine v hv), h.pred, h.back⟩
            rcases List.mem_append.1 hv with hv | hv
            · exact h.seen v hv
            · simp only [List.mem_singleton] at hv
              subst hv
              refine .inr ⟨h3, fun hh => ?_⟩
              rcases h.seen v (h.mine v hh) with ⟨a, _⟩ | ⟨_, c⟩
              · omega
              · exact c hh
    have hrun := loop (g b) [] rfl (opened s b) ⟨Post.refl hI1, fun v hv => (by cases hv), fun v hv => absurd hv (hnb v), fun x hx hx1 => absurd hx hx1, ⟨[], by simp, fun q hq => (by cases hq)⟩⟩
    show Post g Rch n s (closed _ b) ∧ (closed _ b).st b = 2 ∧ _
    have eat : at' g (d + 1) b s = closed ((g b).foldl (turn (at' g d) b) (opened s b)) b := rfl
    rw [eat]
    generalize (g b).foldl (turn (at' g d) b) (opened s b) = t at hrun
    have hsb : t.st b = 1 := by rw [hrun.post.keep b (by simp [opened, upd_same])]; simp [opened, upd_same]
    have I := hrun.post.inv
    have hbd : b ∉ t.done := fun hh => by have := (I.mem b).1 hh; omega
    have hs0 : ∀ x, x ≠ b → (opened s b).st x = s.st x := fun x hx => upd_ne _ _ hx
    refine ⟨⟨⟨fun x => ?_, fun x => ?_, ?_, fun u hu v hv => ?_, fun u hu v hv => ?_, fun q hq => ⟨(I.only q hq).1, ?_⟩⟩, fun x hx => ?_, fun x hx => ?_, ?_⟩, upd_same _ _ _, ?_, ?_⟩
    · by_cases e : x = b
      · subst e; simp only [closed, upd_same]; omega
      · simp only [closed, upd_ne _ _ e]; exact I.two x
    · simp only [closed, List.mem_append, List.mem_singleton]
      by_cases e : x = b
      · subst e; simp [upd_same]
      · rw [upd_ne _ _ e, I.mem]; simp [e]
    · simp only [closed]
      rw [List.nodup_append]
      exact ⟨I.once, by simp, fun a ha c hc => by simp only [List.mem_singleton] at hc; subst hc; exact fun e => hbd (e ▸ ha)⟩
    · by_cases e : v = b
      · subst e; simp only [closed, upd_same]; decide
      · simp only [closed, upd_ne _ _ e]
        rcases List.mem_append.1 hu with hu | hu
        · exact I.shut u hu v hv
        · simp only [List.mem_singleton] at hu
          subst hu
          rcases hrun.seen v hv with ⟨a, _⟩ | ⟨a, _⟩ <;> omega
    · simp only [closed] at hu ⊢
      rcases List.mem_append.1 hu with hu | hu
      · rw [I.back u hu v hv]
        constructor
        · intro hn hB
          refine hn (Bef.less (m := [b]) ?_ hu hB)
          rw [List.nodup_append]
          exact ⟨I.once, by simp, fun a ha c hc => by simp only [List.mem_singleton] at hc; subst hc; exact fun e => hbd (e ▸ ha)⟩
        · intro hn hB
          exact hn (hB.more _)
      · simp only [List.mem_singleton] at hu
        subst hu
        rcases hrun.seen v hv with ⟨a, c⟩ | ⟨a, c⟩
        · refine ⟨fun _ hB => ?_, fun _ => c⟩
          have := (I.mem v).1 (Bef.last' hbd hB)
          omega
        · refine ⟨fun hh => absurd hh c, fun hn => absurd (Bef.last ((I.mem v).2 a)) hn⟩
    · by_cases e : q.1 = b
      · simp only [closed, e, upd_same]; decide
      · simp only [closed, upd_ne _ _ e]; exact (I.only q hq).2
    · have hxb : x ≠ b := fun e => hx (e ▸ h0)
      simp only [closed, upd_ne _ _ hxb]
      rw [hrun.post.keep x (by rw [hs0 x hxb]; exact hx), hs0 x hxb]
    · by_cases e : x = b
      · subst e; right; simp only [closed, upd_same]; exact ⟨trivial, hRb, hb⟩
      · simp only [closed, upd_ne _ _ e]
        exact hrun.post.new x (by rw [hs0 x e]; exact hx)
    · obtain ⟨D, eD, hD⟩ := hrun.post.done
      refine ⟨D ++ [b], by simp only [closed]; rw [eD, List.append_assoc]; rfl, fun x hx => ?_⟩
      rcases List.mem_append.1 hx with hx | hx
      · have := hD x hx
        by_cases e : x = b
        · subst e; exact h0
        · rwa [hs0 x e] at this
      · simp only [List.mem_singleton] at hx
        subst hx
        exact h0
    · obtain ⟨D, eD, hD⟩ := hrun.back
      refine ⟨D, eD, fun q hq => ?_⟩
      by_cases e : q.1 = b
      · rw [e]; exact h0
      · rcases hD q hq with h | h
        · rwa [hs0 _ e] at h
        · exact absurd h e
    · obtain ⟨D, eD, hD⟩ := hrun.post.done
      refine ⟨D, by simp only [closed]; rw [eD]; rfl, fun x hx => ?_⟩
      have hxt : x ∈ t.done := by rw [eD]; simp [hx]
      have hx1 : x ∉ (opened s b).done := fun hh => by
        have h2 : s.st x = 2 := (hI.mem x).1 hh
        have h3 := hD x hx
        by_cases e : x = b
        · subst e; omega
        · rw [hs0 x e] at h3; omega
      rcases hrun.pred x hxt hx1 with hp | ⟨p, p1, p2, p3⟩
      · exact ⟨b, hp, by simp [closed], Bef.last hxt⟩
      · exact ⟨p, p1, by simp [closed, p2], p3.more _⟩
end
/-- Ways from 0 on. -/
inductive Rc (g : Nat → List Nat) : Nat → Prop
  | root : Rc g 0
  | step {u v : Nat} : Rc g u → v ∈ g u → Rc g v
/-- All that is told. -/
structure Told (g : Nat → List Nat) (n : Nat) (s : Lk) : Prop where
  mem : ∀ x, x ∈ s.done ↔ Rc g x
  lt : ∀ x ∈ s.done, x < n
  once : s.done.Nodup
  root : ∃ D, s.done = D ++ [0] ∧ ∀ x ∈ D, ∃ p, x ∈ g p ∧ p ∈ s.done ∧ Bef s.done x p
  back : ∀ u ∈ s.done, ∀ v ∈ g u, (u, v) ∈ s.back ↔ ¬ Bef s.done v u
  only : ∀ q ∈ s.back, q.2 ∈ g q.1 ∧ q.1 ∈ s.done
theorem look_law {g : Nat → List Nat} {n : Nat} (hg : ∀ u, u < n → ∀ v ∈ g u, v < n) (h0 : 0 < n) {d : Nat} (hd : n ≤ d) : Told g n (at' g d 0 ⟨fun _ => 0, [], []⟩) := by
  have I0 : Inv g ⟨fun _ => 0, [], []⟩ := ⟨fun x => by simp, fun x => by simp, by simp, fun u hu => (by cases hu), fun u hu => (by cases hu), fun q hq => (by cases hq)⟩
  have hf : fresh n ⟨fun _ => 0, [], []⟩ ≤ d := by
    unfold fresh
    have := List.length_filter_le (fun x => decide ((⟨fun _ => 0, [], []⟩ : Lk).st x = 0)) (List.range n)
    rw [List.length_range] at this
    omega
  obtain ⟨hP, hz, ⟨Bk, eB, hB⟩, D, eD, hD⟩ := at_law (Rch := Rc g) hg (fun u hu v hv => .step hu hv) d 0 _ h0 .root rfl hf I0
  generalize at' g d 0 ⟨fun _ => 0, [], []⟩ = s at *
  have I := hP.inv
  have hnew : ∀ x, s.st x = 0 ∨ (s.st x = 2 ∧ Rc g x ∧ x < n) := fun x => hP.new x rfl
  refine ⟨fun x => ⟨fun hx => ?_, fun hx => ?_⟩, fun x hx => ?_, I.once, ⟨D, by simpa using eD, hD⟩, I.back, fun q hq => ?_⟩
  · have := (I.mem x).1 hx
    rcases hnew x with h | h
    · omega
    · exact h.2.1
  · induction hx with
    | root => exact (I.mem 0).2 hz
    | step _ hv ih =>
      rename_i u v _
      have h1 := I.shut u ih v hv
      rcases hnew v with h | h
      · exact absurd h h1
      · exact (I.mem v).2 h.1
  · have := (I.mem x).1 hx
    rcases hnew x with h | h
    · omega
    · exact h.2.2
  · obtain ⟨h1, h2⟩ := I.only q hq
    refine ⟨h1, (I.mem _).2 ?_⟩
    rcases hnew q.1 with h | h
    · exact absurd h h2
    · exact h.1
end Go.Proofs.Ythjjkpkohhmgcaa.Look
