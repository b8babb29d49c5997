/- The plain law of the stable sort: windows, sorted runs, merges. -/
import Derived.Test.YtbogcknkkbnfnaaDoorKh
namespace Go.Proofs.YtbogcknkkbnfnaaDoor
open Go.RowKit Go.Proofs.YtbogcknkkbnfnaaDoorW.PrintWords

theorem lt_asym {x y : El} (h : lt x y = true) : lt y x = false := by
  cases e : lt y x with
  | false => rfl
  | true =>
    have := less_trans _ _ _ h e
    rw [less_irrefl] at this
    cases this
theorem le_trans' {a b c : El} (h1 : lt b a = false) (h2 : lt c b = false) : lt c a = false := by
  cases e : lt c a with
  | false => rfl
  | true =>
    cases f : lt a b with
    | true =>
      have : lt c b = true := less_trans _ _ _ e f
      rw [this] at h2
      cases h2
    | false =>
      have hn : a.n.toList = b.n.toList := less_total _ _ f h1
      have : lt c b = lt c a := by unfold lt less; rw [hn]
      rw [this, e] at h2
      cases h2

/-- The window from a to b has been permuted. -/
structure Win (d d' : List El) (a b : Nat) : Prop where
  perm : d'.Perm d
  out : ∀ x, x < a ∨ b ≤ x → d'.getD x zEl = d.getD x zEl
  inn : ∀ x, a ≤ x → x < b → ∃ y, a ≤ y ∧ y < b ∧ d'.getD x zEl = d.getD y zEl
def Srt (d : List El) (a b : Nat) : Prop := ∀ x y, a ≤ x → x < y → y < b → lt (d.getD y zEl) (d.getD x zEl) = false
theorem Win.refl (d : List El) (a b : Nat) : Win d d a b := ⟨.refl _, fun _ _ => rfl, fun x h1 h2 => ⟨x, h1, h2, rfl⟩⟩
theorem Win.trans {d d1 d2 : List El} {a b : Nat} (h : Win d d1 a b) (k : Win d1 d2 a b) : Win d d2 a b :=
  ⟨k.perm.trans h.perm, fun x hx => (k.out x hx).trans (h.out x hx), fun x h1 h2 => by
    obtain ⟨y, y1, y2, e⟩ := k.inn x h1 h2
    obtain ⟨z, z1, z2, e2⟩ := h.inn y y1 y2
    exact ⟨z, z1, z2, e.trans e2⟩⟩
theorem Win.widen {d d' : List El} {a b a' b' : Nat} (h : Win d d' a b) (ha : a' ≤ a) (hb : b ≤ b') : Win d d' a' b' :=
  ⟨h.perm, fun x hx => h.out x (by omega), fun x h1 h2 => by
    by_cases c : a ≤ x ∧ x < b
    · obtain ⟨y, y1, y2, e⟩ := h.inn x c.1 c.2
      exact ⟨y, by omega, by omega, e⟩
    · exact ⟨x, h1, h2, h.out x (by omega)⟩⟩
theorem Win.len {d d' : List El} {a b : Nat} (h : Win d d' a b) : d'.length = d.length := h.perm.length_eq
theorem getD_of {l m : List El} {x y : Nat} (h : l[x]? = m[y]?) : l.getD x zEl = m.getD y zEl := by simp only [List.getD, h]
theorem swp_getD (d : List El) (i j x : Nat) (hi : i < d.length) (hj : j < d.length) : (swp d i j).getD x zEl = if x = j then d.getD i zEl else if x = i then d.getD j zEl else d.getD x zEl := by
  have := swp_get d i j x hi hj
  split
  · rename_i h; rw [if_pos h] at this; exact getD_of this
  · rename_i h
    rw [if_neg h] at this
    split
    · rename_i h2; rw [if_pos h2] at this; exact getD_of this
    · rename_i h2; rw [if_neg h2] at this; exact getD_of this
theorem swp_perm_lt (d : List El) (i j : Nat) (hij : i < j) (hj : j < d.length) : (swp d i j).Perm d := by
  have hi : i < d.length := by omega
  have e : d = d.take i ++ (d[i] :: ((d.take j).drop (i + 1) ++ (d[j] :: d.drop (j + 1)))) := by
    have e1 : d = d.take j ++ (d[j] :: d.drop (j + 1)) := by rw [← List.drop_eq_getElem_cons hj, List.take_append_drop]
    have e2 : d.take j = d.take i ++ (d[i] :: (d.take j).drop (i + 1)) := by
      have h3 : i < (d.take j).length := by rw [List.length_take]; omega
      have := List.take_append_drop i (d.take j)
      rw [List.drop_eq_getElem_cons h3, List.take_take, Nat.min_eq_left (by omega), List.getElem_take] at this
      exact this.symm
    conv => lhs; rw [e1, e2]
    simp
  have key : ∀ (L M R : List El) (x y : El), (swp (L ++ (x :: (M ++ (y :: R)))) L.length (L.length + 1 + M.length)).Perm (L ++ (x :: (M ++ (y :: R)))) := by
    intro L M R x y
    have hs : swp (L ++ (x :: (M ++ (y :: R)))) L.length (L.length + 1 + M.length) = L ++ (y :: (M ++ (x :: R))) := by
      unfold swp
      have a1 : (L ++ x :: (M ++ y :: R)).getD L.length zEl = x := by simp [List.getD]
      have a2 : (L ++ x :: (M ++ y :: R)).getD (L.length + 1 + M.length) zEl = y := by
        simp only [List.getD]
        rw [List.getElem?_append_right (by omega), show L.length + 1 + M.length - L.length = M.length + 1 by omega, List.getElem?_cons_succ, List.getElem?_append_right (by omega)]
        simp
      rw [a1, a2]
      have a3 : (L ++ x :: (M ++ y :: R)).set L.length y = L ++ y :: (M ++ y :: R) := by simp
      rw [a3, List.set_append_right _ _ (by omega), show L.length + 1 + M.length - L.length = M.length + 1 by omega, List.set_cons_succ, List.set_append_right _ _ (by omega)]
      simp
    rw [hs]
    refine List.Perm.append_left L ?_
    refine (List.Perm.cons y List.perm_middle).trans ?_
    refine (List.Perm.swap x y (M ++ R)).trans ?_
    exact List.Perm.cons x List.perm_middle.symm
  have := key (d.take i) ((d.take j).drop (i + 1)) (d.drop (j + 1)) d[i] d[j]
  rw [← e] at this
  have l1 : (d.take i).length = i := by rw [List.length_take]; omega
  have l2 : i + 1 + ((d.take j).drop (i + 1)).length = j := by rw [List.length_drop, List.length_take]; omega
  rw [l1, l2] at this
  exact this
theorem swp_comm (d : List El) (i j : Nat) : swp d i j = swp d j i := by
  unfold swp
  by_cases h : i = j
  · subst h; rfl
  · exact List.set_comm _ _ h
theorem swp_same (d : List El) (i : Nat) (hi : i < d.length) : swp d i i = d := by
  unfold swp
  simp [List.getD, hi]
theorem swp_win (d : List El) (i j a b : Nat) (hi : a ≤ i ∧ i < b) (hj : a ≤ j ∧ j < b) (hb : b ≤ d.length) : Win d (swp d i j) a b := by
  refine ⟨?_, fun x hx => ?_, fun x h1 h2 => ?_⟩
  · rcases Nat.lt_trichotomy i j with h | h | h
    · exact swp_perm_lt d i j h (by omega)
    · subst h; rw [swp_same d i (by omega)]
    · rw [swp_comm]; exact swp_perm_lt d j i h (by omega)
  · rw [swp_getD _ _ _ _ (by omega) (by omega), if_neg (by omega), if_neg (by omega)]
  · rw [swp_getD _ _ _ _ (by omega) (by omega)]
    by_cases e1 : x = j
    · rw [if_pos e1]; exact ⟨i, hi.1, hi.2, rfl⟩
    · rw [if_neg e1]
      by_cases e2 : x = i
      · rw [if_pos e2]; exact ⟨j, hj.1, hj.2, rfl⟩
      · rw [if_neg e2]; exact ⟨x, h1, h2, rfl⟩

/-- Elements rolled up, down. -/
def rollN (d : List El) (a : Nat) : Nat → List El
  | 0 => d
  | k + 1 => swp (rollN d a k) (a + k) (a + k + 1)
def rollD (d : List El) (m : Nat) : Nat → List El
  | 0 => d
  | k + 1 => swp (rollD d m k) (m - k) (m - k - 1)
theorem rollN_len (d : List El) (a k : Nat) : (rollN d a k).length = d.length := by
  induction k with
  | zero => rfl
  | succ k ih => rw [rollN, swp_len, ih]
theorem rollD_len (d : List El) (m k : Nat) : (rollD d m k).length = d.length := by
  induction k with
  | zero => rfl
  | succ k ih => rw [rollD, swp_len, ih]
theorem rollN_getD (d : List El) (a k x : Nat) (h : a + k < d.length) : (rollN d a k).getD x zEl = if a ≤ x ∧ x < a + k then d.getD (x + 1) zEl else if x = a + k then d.getD a zEl else d.getD x zEl := by
  induction k generalizing x with
  | zero =>
    rw [rollN, if_neg (by omega)]
    by_cases e : x = a + 0
    · rw [if_pos e, show x = a by omega]
    · rw [if_neg e]
  | succ k ih =>
    have hl := rollN_len d a k
    rw [rollN, swp_getD _ _ _ _ (by omega) (by omega)]
    by_cases e1 : x = a + k + 1
    · rw [if_pos e1, ih _ (by omega), if_neg (by omega), if_pos rfl, if_neg (by omega), if_pos (by omega)]
    · rw [if_neg e1]
      by_cases e2 : x = a + k
      · rw [if_pos e2, ih _ (by omega), if_neg (by omega), if_neg (by omega), if_pos (by omega), e2]
      · rw [if_neg e2, ih _ (by omega)]
        by_cases c : a ≤ x ∧ x < a + k
        · rw [if_pos c, if_pos (show a ≤ x ∧ x < a + (k + 1) by omega)]
        · rw [if_neg c, if_neg e2, if_neg (show ¬ (a ≤ x ∧ x < a + (k + 1)) by omega), if_neg (show ¬ x = a + (k + 1) by omega)]
theorem rollD_getD (d : List El) (m k x : Nat) (hk : k ≤ m) (h : m < d.length) : (rollD d m k).getD x zEl = if m - k < x ∧ x ≤ m then d.getD (x - 1) zEl else if x = m - k then d.getD m zEl else d.getD x zEl := by
  induction k generalizing x with
  | zero =>
    rw [rollD, if_neg (by omega)]
    by_cases e : x = m - 0
    · rw [if_pos e, show x = m by omega]
    · rw [if_neg e]
  | succ k ih =>
    have hl := rollD_len d m k
    rw [rollD, swp_getD _ _ _ _ (by omega) (by omega)]
    by_cases e1 : x = m - k - 1
    · rw [if_pos e1, ih _ (by omega), if_neg (by omega), if_pos rfl, if_neg (by omega), if_pos (by omega)]
    · rw [if_neg e1]
      by_cases e2 : x = m - k
      · rw [if_pos e2, ih _ (by omega), if_neg (by omega), if_neg (by omega), if_pos (by omega), e2]
      · rw [if_neg e2, ih _ (by omega)]
        by_cases c : m - k < x ∧ x ≤ m
        · rw [if_pos c, if_pos (show m - (k + 1) < x ∧ x ≤ m by omega)]
        · rw [if_neg c, if_neg e2, if_neg (show ¬ (m - (k + 1) < x ∧ x ≤ m) by omega), if_neg (show ¬ x = m - (k + 1) by omega)]
theorem rollN_win (d : List El) (a k b : Nat) (h : a + k < b) (hb : b ≤ d.length) : Win d (rollN d a k) a b := by
  induction k with
  | zero => exact Win.refl _ _ _
  | succ k ih => exact (ih (by omega)).trans (swp_win _ _ _ _ _ (by omega) (by omega) (by rw [rollN_len]; exact hb))
theorem rollD_win (d : List El) (m k a b : Nat) (hk : k + a ≤ m) (h : m < b) (hb : b ≤ d.length) : Win d (rollD d m k) a b := by
  induction k with
  | zero => exact Win.refl _ _ _
  | succ k ih => exact (ih (by omega)).trans (swp_win _ _ _ _ _ (by omega) (by omega) (by rw [rollD_len]; exact hb))
theorem rotL_get (d : List El) (a m b x : Nat) (h1 : a ≤ m) (h2 : m ≤ b) (h3 : b ≤ d.length) : (rotL d a m b)[x]? = if x < a then d[x]? else if x < a + (b - m) then d[m + (x - a)]? else if x < b then d[x - (b - m)]? else d[x]? := by
  unfold rotL
  simp only [List.getElem?_append, List.length_take, List.length_drop, List.getElem?_take, List.getElem?_drop]
  rw [Nat.min_eq_left (by omega), Nat.min_eq_left (by omega), Nat.min_eq_left (by omega)]
  by_cases c0 : x < a
  · rw [if_pos c0, if_pos c0, if_pos c0]
  · rw [if_neg c0, if_neg c0]
    by_cases c1 : x < a + (b - m)
    · rw [if_pos (by omega), if_pos (by omega), if_pos c1]
    · rw [if_neg (by omega), if_neg c1]
      by_cases c2 : x < b
      · rw [if_pos (by omega), if_pos (by omega), if_pos c2]
        congr 1; omega
      · rw [if_neg (by omega), if_neg c2]
        congr 1; omega
theorem rotL_getD (d : List El) (a m b x : Nat) (h1 : a ≤ m) (h2 : m ≤ b) (h3 : b ≤ d.length) : (rotL d a m b).getD x zEl = if x < a then d.getD x zEl else if x < a + (b - m) then d.getD (m + (x - a)) zEl else if x < b then d.getD (x - (b - m)) zEl else d.getD x zEl := by
  have := rotL_get d a m b x h1 h2 h3
  by_cases c0 : x < a
  · rw [if_pos c0] at this ⊢; exact getD_of this
  · rw [if_neg c0] at this ⊢
    by_cases c1 : x < a + (b - m)
    · rw [if_pos c1] at this ⊢; exact getD_of this
    · rw [if_neg c1] at this ⊢
      by_cases c2 : x < b
      · rw [if_pos c2] at this ⊢; exact getD_of this
      · rw [if_neg c2] at this ⊢; exact getD_of this
theorem rotL_len (d : List El) (a m b : Nat) (h1 : a ≤ m) (h2 : m ≤ b) (h3 : b ≤ d.length) : (rotL d a m b).length = d.length := ((rotL_inv d a m b h1 h2 h3).len.1).symm
theorem rotL_win (d : List El) (a m b : Nat) (h1 : a ≤ m) (h2 : m ≤ b) (h3 : b ≤ d.length) : Win d (rotL d a m b) a b := by
  refine ⟨?_, fun x hx => ?_, fun x k1 k2 => ?_⟩
  · obtain ⟨P, U, V, S, e, _, _, _, e2⟩ := rotL_inv d a m b h1 h2 h3
    rw [e2]
    conv => rhs; rw [e]
    refine List.Perm.append_left P ?_
    rw [← List.append_assoc, ← List.append_assoc]
    exact List.Perm.append_right S List.perm_append_comm
  · rw [rotL_getD d a m b x h1 h2 h3]
    rcases hx with hx | hx
    · rw [if_pos hx]
    · by_cases c0 : x < a
      · rw [if_pos c0]
      · rw [if_neg c0, if_neg (by omega), if_neg (by omega)]
  · rw [rotL_getD d a m b x h1 h2 h3, if_neg (by omega)]
    by_cases c1 : x < a + (b - m)
    · rw [if_pos c1]; exact ⟨m + (x - a), by omega, by omega, rfl⟩
    · rw [if_neg c1, if_pos k2]; exact ⟨x - (b - m), by omega, by omega, rfl⟩
theorem rotL_id (d : List El) (a m b : Nat) (h1 : a ≤ m) (h2 : m ≤ b) (h3 : b ≤ d.length) (h : a = m ∨ m = b) : rotL d a m b = d := by
  apply List.ext_getElem?
  intro x
  rw [rotL_get d a m b x h1 h2 h3]
  by_cases c0 : x < a
  · rw [if_pos c0]
  · rw [if_neg c0]
    by_cases c1 : x < a + (b - m)
    · rw [if_pos c1]; congr 1; omega
    · rw [if_neg c1]
      by_cases c2 : x < b
      · rw [if_pos c2]; congr 1; omega
      · rw [if_neg c2]

/-- Two runs, merged. -/
structure Mg (d : List El) (a m b : Nat) (d' : List El) : Prop where
  win : Win d d' a b
  srt : Srt d a m → Srt d m b → Srt d' a b
theorem Mg.one (d : List El) (a b i : Nat) (hi1 : a + 1 ≤ i) (hi2 : i ≤ b) (hb : b ≤ d.length) (h1 : i = a + 1 ∨ lt (d.getD (i - 1) zEl) (d.getD a zEl) = true) (h2 : i = b ∨ lt (d.getD i zEl) (d.getD a zEl) = false) : Mg d a (a + 1) b (rollN d a (i - 1 - a)) := by
  refine ⟨rollN_win d a _ b (by omega) hb, fun _ hs => ?_⟩
  intro x y hx hxy hy
  rw [rollN_getD d a _ x (by omega), rollN_getD d a _ y (by omega)]
  have e : a + (i - 1 - a) = i - 1 := by omega
  rw [e]
  by_cases cx : a ≤ x ∧ x < i - 1
  · rw [if_pos cx]
    by_cases cy : a ≤ y ∧ y < i - 1
    · rw [if_pos cy]; exact hs _ _ (by omega) (by omega) (by omega)
    · rw [if_neg cy]
      by_cases ey : y = i - 1
      · rw [if_pos ey]
        have h1' := h1.resolve_left (by omega)
        have h3 := lt_asym h1'
        by_cases e3 : x + 1 = i - 1
        · rw [e3]; exact h3
        · exact le_trans' (hs (x + 1) (i - 1) (by omega) (by omega) (by omega)) h3
      · rw [if_neg ey]; exact hs _ _ (by omega) (by omega) (by omega)
  · rw [if_neg cx]
    by_cases ex : x = i - 1
    · rw [if_pos ex, if_neg (by omega), if_neg (by omega)]
      have h2' := h2.resolve_left (by omega)
      by_cases e3 : y = i
      · rw [e3]; exact h2'
      · exact le_trans' h2' (hs i y (by omega) (by omega) (by omega))
    · rw [if_neg ex, if_neg (by omega), if_neg (by omega)]
      exact hs _ _ (by omega) (by omega) (by omega)
theorem Mg.last (d : List El) (a m i : Nat) (hi1 : a ≤ i) (hi2 : i ≤ m) (hb : m < d.length) (h1 : i = a ∨ lt (d.getD m zEl) (d.getD (i - 1) zEl) = false) (h2 : i = m ∨ lt (d.getD m zEl) (d.getD i zEl) = true) : Mg d a m (m + 1) (rollD d m (m - i)) := by
  refine ⟨rollD_win d m _ a (m + 1) (by omega) (by omega) (by omega), fun hs _ => ?_⟩
  intro x y hx hxy hy
  rw [rollD_getD d m _ x (by omega) hb, rollD_getD d m _ y (by omega) hb]
  have e : m - (m - i) = i := by omega
  rw [e]
  by_cases cy : i < y ∧ y ≤ m
  · rw [if_pos cy]
    by_cases cx : i < x ∧ x ≤ m
    · rw [if_pos cx]; exact hs _ _ (by omega) (by omega) (by omega)
    · rw [if_neg cx]
      by_cases ex : x = i
      · rw [if_pos ex]
        have h2' := lt_asym (h2.resolve_left (by omega))
        by_cases e3 : y - 1 = i
        · rw [e3]; exact h2'
        · exact le_trans' h2' (hs i (y - 1) (by omega) (by omega) (by omega))
      · rw [if_neg ex]; exact hs _ _ (by omega) (by omega) (by omega)
  · rw [if_neg cy]
    by_cases ey : y = i
    · rw [if_pos ey, if_neg (by omega), if_neg (by omega)]
      have h1' := h1.resolve_left (by omega)
      by_cases e3 : x = i - 1
      · rw [e3]; exact h1'
      · exact le_trans' (hs x (i - 1) (by omega) (by omega) (by omega)) h1'
    · rw [if_neg ey, if_neg (by omega), if_neg (by omega)]
      exact hs _ _ (by omega) (by omega) (by omega)
/-- A run that is empty, or whose halves are. -/
theorem Mg.triv (d : List El) (a m b : Nat) (h : m ≤ a ∨ b ≤ m) : Mg d a m b d := ⟨Win.refl _ _ _, fun h1 h2 => by
  intro x y hx hxy hy
  rcases h with h | h
  · exact h2 x y (by omega) hxy hy
  · exact h1 x y hx hxy (by omega)⟩
theorem Win.srt {d d' : List El} {a b p q : Nat} (h : Win d d' a b) (k : Srt d p q) (hq : q ≤ a ∨ b ≤ p) : Srt d' p q := by
  intro x y hx hxy hy
  rw [h.out x (by omega), h.out y (by omega)]
  exact k x y hx hxy hy
theorem Mg.both (d d2 d3 : List El) (a m b s mid e : Nat) (hma : a < m) (hmb : m < b) (hb : b ≤ d.length) (hmid : mid = (a + b) / 2) (he : e + s = mid + m)
    (hs1 : a ≤ s) (hs2 : s ≤ m) (he1 : m ≤ e) (he2 : e ≤ b)
    (h1 : (s = a ∨ e = b) ∨ lt (d.getD e zEl) (d.getD (s - 1) zEl) = false) (h2 : (s = m ∨ e = m) ∨ lt (d.getD (e - 1) zEl) (d.getD s zEl) = true)
    (k1 : Mg (rotL d s m e) a s mid d2) (k2 : Mg d2 mid e b d3) : Mg d a m b d3 := by
  have r := rotL_win d s m e hs2 he1 (by omega)
  have hmm : a ≤ mid ∧ mid ≤ b := by omega
  have hsm : s ≤ mid := by omega
  have hme : mid ≤ e := by omega
  refine ⟨(r.widen hs1 he2).trans ((k1.win.widen (Nat.le_refl _) hmm.2).trans (k2.win.widen hmm.1 (Nat.le_refl _))), fun ha hm' => ?_⟩
  have g := fun x => rotL_getD d s m e x hs2 he1 (by omega)
  have ems : s + (e - m) = mid := by omega
  rw [ems] at g
  -- the halves of the turned list
  have q1 : Srt (rotL d s m e) a s := by
    intro x y hx hxy hy
    rw [g, g, if_pos hy, if_pos (show x < s by omega)]
    exact ha x y hx hxy (by omega)
  have q2 : Srt (rotL d s m e) s mid := by
    intro x y hx hxy hy
    rw [g, g, if_neg (by omega), if_pos hy, if_neg (by omega), if_pos (by omega)]
    exact hm' _ _ (by omega) (by omega) (by omega)
  have q3 : Srt (rotL d s m e) mid e := by
    intro x y hx hxy hy
    rw [g, g, if_neg (by omega), if_neg (by omega), if_pos hy, if_neg (by omega), if_neg (by omega), if_pos (by omega)]
    exact ha _ _ (by omega) (by omega) (by omega)
  have q4 : Srt (rotL d s m e) e b := by
    intro x y hx hxy hy
    rw [g, g, if_neg (by omega), if_neg (by omega), if_neg (by omega), if_neg (by omega), if_neg (by omega), if_neg (by omega)]
    exact hm' _ _ (by omega) (by omega) (by omega)
  have cross : ∀ x y, a ≤ x → x < mid → mid ≤ y → y < b → lt ((rotL d s m e).getD y zEl) ((rotL d s m e).getD x zEl) = false := by
    intro x y hx hx2 hy hy2
    rw [g, g, if_neg (show ¬ y < s by omega), if_neg (show ¬ y < mid by omega)]
    by_cases cx : x < s
    · rw [if_pos cx]
      by_cases cy : y < e
      · rw [if_pos cy]; exact ha _ _ (by omega) (by omega) (by omega)
      · rw [if_neg cy]
        have h1' := h1.resolve_left (by omega)
        have t1 : lt (d.getD e zEl) (d.getD x zEl) = false := by
          by_cases c : x = s - 1
          · rw [c]; exact h1'
          · exact le_trans' (ha x (s - 1) hx (by omega) (by omega)) h1'
        by_cases c : y = e
        · rw [c]; exact t1
        · exact le_trans' t1 (hm' e y (by omega) (by omega) hy2)
    · rw [if_neg cx, if_pos hx2]
      by_cases cy : y < e
      · rw [if_pos cy]
        have h2' := lt_asym (h2.resolve_left (by omega))
        have t1 : lt (d.getD s zEl) (d.getD (m + (x - s)) zEl) = false := by
          by_cases c : m + (x - s) = e - 1
          · rw [c]; exact h2'
          · exact le_trans' (hm' (m + (x - s)) (e - 1) (by omega) (by omega) (by omega)) h2'
        by_cases c : y - (e - m) = s
        · rw [c]; exact t1
        · exact le_trans' t1 (ha s (y - (e - m)) (by omega) (by omega) (by omega))
      · rw [if_neg cy]; exact hm' _ _ (by omega) (by omega) (by omega)
  have s1 := k1.srt q1 q2
  have s2 := k2.srt (k1.win.srt q3 (.inr (Nat.le_refl _))) (k1.win.srt q4 (.inr hme))
  have s1' := k2.win.srt s1 (.inl (Nat.le_refl _))
  intro x y hx hxy hy
  by_cases c1 : y < mid
  · exact s1' x y hx hxy c1
  · by_cases c2 : mid ≤ x
    · exact s2 x y c2 hxy hy
    · obtain ⟨y', y1, y2, ey⟩ := k2.win.inn y (by omega) hy
      rw [ey, k2.win.out x (.inl (by omega)), k1.win.out y' (.inr y1)]
      obtain ⟨x', x1, x2, ex⟩ := k1.win.inn x hx (by omega)
      rw [ex]
      exact cross x' y' x1 x2 y1 y2
end Go.Proofs.YtbogcknkkbnfnaaDoor
