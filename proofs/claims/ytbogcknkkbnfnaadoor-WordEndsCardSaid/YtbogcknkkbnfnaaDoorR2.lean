/- Texts laid as one: Kx Pk Ky Kz Ma. -/
import Derived.Test.YtbogcknkkbnfnaaDoorKw
import Derived.Laws.EntriesVeiled
/- Rings: whether a class stands below itself. -/
namespace Go.Proofs.YtbogcknkkbnfnaaDoor
open Go.RowKit Go.Proofs.YtbogcknkkbnfnaaDoorW.PrintWords Go.Maps Go.WideMaps

theorem climb_all (p g N cap m gs cs gf cf : Nat) (aV : Value) (L : List Cl) (S : List Int) (F : List (List Int)) (w0 : World) (hV : SV p g N cap m gs cs gf cf aV L S F w0) (i b1 b2 b3 b4 gq cq : Nat) (tl : List Value) (n : Nat) :
    ClimbAll S F w0 p i b1 b2 b3 b4 gq N cq tl n := by
  induction n using Nat.strongRecOn with
  | _ n ih => exact climb_step p g N cap m gs cs gf cf aV L S F w0 hV i b1 b2 b3 b4 gq cq tl n ih
set_option maxRecDepth 100000 in
theorem mk_bools (N : Nat) (hN : N ≤ 72) (W : World) : (Instr.makeSlice 49 (.int .i64 (N : Int)) (.int .i64 (N : Int))).run Tryd.prog W = .ok (.slice (some ⟨W.heap.size, 0, none⟩) N N) (W.alloc (.cells (List.replicate N (.bool false)).toArray 4)) := by
  obtain ⟨i0, hi, hzz⟩ := Option.map_eq_some_iff.1 (show (Tryd.prog.info? 4).map (fun i => (i.zero, i.size, i.bytes)) = some (some (.bool false), 1, 1) by rfl)
  simp only [Prod.mk.injEq] at hzz
  obtain ⟨hz0, hz1, hz2⟩ := hzz
  have hr := run_make (P := Tryd.prog) W 49 4 i0 (.bool false) (by exact Tryd.underlying49) hi hz0 .i64 .i64 (N : Int) (N : Int) (by omega) (by omega) (by rw [hz2]; omega) (by omega)
  simp only [Int.toNat_natCast] at hr
  rw [hz1, Nat.mul_one] at hr
  rw [hr]
  have : madeCells (Value.bool false).cells N = (List.replicate N (.bool false)).toArray := by
    apply Array.toList_inj.1
    rw [show (Value.bool false).cells = #[.bool false] from rfl, toList_madeCells_one]
  rw [this]
set_option maxRecDepth 100000 in
set_option maxHeartbeats 8000000 in
theorem ring_any (p g N cap m gs cs gf cf : Nat) (aV : Value) (L : List Cl) (S : List Int) (F : List (List Int)) (w : World) (hV : SV p g N cap m gs cs gf cf aV L S F w) (i : Nat) (hi : i < N) :
    Calls Tryd.prog 84 #[.pointer (some ⟨p, 0, none⟩), .int .i64 i] w fun e w' => ∃ b : Bool, e = .returned (.bool b) ∧ Below w.heap.size w w' ∧ (b = true ↔ Rch S F i i) := by
  have hNb := hV.big
  have c0 := blk_cell hV.blk 0
  have zp := blk_lt hV.blk
  have HV := hid hV
  have hmk := mk_bools N hNb
  clear hV
  go_enter Tryd.func84, Tryd.ntmps84
  go_upto_region 4 with fail
  have k1 := blk_alloc (blk_alloc (blk_alloc (blk_alloc (blk_new w (.cells #[.pointer (some ⟨p, 0, none⟩)] 25)) (.cells #[.int .i64 i] 3)) (.cells (Array.replicate N (.bool false)) 4)) (.cells #[.slice (some ⟨w.heap.size + 1 + 1, 0, none⟩) N N] 49)) (.cells #[.func (.func 127) #[] #[.pointer (some ⟨w.heap.size, 0, none⟩), .pointer (some ⟨w.heap.size + 1, 0, none⟩), .pointer (some ⟨w.heap.size + 1 + 1 + 1, 0, none⟩), .pointer (some ⟨w.heap.size + 1 + 1 + 1 + 1, 0, none⟩)]] 62)
  have k2 := blk_alloc (blk_alloc (blk_alloc (blk_new (w.alloc (.cells #[.pointer (some ⟨p, 0, none⟩)] 25)) (.cells #[.int .i64 i] 3)) (.cells (Array.replicate N (.bool false)) 4)) (.cells #[.slice (some ⟨w.heap.size + 1 + 1, 0, none⟩) N N] 49)) (.cells #[.func (.func 127) #[] #[.pointer (some ⟨w.heap.size, 0, none⟩), .pointer (some ⟨w.heap.size + 1, 0, none⟩), .pointer (some ⟨w.heap.size + 1 + 1 + 1, 0, none⟩), .pointer (some ⟨w.heap.size + 1 + 1 + 1 + 1, 0, none⟩)]] 62)
  have k3 := blk_alloc (blk_alloc (blk_new ((w.alloc (.cells #[.pointer (some ⟨p, 0, none⟩)] 25)).alloc (.cells #[.int .i64 i] 3)) (.cells (Array.replicate N (.bool false)) 4)) (.cells #[.slice (some ⟨w.heap.size + 1 + 1, 0, none⟩) N N] 49)) (.cells #[.func (.func 127) #[] #[.pointer (some ⟨w.heap.size, 0, none⟩), .pointer (some ⟨w.heap.size + 1, 0, none⟩), .pointer (some ⟨w.heap.size + 1 + 1 + 1, 0, none⟩), .pointer (some ⟨w.heap.size + 1 + 1 + 1 + 1, 0, none⟩)]] 62)
  have k4 := blk_alloc (blk_new (((w.alloc (.cells #[.pointer (some ⟨p, 0, none⟩)] 25)).alloc (.cells #[.int .i64 i] 3)).alloc (.cells (Array.replicate N (.bool false)) 4)) (.cells #[.slice (some ⟨w.heap.size + 1 + 1, 0, none⟩) N N] 49)) (.cells #[.func (.func 127) #[] #[.pointer (some ⟨w.heap.size, 0, none⟩), .pointer (some ⟨w.heap.size + 1, 0, none⟩), .pointer (some ⟨w.heap.size + 1 + 1 + 1, 0, none⟩), .pointer (some ⟨w.heap.size + 1 + 1 + 1 + 1, 0, none⟩)]] 62)
  have k5 := blk_new ((((w.alloc (.cells #[.pointer (some ⟨p, 0, none⟩)] 25)).alloc (.cells #[.int .i64 i] 3)).alloc (.cells (Array.replicate N (.bool false)) 4)).alloc (.cells #[.slice (some ⟨w.heap.size + 1 + 1, 0, none⟩) N N] 49)) (.cells #[.func (.func 127) #[] #[.pointer (some ⟨w.heap.size, 0, none⟩), .pointer (some ⟨w.heap.size + 1, 0, none⟩), .pointer (some ⟨w.heap.size + 1 + 1 + 1, 0, none⟩), .pointer (some ⟨w.heap.size + 1 + 1 + 1 + 1, 0, none⟩)]] 62)
  have hB := below_alloc (below_alloc (below_alloc (below_alloc (below_alloc (Below.refl w.heap.size w) (.cells #[.pointer (some ⟨p, 0, none⟩)] 25)) (.cells #[.int .i64 i] 3)) (.cells (Array.replicate N (.bool false)) 4)) (.cells #[.slice (some ⟨w.heap.size + 1 + 1, 0, none⟩) N N] 49)) (.cells #[.func (.func 127) #[] #[.pointer (some ⟨w.heap.size, 0, none⟩), .pointer (some ⟨w.heap.size + 1, 0, none⟩), .pointer (some ⟨w.heap.size + 1 + 1 + 1, 0, none⟩), .pointer (some ⟨w.heap.size + 1 + 1 + 1 + 1, 0, none⟩)]] 62)
  simp only [World.size_alloc] at k1 k2 k3 k4 k5
  generalize ((((w.alloc (.cells #[.pointer (some ⟨p, 0, none⟩)] 25)).alloc (.cells #[.int .i64 i] 3)).alloc (.cells (Array.replicate N (.bool false)) 4)).alloc (.cells #[.slice (some ⟨w.heap.size + 1 + 1, 0, none⟩) N N] 49)).alloc (.cells #[.func (.func 127) #[] #[.pointer (some ⟨w.heap.size, 0, none⟩), .pointer (some ⟨w.heap.size + 1, 0, none⟩), .pointer (some ⟨w.heap.size + 1 + 1 + 1, 0, none⟩), .pointer (some ⟨w.heap.size + 1 + 1 + 1 + 1, 0, none⟩)]] 62) = W5 at *
  have HRS := hid (show RS w p i w.heap.size (w.heap.size + 1) (w.heap.size + 1 + 1 + 1) (w.heap.size + 1 + 1 + 1 + 1) (w.heap.size + 1 + 1) N N [] (List.replicate N false) W5 from ⟨hB, k1, k2, k4, k5, by rw [List.map_replicate, List.append_nil, List.toArray_replicate]; exact k3, by simp, by omega⟩)
  have d1 := blk_cell k5 0
  have d2 := blk_cell k2 0
  have HIH := hid (climb_all p g N cap m gs cs gf cf aV L S F w HV.out i w.heap.size (w.heap.size + 1) (w.heap.size + 1 + 1 + 1) (w.heap.size + 1 + 1 + 1 + 1) (w.heap.size + 1 + 1) N [] (unseen (List.replicate N false)) i (List.replicate N false) W5 (Nat.le_refl _) HRS.out hi)
  clear k1 k2 k3 k4 k5 hB c0 hmk
  go_wp2_with (go_at_call 127; refine HIH.out.mono ?_; rintro e w' ⟨b, Sn2, rfl, hO, hS2, hK2⟩; have HO := hid hO; have HS2 := hid hS2; clear hO hS2 hK2)
  go_ret
  exact ⟨b, rfl, HS2.out.below, HO.out.ring⟩
end Go.Proofs.YtbogcknkkbnfnaaDoor

/- The plain law of classes that stand above one another: steps, chains, all above; no program in sight. -/
namespace Go.Proofs.YtbogcknkkbnfnaaDoor.Link

/-- One step up. -/
def Step (sup : Nat → Int) (fs : Nat → List Nat) (i j : Nat) : Prop := (j : Int) = sup i ∨ j ∈ fs i
/-- Steps up, none too. -/
inductive Reach (sup : Nat → Int) (fs : Nat → List Nat) : Nat → Nat → Prop
  | refl (i : Nat) : Reach sup fs i i
  | step {i k j : Nat} : Step sup fs i k → Reach sup fs k j → Reach sup fs i j
section
variable {sup : Nat → Int} {fs : Nat → List Nat}
theorem Reach.trans {a b c : Nat} (h : Reach sup fs a b) (k : Reach sup fs b c) : Reach sup fs a c := by
  induction h with
  | refl => exact k
  | step s _ ih => exact .step s (ih k)
theorem Reach.one {a b : Nat} (h : Step sup fs a b) : Reach sup fs a b := .step h (.refl _)
/-- One step at the least. -/
def Above (sup : Nat → Int) (fs : Nat → List Nat) (i j : Nat) : Prop := ∃ k, Step sup fs i k ∧ Reach sup fs k j
theorem Reach.cases' {a b : Nat} (h : Reach sup fs a b) : a = b ∨ Above sup fs a b := by
  cases h with
  | refl => exact .inl rfl
  | step s r => exact .inr ⟨_, s, r⟩
theorem Above.trans {a b c : Nat} (h : Above sup fs a b) (k : Reach sup fs b c) : Above sup fs a c := by
  obtain ⟨x, s, r⟩ := h
  exact ⟨x, s, r.trans k⟩
theorem Reach.above {a b c : Nat} (h : Reach sup fs a b) (k : Above sup fs b c) : Above sup fs a c := by
  obtain ⟨x, s, r⟩ := k
  cases h with
  | refl => exact ⟨x, s, r⟩
  | step s' r' => exact ⟨_, s', r'.trans (.step s r)⟩

/-- What a set has been found to be. -/
structure Good (n : Nat) (sup : Nat → Int) (fs : Nat → List Nat) (face : Nat → Bool) : Prop where
  pos : 0 < n
  sup0 : sup 0 = -1
  sup_lt : ∀ i, 0 < i → i < n → 0 ≤ sup i ∧ sup i < n
  fs_lt : ∀ i, i < n → ∀ f ∈ fs i, f < n
  up_class : ∀ i, 0 < i → i < n → face (sup i).toNat = false
  up_face : ∀ i, 0 < i → i < n → face i = true → sup i = 0
  fs_face : ∀ i, i < n → ∀ f ∈ fs i, face f = true
  fs_once : ∀ i, i < n → (fs i).Nodup
  ring : ∀ i, i < n → ¬ Above sup fs i i
variable {n : Nat} {face : Nat → Bool}

theorem Good.step_lt (G : Good n sup fs face) {i j : Nat} (hi : i < n) (h : Step sup fs i j) : j < n := by
  rcases h with h | h
  · by_cases h0 : i = 0
    · subst h0; rw [G.sup0] at h; omega
    · have := G.sup_lt i (by omega) hi; omega
  · exact G.fs_lt i hi j h
theorem Good.reach_lt (G : Good n sup fs face) {i j : Nat} (hi : i < n) (h : Reach sup fs i j) : j < n := by
  induction h with
  | refl => exact hi
  | step s _ ih => exact ih (G.step_lt hi s)
theorem Good.anti (G : Good n sup fs face) {i j : Nat} (hi : i < n) (h : Reach sup fs i j) (k : Reach sup fs j i) : i = j := by
  rcases h.cases' with h | h
  · exact h
  · exact absurd (h.trans k) (G.ring i hi)

open Classical in
/-- How many stand above. -/
noncomputable def rank (n : Nat) (sup : Nat → Int) (fs : Nat → List Nat) (i : Nat) : Nat := ((List.range n).filter fun j => decide (Above sup fs i j)).length
theorem filter_lt {α : Type} (l : List α) (p q : α → Bool) (h : ∀ x, p x = true → q x = true) (x : α) (hx : x ∈ l) (hp : p x = false) (hq : q x = true) : (l.filter p).length < (l.filter q).length := by
  induction l with
  | nil => cases hx
  | cons a l ih =>
    have hle : ∀ l : List α, (l.filter p).length ≤ (l.filter q).length := by
      intro l
      induction l with
      | nil => simp
      | cons b l ih =>
        simp only [List.filter_cons]
        cases hb : p b with
        | true => rw [h b hb]; simpa using ih
        | false =>
          cases q b with
          | true => simp; omega
          | false => simpa using ih
    simp only [List.filter_cons]
    rcases List.mem_cons.1 hx with rfl | hx
    · rw [hp, hq]
      have := hle l
      simp; omega
    · have := ih hx
      cases ha : p a with
      | true => rw [h a ha]; simpa using this
      | false =>
        cases q a with
        | true => simp; omega
        | false => simpa using this
theorem rank_le (n : Nat) (i : Nat) : rank n sup fs i ≤ n := by
  unfold rank
  exact Nat.le_trans (List.length_filter_le _ _) (by simp)
open Classical in
theorem Good.rank_lt (G : Good n sup fs face) {i j : Nat} (hi : i < n) (h : Step sup fs i j) : rank n sup fs j < rank n sup fs i := by
  unfold rank
  have hj := G.step_lt hi h
  refine filter_lt _ _ _ (fun x hx => ?_) j (by simpa using hj) ?_ ?_
  · have := of_decide_eq_true hx
    exact decide_eq_true ⟨j, h, by obtain ⟨y, s, r⟩ := this; exact .step s r⟩
  · exact decide_eq_false (G.ring j hj)
  · exact decide_eq_true ⟨j, h, .refl _⟩

/-- A class, the one above it, and so on. -/
def chainF (sup : Nat → Int) : Nat → Int → List Nat
  | 0, _ => []
  | d + 1, i => if i < 0 then [] else i.toNat :: chainF sup d (sup i.toNat)
/-- .. at a depth that is enough. -/
def chainL (n : Nat) (sup : Nat → Int) (i : Nat) : List Nat := chainF sup (n + 2) i
theorem Good.chainF_eq (G : Good n sup fs face) (d : Nat) : ∀ (d' i : Nat), i < n → rank n sup fs i + 2 ≤ d → rank n sup fs i + 2 ≤ d' → chainF sup d i = chainF sup d' i := by
  induction d with
  | zero => intro d' i _ h; omega
  | succ d ih =>
    intro d' i hi h h'
    obtain ⟨e, rfl⟩ : ∃ e, d' = e + 1 := ⟨d' - 1, by omega⟩
    simp only [chainF, Int.toNat_natCast]
    rw [if_neg (by omega), if_neg (by omega)]
    congr 1
    by_cases h0 : i = 0
    · subst h0
      rw [G.sup0]
      obtain ⟨d, rfl⟩ : ∃ x, d = x + 1 := ⟨d - 1, by omega⟩
      obtain ⟨e, rfl⟩ : ∃ x, e = x + 1 := ⟨e - 1, by omega⟩
      simp [chainF]
    · have hs := G.sup_lt i (by omega) hi
      obtain ⟨u, hu⟩ := Int.eq_ofNat_of_zero_le hs.1
      rw [hu]
      have hr := G.rank_lt hi (j := u) (.inl (by omega))
      exact ih e u (by omega) (by omega) (by omega)
theorem Good.chain_zero (G : Good n sup fs face) : chainL n sup 0 = [0] := by
  unfold chainL
  simp only [chainF]
  rw [if_neg (by omega)]
  simp [G.sup0]
theorem Good.chain_step (G : Good n sup fs face) {i : Nat} (h0 : 0 < i) (hi : i < n) : chainL n sup i = i :: chainL n sup (sup i).toNat := by
  have hs := G.sup_lt i h0 hi
  obtain ⟨u, hu⟩ := Int.eq_ofNat_of_zero_le hs.1
  rw [hu, Int.toNat_natCast]
  unfold chainL
  rw [show n + 2 = (n + 1) + 1 from rfl, chainF, if_neg (by omega), Int.toNat_natCast, hu]
  congr 1
  have h1 := G.rank_lt hi (j := u) (.inl (by omega))
  have h2 := rank_le (sup := sup) (fs := fs) n i
  exact G.chainF_eq _ _ u (by omega) (by omega) (by omega)
/-- Induction along the chain. -/
theorem Good.up_ind (G : Good n sup fs face) {P : Nat → Prop} (h0 : P 0) (hs : ∀ i, 0 < i → i < n → P (sup i).toNat → P i) : ∀ i, i < n → P i := by
  have key : ∀ d i, rank n sup fs i < d → i < n → P i := by
    intro d
    induction d with
    | zero => intro i h; omega
    | succ d ih =>
      intro i h hi
      by_cases hz : i = 0
      · subst hz; exact h0
      · have hu := G.sup_lt i (by omega) hi
        obtain ⟨u, hu'⟩ := Int.eq_ofNat_of_zero_le hu.1
        refine hs i (by omega) hi ?_
        rw [hu', Int.toNat_natCast]
        have := G.rank_lt hi (j := u) (.inl (by omega))
        exact ih u (by omega) (by omega)
  exact fun i => key (rank n sup fs i + 1) i (by omega)
theorem Good.chain_self (G : Good n sup fs face) {i : Nat} (hi : i < n) : i ∈ chainL n sup i := by
  by_cases h0 : i = 0
  · subst h0; rw [G.chain_zero]; simp
  · rw [G.chain_step (by omega) hi]; simp
theorem Good.chain_lt (G : Good n sup fs face) {i k : Nat} (hi : i < n) (h : k ∈ chainL n sup i) : k < n := by
  refine (G.up_ind (P := fun i => ∀ k, k ∈ chainL n sup i → k < n) ?_ ?_ i hi) k h
  · intro k h; rw [G.chain_zero] at h; have := G.pos; simp at h; omega
  · intro i h0 hi ih k h
    rw [G.chain_step h0 hi] at h
    rcases List.mem_cons.1 h with rfl | h
    · exact hi
    · exact ih k h
theorem Good.chain_top (G : Good n sup fs face) {i : Nat} (hi : i < n) : 0 ∈ chainL n sup i := by
  refine G.up_ind (P := fun i => 0 ∈ chainL n sup i) ?_ ?_ i hi
  · rw [G.chain_zero]; simp
  · intro i h0 hi ih
    rw [G.chain_step h0 hi]
    exact List.mem_cons_of_mem _ ih
theorem Good.chain_reach (G : Good n sup fs face) {i k : Nat} (hi : i < n) (h : k ∈ chainL n sup i) : Reach sup fs i k := by
  refine (G.up_ind (P := fun i => ∀ k, k ∈ chainL n sup i → Reach sup fs i k) ?_ ?_ i hi) k h
  · intro k h; rw [G.chain_zero] at h; simp at h; subst h; exact .refl _
  · intro i h0 hi ih k h
    rw [G.chain_step h0 hi] at h
    have hs := G.sup_lt i h0 hi
    rcases List.mem_cons.1 h with rfl | h
    · exact .refl _
    · exact .step (.inl (by omega)) (ih k h)
theorem Good.chain_up (G : Good n sup fs face) {i k j : Nat} (hi : i < n) (h : k ∈ chainL n sup i) (hj : (j : Int) = sup k) : j ∈ chainL n sup i := by
  refine (G.up_ind (P := fun i => ∀ k, k ∈ chainL n sup i → (j : Int) = sup k → j ∈ chainL n sup i) ?_ ?_ i hi) k h hj
  · intro k h hj
    rw [G.chain_zero] at h
    simp at h
    subst h
    rw [G.sup0] at hj
    omega
  · intro i h0 hi ih k h hj
    have hs := G.sup_lt i h0 hi
    rw [G.chain_step h0 hi] at h ⊢
    rcases List.mem_cons.1 h with rfl | h
    · refine List.mem_cons_of_mem _ ?_
      rw [← hj, Int.toNat_natCast]
      exact G.chain_self (by omega)
    · exact List.mem_cons_of_mem _ (ih k h hj)
/-- On a class's chain there is no interface but itself. -/
theorem Good.chain_face (G : Good n sup fs face) {i k : Nat} (hi : i < n) (h : k ∈ chainL n sup i) (hk : k ≠ i) : face k = false := by
  refine (G.up_ind (P := fun i => ∀ k, k ∈ chainL n sup i → k ≠ i → face k = false) ?_ ?_ i hi) k h hk
  · intro k h hk; rw [G.chain_zero] at h; simp at h; exact absurd h hk
  · intro i h0 hi ih k h hk
    rw [G.chain_step h0 hi] at h
    rcases List.mem_cons.1 h with rfl | h
    · exact absurd rfl hk
    · by_cases e : k = (sup i).toNat
      · subst e; exact G.up_class i h0 hi
      · exact ih k h e

/-- An interface, and all that it has, each once. -/
def addF (fs : Nat → List Nat) : Nat → List Nat → Nat → List Nat
  | 0, out, _ => out
  | d + 1, out, f => if f ∈ out then out else (fs f).foldl (addF fs d) (out ++ [f])
/-- All above a class. -/
def aboveL (n : Nat) (sup : Nat → Int) (fs : Nat → List Nat) (i : Nat) : List Nat :=
  (chainL n sup i).foldl (fun out k => (fs k).foldl (addF fs (n + 2)) out) (chainL n sup i)

/-- What an interface's adding keeps: no one but those of E lacks an interface of its own. -/
def Closed (fs : Nat → List Nat) (E : Nat → Prop) (out : List Nat) : Prop := ∀ x ∈ out, ¬ E x → ∀ g ∈ fs x, g ∈ out
theorem fold_adds (fs : Nat → List Nat) (add : List Nat → Nat → List Nat) (l : List Nat) (R : Nat → Prop) (E : Nat → Prop)
    (hadd : ∀ out g, g ∈ l → Closed fs E out → (∀ x ∈ out, x ∈ add out g) ∧ g ∈ add out g ∧ Closed fs E (add out g) ∧ (∀ x ∈ add out g, x ∈ out ∨ R x)) :
    ∀ out, Closed fs E out → (∀ x ∈ out, x ∈ l.foldl add out) ∧ (∀ g ∈ l, g ∈ l.foldl add out) ∧ Closed fs E (l.foldl add out) ∧ (∀ x ∈ l.foldl add out, x ∈ out ∨ R x) := by
  induction l with
  | nil => intro out h; exact ⟨fun x hx => hx, fun g hg => (by cases hg), h, fun x hx => .inl hx⟩
  | cons a l ih =>
    intro out h
    obtain ⟨h1, h2, h3, h4⟩ := hadd out a List.mem_cons_self h
    obtain ⟨k1, k2, k3, k4⟩ := ih (fun out g hg => hadd out g (List.mem_cons_of_mem _ hg)) (add out a) h3
    refine ⟨fun x hx => k1 x (h1 x hx), fun g hg => ?_, k3, fun x hx => ?_⟩
    · rcases List.mem_cons.1 hg with rfl | hg
      · exact k1 _ h2
      · exact k2 g hg
    · rcases k4 x hx with h | h
      · exact h4 x h
      · exact .inr h
theorem Good.addF_law (G : Good n sup fs face) (d : Nat) : ∀ (f : Nat) (out : List Nat) (E : Nat → Prop), f < n → rank n sup fs f < d → Closed fs E out →
    (∀ x ∈ out, x ∈ addF fs d out f) ∧ f ∈ addF fs d out f ∧ Closed fs E (addF fs d out f) ∧ (∀ x ∈ addF fs d out f, x ∈ out ∨ Reach sup fs f x) := by
  induction d with
  | zero => intro f out E _ h; omega
  | succ d ih =>
    intro f out E hf hr hc
    simp only [addF]
    by_cases hin : f ∈ out
    · rw [if_pos hin]
      exact ⟨fun x hx => hx, hin, hc, fun x hx => .inl hx⟩
    · rw [if_neg hin]
      have hc2 : Closed fs (fun x => E x ∨ x = f) (out ++ [f]) := by
        intro x hx hE g hg
        rcases List.mem_append.1 hx with hx | hx
        · exact List.mem_append_left _ (hc x hx (fun h => hE (.inl h)) g hg)
        · simp at hx; exact absurd (.inr hx) hE
      have key := fold_adds fs (addF fs d) (fs f) (fun x => Reach sup fs f x) (fun x => E x ∨ x = f) (fun out g hg hc => by
        have hs : Step sup fs f g := .inr hg
        obtain ⟨a1, a2, a3, a4⟩ := ih g out _ (G.step_lt hf hs) (by have := G.rank_lt hf hs; omega) hc
        exact ⟨a1, a2, a3, fun x hx => (a4 x hx).imp id (fun h => .step hs h)⟩) (out ++ [f]) hc2
      obtain ⟨k1, k2, k3, k4⟩ := key
      refine ⟨fun x hx => k1 x (List.mem_append_left _ hx), k1 f (by simp), fun x hx hE g hg => ?_, fun x hx => ?_⟩
      · by_cases e : x = f
        · subst e; exact k2 g hg
        · exact k3 x hx (fun h => h.elim hE e) g hg
      · rcases k4 x hx with h | h
        · rcases List.mem_append.1 h with h | h
          · exact .inl h
          · simp at h; subst h; exact .inr (.refl _)
        · exact .inr h
theorem Good.addF_depth (G : Good n sup fs face) (d : Nat) : ∀ (d' f : Nat) (out : List Nat), f < n → rank n sup fs f < d → rank n sup fs f < d' → addF fs d out f = addF fs d' out f := by
  induction d with
  | zero => intro d' f out _ h; omega
  | succ d ih =>
    intro d' f out hf h h'
    obtain ⟨e, rfl⟩ : ∃ e, d' = e + 1 := ⟨d' - 1, by omega⟩
    simp only [addF]
    have : ∀ (l : List Nat) (out : List Nat), (∀ g ∈ l, g ∈ fs f) → l.foldl (addF fs d) out = l.foldl (addF fs e) out := by
      intro l
      induction l with
      | nil => intro out _; rfl
      | cons g l ihl =>
        intro out hl
        have hs : Step sup fs f g := .inr (hl g List.mem_cons_self)
        have hr := G.rank_lt hf hs
        rw [List.foldl_cons, List.foldl_cons, ih e g out (G.step_lt hf hs) (by omega) (by omega)]
        exact ihl _ (fun x hx => hl x (List.mem_cons_of_mem _ hx))
    rw [this (fs f) _ (fun g h => h)]
theorem Good.mem_above (G : Good n sup fs face) {i j : Nat} (hi : i < n) : j ∈ aboveL n sup fs i ↔ Reach sup fs i j := by
  unfold aboveL
  have hadd : ∀ out g, g < n → ∀ E, Closed fs E out → (∀ x ∈ out, x ∈ addF fs (n + 2) out g) ∧ g ∈ addF fs (n + 2) out g ∧ Closed fs E (addF fs (n + 2) out g) ∧ (∀ x ∈ addF fs (n + 2) out g, x ∈ out ∨ Reach sup fs g x) :=
    fun out g hg E hc => G.addF_law (n + 2) g out E hg (by have := rank_le (sup := sup) (fs := fs) n g; omega) hc
  have inner : ∀ k, k ∈ chainL n sup i → ∀ out, Closed fs (fun x => x ∈ chainL n sup i) out →
      (∀ x ∈ out, x ∈ (fs k).foldl (addF fs (n + 2)) out) ∧ (∀ g ∈ fs k, g ∈ (fs k).foldl (addF fs (n + 2)) out) ∧ Closed fs (fun x => x ∈ chainL n sup i) ((fs k).foldl (addF fs (n + 2)) out) ∧ (∀ x ∈ (fs k).foldl (addF fs (n + 2)) out, x ∈ out ∨ Reach sup fs i x) := by
    intro k hk
    have hkn := G.chain_lt hi hk
    have hik := G.chain_reach hi hk
    exact fold_adds fs (addF fs (n + 2)) (fs k) (fun x => Reach sup fs i x) _ (fun out g hg hc => by
      have hs : Step sup fs k g := .inr hg
      obtain ⟨a1, a2, a3, a4⟩ := hadd out g (G.step_lt hkn hs) _ hc
      exact ⟨a1, a2, a3, fun x hx => (a4 x hx).imp id (fun h => hik.trans (.step hs h))⟩)
  have outer : ∀ (l : List Nat), (∀ k ∈ l, k ∈ chainL n sup i) → ∀ out, Closed fs (fun x => x ∈ chainL n sup i) out →
      (∀ x ∈ out, x ∈ l.foldl (fun out k => (fs k).foldl (addF fs (n + 2)) out) out) ∧ (∀ k ∈ l, ∀ g ∈ fs k, g ∈ l.foldl (fun out k => (fs k).foldl (addF fs (n + 2)) out) out) ∧ Closed fs (fun x => x ∈ chainL n sup i) (l.foldl (fun out k => (fs k).foldl (addF fs (n + 2)) out) out) ∧ (∀ x ∈ l.foldl (fun out k => (fs k).foldl (addF fs (n + 2)) out) out, x ∈ out ∨ Reach sup fs i x) := by
    intro l
    induction l with
    | nil => intro _ out hc; exact ⟨fun x hx => hx, fun k hk => (by cases hk), hc, fun x hx => .inl hx⟩
    | cons a l ih =>
      intro hl out hc
      obtain ⟨a1, a2, a3, a4⟩ := inner a (hl a List.mem_cons_self) out hc
      obtain ⟨b1, b2, b3, b4⟩ := ih (fun k hk => hl k (List.mem_cons_of_mem _ hk)) _ a3
      refine ⟨fun x hx => b1 x (a1 x hx), fun k hk g hg => ?_, b3, fun x hx => ?_⟩
      · rcases List.mem_cons.1 hk with rfl | hk
        · exact b1 g (a2 g hg)
        · exact b2 k hk g hg
      · rcases b4 x hx with h | h
        · exact a4 x h
        · exact .inr h
  obtain ⟨c1, c2, c3, c4⟩ := outer (chainL n sup i) (fun k h => h) (chainL n sup i) (fun x hx hE => absurd hx hE)
  constructor
  · intro h
    rcases c4 j h with h | h
    · exact G.chain_reach hi h
    · exact h
  · intro h
    have cl : ∀ a b, Step sup fs a b → a ∈ (chainL n sup i).foldl (fun out k => (fs k).foldl (addF fs (n + 2)) out) (chainL n sup i) → b ∈ (chainL n sup i).foldl (fun out k => (fs k).foldl (addF fs (n + 2)) out) (chainL n sup i) := by
      intro a b hs ha
      have hia : Reach sup fs i a := (c4 a ha).elim (G.chain_reach hi) id
      have han := G.reach_lt hi hia
      rcases hs with hs | hs
      · by_cases hch : a ∈ chainL n sup i
        · exact c1 b (G.chain_up hi hch hs)
        · -- an interface: Object stands above it
          have a0 : 0 < a := by
            rcases Nat.eq_zero_or_pos a with h | h
            · subst h; rw [G.sup0] at hs; omega
            · exact h
          have hface : face a = true := by
            have last : ∀ x y, Reach sup fs x y → x < n → x ∈ chainL n sup i ∨ face x = true → y ∈ chainL n sup i ∨ face y = true := by
              intro x y h
              induction h with
              | refl => intro _ h; exact h
              | step s r ih =>
                intro hx hd
                refine ih (G.step_lt hx s) ?_
                rcases s with s | s
                · rcases hd with hd | hd
                  · exact .inl (G.chain_up hi hd s)
                  · rename_i p q _
                    by_cases hp : p = 0
                    · subst hp; rw [G.sup0] at s; omega
                    · rw [G.up_face p (by omega) hx hd] at s
                      have : q = 0 := by omega
                      subst this
                      exact .inl (G.chain_top hi)
                · exact .inr (G.fs_face _ hx _ s)
            exact (last i a hia hi (.inl (G.chain_self hi))).resolve_left hch
          rw [G.up_face a a0 han hface] at hs
          have : b = 0 := by omega
          subst this
          exact c1 0 (G.chain_top hi)
      · by_cases hch : a ∈ chainL n sup i
        · exact c2 a hch b hs
        · exact c3 a ha hch b hs
    have all : ∀ a b, Reach sup fs a b → a ∈ (chainL n sup i).foldl (fun out k => (fs k).foldl (addF fs (n + 2)) out) (chainL n sup i) → b ∈ (chainL n sup i).foldl (fun out k => (fs k).foldl (addF fs (n + 2)) out) (chainL n sup i) := by
      intro a b h
      induction h with
      | refl => intro h; exact h
      | step s r ih => intro h; exact ih (cl _ _ s h)
    exact all i j h (c1 i (G.chain_self hi))
theorem Good.top (G : Good n sup fs face) {i : Nat} (hi : i < n) : Reach sup fs i 0 := G.chain_reach hi (G.chain_top hi)

/-- The nearest class above both. -/
def commonL (n : Nat) (sup : Nat → Int) (a b : Nat) : Int := match (chainL n sup a).find? (fun k => decide (k ∈ chainL n sup b)) with
  | some k => k
  | none => -1
theorem Good.common_some (G : Good n sup fs face) {a b : Nat} (ha : a < n) (hb : b < n) : ∃ c : Nat, commonL n sup a b = c ∧ c ∈ chainL n sup a ∧ c ∈ chainL n sup b := by
  unfold commonL
  cases h : (chainL n sup a).find? (fun k => decide (k ∈ chainL n sup b)) with
  | none =>
    have := List.find?_eq_none.1 h 0 (G.chain_top ha)
    simp at this
    exact absurd (G.chain_top hb) this
  | some c =>
    exact ⟨c, rfl, List.mem_of_find?_eq_some h, by simpa using List.find?_some h⟩
theorem Good.common_self (G : Good n sup fs face) {a : Nat} (ha : a < n) : commonL n sup a a = a := by
  unfold commonL
  have hm := G.chain_self ha
  by_cases h0 : a = 0
  · subst h0; rw [G.chain_zero]; simp
  · rw [G.chain_step (by omega) ha] at hm ⊢
    rw [List.find?_cons_of_pos (by simp)]
/-- Of two on one chain the one is on the other's. -/
theorem Good.chain_two (G : Good n sup fs face) {i a b : Nat} (hi : i < n) (ha : a ∈ chainL n sup i) (hb : b ∈ chainL n sup i) : a ∈ chainL n sup b ∨ b ∈ chainL n sup a := by
  refine (G.up_ind (P := fun i => ∀ a b, a ∈ chainL n sup i → b ∈ chainL n sup i → a ∈ chainL n sup b ∨ b ∈ chainL n sup a) ?_ ?_ i hi) a b ha hb
  · intro a b ha hb
    rw [G.chain_zero] at ha hb
    simp at ha hb
    subst ha hb
    exact .inl (G.chain_self G.pos)
  · intro i h0 hi ih a b ha hb
    have hs := G.sup_lt i h0 hi
    have ha0 := ha
    have hb0 := hb
    rw [G.chain_step h0 hi] at ha hb
    rcases List.mem_cons.1 ha with rfl | ha
    · exact .inr hb0
    · rcases List.mem_cons.1 hb with rfl | hb
      · exact .inl ha0
      · exact ih a b ha hb
theorem Good.chain_sub (G : Good n sup fs face) {i k j : Nat} (hi : i < n) (hk : k ∈ chainL n sup i) (hj : j ∈ chainL n sup k) : j ∈ chainL n sup i := by
  have hkn := G.chain_lt hi hk
  refine (G.up_ind (P := fun k => ∀ j, j ∈ chainL n sup k → k ∈ chainL n sup i → j ∈ chainL n sup i) ?_ ?_ k hkn) j hj hk
  · intro j hj hk; rw [G.chain_zero] at hj; simp at hj; subst hj; exact hk
  · intro k h0 hkn ih j hj hk
    rw [G.chain_step h0 hkn] at hj
    have hs := G.sup_lt k h0 hkn
    rcases List.mem_cons.1 hj with rfl | hj
    · exact hk
    · exact ih j hj (G.chain_up hi hk (by omega))
/-- The nearest one: of those on both chains all others stand above it. -/
theorem Good.common_least (G : Good n sup fs face) {a b c k : Nat} (ha : a < n) (hc : commonL n sup a b = c) (hk : k ∈ chainL n sup a) (hkb : k ∈ chainL n sup b) : k ∈ chainL n sup c := by
  unfold commonL at hc
  have hf : ∀ c, (chainL n sup a).find? (fun k => decide (k ∈ chainL n sup b)) = some c → k ∈ chainL n sup c := by
    refine G.up_ind (P := fun a => k ∈ chainL n sup a → ∀ c, (chainL n sup a).find? (fun k => decide (k ∈ chainL n sup b)) = some c → k ∈ chainL n sup c) ?_ ?_ a ha hk
    · intro hk c h
      rw [G.chain_zero] at hk h
      simp at hk
      subst hk
      have := List.mem_of_find?_eq_some h
      simp at this
      subst this
      rw [G.chain_zero]; simp
    · intro i h0 hi ih hk c h
      have hk0 := hk
      rw [G.chain_step h0 hi] at h hk
      by_cases hib : i ∈ chainL n sup b
      · rw [List.find?_cons_of_pos (by simpa using hib)] at h
        cases h
        exact hk0
      · rw [List.find?_cons_of_neg (by simpa using hib)] at h
        rcases List.mem_cons.1 hk with rfl | hk
        · exact absurd hkb hib
        · exact ih hk c h
  cases h : (chainL n sup a).find? (fun k => decide (k ∈ chainL n sup b)) with
  | none => rw [h] at hc; simp at hc
  | some d =>
    rw [h] at hc
    have : d = c := Int.ofNat.inj hc
    subst this
    exact hf d h
theorem Good.chain_anti (G : Good n sup fs face) {a b : Nat} (ha : a < n) (hb : b < n) (h : a ∈ chainL n sup b) (k : b ∈ chainL n sup a) : a = b := G.anti ha (G.chain_reach ha k) (G.chain_reach hb h)
theorem Good.common_turn (G : Good n sup fs face) {a b : Nat} (ha : a < n) (hb : b < n) : commonL n sup b a = commonL n sup a b := by
  obtain ⟨c, hc, c1, c2⟩ := G.common_some ha hb
  obtain ⟨d, hd, d1, d2⟩ := G.common_some hb ha
  have h1 := G.common_least ha hc d2 d1
  have h2 := G.common_least hb hd c2 c1
  have := G.chain_anti (G.chain_lt ha c1) (G.chain_lt hb d1) h2 h1
  rw [hc, hd, this]
end
end Go.Proofs.YtbogcknkkbnfnaaDoor.Link

/- The chain: a class, the one above it, and so on. -/
namespace Go.Proofs.YtbogcknkkbnfnaaDoor
open Go.RowKit Go.Proofs.YtbogcknkkbnfnaaDoorW.PrintWords Go.Maps Go.WideMaps

/-- A set's steps, as the plain law has them. -/
abbrev supF (S : List Int) : Nat → Int := fun i => S.getD i 0
abbrev fsF (F : List (List Int)) : Nat → List Nat := fun i => (F.getD i []).map Int.toNat
abbrev faceF (L : List Cl) : Nat → Bool := fun i => (L.getD i zCl).face
abbrev GoodSet (N : Nat) (L : List Cl) (S : List Int) (F : List (List Int)) : Prop := Link.Good N (supF S) (fsF F) (faceF L)
abbrev ints (l : List Nat) : List Int := l.map (fun (x : Nat) => (x : Int))

theorem chainF_len (sup : Nat → Int) (d : Nat) : ∀ i, (Link.chainF sup d i).length ≤ d := by
  induction d with
  | zero => intro i; simp [Link.chainF]
  | succ d ih =>
    intro i
    simp only [Link.chainF]
    split
    · simp
    · have := ih (sup i.toNat)
      simp; omega
def ChainAt (N : Nat) (sup : Nat → Int) (i : Nat) (pre : List Nat) (k : Int) : Prop := (k = -1 ∧ pre = Link.chainL N sup i) ∨ ∃ j : Nat, k = j ∧ j < N ∧ pre ++ Link.chainL N sup j = Link.chainL N sup i
theorem ChainAt.len {N : Nat} {sup : Nat → Int} {i : Nat} {pre : List Nat} {k : Int} (h : ChainAt N sup i pre k) : pre.length ≤ N + 2 := by
  have hl := chainF_len sup (N + 2) i
  change (Link.chainL N sup i).length ≤ N + 2 at hl
  rcases h with ⟨_, rfl⟩ | ⟨j, _, _, h⟩
  · exact hl
  · rw [← h, List.length_append] at hl
    omega
open Classical in
noncomputable def mkR (N : Nat) (sup : Nat → Int) (fs : Nat → List Nat) (k : Int) : Nat := if k < 0 then 0 else Link.rank N sup fs k.toNat + 1
theorem ChainAt.next {N : Nat} {sup : Nat → Int} {fs : Nat → List Nat} {face : Nat → Bool} (G : Link.Good N sup fs face) {i : Nat} {pre : List Nat} {j : Nat} (h : ChainAt N sup i pre j) : ChainAt N sup i (pre ++ [j]) (sup j) ∧ mkR N sup fs (sup j) < mkR N sup fs j := by
  rcases h with ⟨h, _⟩ | ⟨j', hj, hN, h⟩
  · omega
  · obtain rfl : j = j' := by omega
    by_cases h0 : j = 0
    · subst h0
      rw [G.sup0]
      refine ⟨.inl ⟨rfl, ?_⟩, ?_⟩
      · rw [← h, G.chain_zero]
      · unfold mkR
        simp
    · have hs := G.sup_lt j (by omega) hN
      obtain ⟨u, hu⟩ := Int.eq_ofNat_of_zero_le hs.1
      rw [G.chain_step (by omega) hN, hu, Int.toNat_natCast] at h
      rw [hu]
      refine ⟨.inr ⟨u, rfl, by omega, by rw [← h]; simp⟩, ?_⟩
      have := G.rank_lt hN (j := u) (.inl (by omega))
      unfold mkR
      rw [if_neg (by omega), if_neg (by omega), Int.toNat_natCast, Int.toNat_natCast]
      omega
set_option maxRecDepth 100000 in
set_option maxHeartbeats 8000000 in
theorem chain_any (p g N cap m gs cs gf cf : Nat) (aV : Value) (L : List Cl) (S : List Int) (F : List (List Int)) (w : World) (hV : SV p g N cap m gs cs gf cf aV L S F w) (G : GoodSet N L S F) (i : Nat) (hi : i < N) :
    Calls Tryd.prog 72 #[.pointer (some ⟨p, 0, none⟩), .int .i64 i] w fun e w' => ∃ v, e = .returned v ∧ Below w.heap.size w w' ∧ kI.R 3 w' w.heap.size (fun _ => True) v (ints (Link.chainL N (supF S) i)) := by
  have hNb := hV.big
  have HV := hid hV
  have HG := hid G
  clear hV G
  go_enter Tryd.func72, Tryd.ntmps72
  go_wp2
  go_loopw [1, 4] (fun iV oV wr => ∃ (k : Int) (pre : List Nat), iV = .int .i64 k ∧ Hid (kI.R 3 wr w.heap.size (fun _ => True) oV (ints pre)) ∧ Hid (Below w.heap.size w wr) ∧ Hid (ChainAt N (supF S) i pre k)) (fun iV _ _ => mkR N (supF S) (fsF F) (intOf iV))
  case atStart => exact ⟨_, [], rfl, Kd.R_nil _ _ _ _ _, Below.refl _ _, .inr ⟨i, rfl, hi, rfl⟩⟩
  obtain ⟨k, pre, rfl, HR, HB, HC⟩ := hrel
  by_cases hk : k = -1
  · subst hk
    have HE := hid (show pre = Link.chainL N (supF S) i by
      rcases HC.out with ⟨_, h⟩ | ⟨j, h, _⟩
      · exact h
      · omega)
    go_wp2
    go_ret
    exact ⟨_, rfl, HB.out, by rw [← HE.out]; exact HR.out⟩
  · obtain ⟨j, rfl, hj⟩ : ∃ j : Nat, k = j ∧ j < N := by
      rcases HC.out with ⟨h, _⟩ | ⟨j, h1, h2, _⟩
      · exact absurd h hk
      · exact ⟨j, h1, h2⟩
    have b1 : ((j : Int) != -1) = true := by simp
    have hl := HC.out.len
    have HS := hid (HC.out.next HG.out)
    clear hk
    go_wp2_with (at_builtin; refine Kd.R_append kI w.heap.size rfl (.tmp 14) (.tmp 16) 75 3 _ 8 rfl Tryd.underlying75 infoInt rfl (by decide) (by decide) _ (ints pre) (j : Int) [.int .i64 (j : Int)] (fun _ => True) (fun _ => False) rfl rfl rfl (fun _ h => h.elim) (fun _ _ => trivial) HR.out HB.out HB.out.size (by simp; omega) ?_; intro v1 w1 hR1 hB1 _ _; have c2 := blk_cell (HV.out.step hB1).blk 2; have d0 := (HV.out.step hB1).supAt j hj)
    have HR1 : Hid (kI.R 3 w1 w.heap.size (fun _ => True) v1 (ints (pre ++ [j]))) := by
      have : ints (pre ++ [j]) = ints pre ++ [(j : Int)] := by simp [ints]
      rw [this]; exact hR1
    have HB1 := hid hB1
    clear hR1 hB1
    go_roundw
    case rel => exact ⟨_, pre ++ [j], rfl, HR1, HB1, HS.out.1⟩
    case measure => exact HS.out.2
end Go.Proofs.YtbogcknkkbnfnaaDoor

/- An interface, and all that it has: the function that adds itself. -/
namespace Go.Proofs.YtbogcknkkbnfnaaDoor
open Go.RowKit Go.Proofs.YtbogcknkkbnfnaaDoorW.PrintWords Go.Maps Go.WideMaps

theorem contains_any (A : Option Addr) (c : Nat) (xs : List Int) (x : Int) (w : World) (h : kI.C w A xs.length xs) (hb : xs.length ≤ 9223372036854775807) :
    Calls Tryd.prog 66 #[.slice A xs.length c, .int .i64 x] w fun e w' => e = .returned (.bool (xs.contains x)) ∧ w' = w := by
  by_cases hn : 0 < xs.length
  · obtain ⟨b, off, hA⟩ := C_plain h hn (by decide)
    subst hA
    have := Tryd.slices_Contains_int b off xs.length c xs x w (Nat.le_refl _) hb (fun j hj => C_scalar (h1 := fun _ => rfl) h 0 j hj)
    rw [List.take_length] at this
    exact this
  · have h0 : xs = [] := List.eq_nil_of_length_eq_zero (by omega)
    subst h0
    exact Tryd.slices_Contains_int_empty A c x w

theorem nodup_len (N : Nat) : ∀ l : List Nat, l.Nodup → (∀ x ∈ l, x < N) → l.length ≤ N := by
  induction N with
  | zero =>
    intro l _ h
    cases l with
    | nil => exact Nat.le_refl _
    | cons a l => exact absurd (h a List.mem_cons_self) (by omega)
  | succ N ih =>
    intro l hd h
    by_cases hm : N ∈ l
    · have := ih (l.erase N) (hd.erase N) (fun x hx => by
        have h1 := (hd.mem_erase_iff).1 hx
        have := h x h1.2
        omega)
      rw [List.length_erase_of_mem hm] at this
      omega
    · have := ih l hd (fun x hx => by
        have h1 := h x hx
        have : x ≠ N := fun e => hm (e ▸ hx)
        omega)
      omega
def Fit (N : Nat) (out : List Nat) : Prop := out.Nodup ∧ ∀ x ∈ out, x < N
theorem Fit.len {N : Nat} {out : List Nat} (h : Fit N out) : out.length ≤ N := nodup_len N out h.1 h.2
theorem Fit.put {N : Nat} {out : List Nat} (h : Fit N out) {f : Nat} (hf : f < N) (hn : f ∉ out) : Fit N (out ++ [f]) := by
  refine ⟨?_, fun x hx => ?_⟩
  · rw [List.nodup_append]
    refine ⟨h.1, by simp, fun a ha b hb e => ?_⟩
    simp at hb
    subst hb
    subst e
    exact hn ha
  · rcases List.mem_append.1 hx with hx | hx
    · exact h.2 x hx
    · simp at hx; omega
theorem R_ne {α : Type} {d : Kd α} {e : Nat} {w : World} {base : Nat} {ok : Nat → Prop} {v : Value} {xs : List α} (h : d.R e w base ok v xs) {g t : Nat} {cs : Array Value} (hb : w.heap[g]? = some (.cells cs t (0, 0))) (ht : e ≠ t) : some g ≠ v.ownBlock := by
  intro hg
  obtain ⟨inner, ho⟩ := Kd.R_own h
  obtain ⟨cells, hc⟩ := own_typed ho g hg.symm
  rw [hc] at hb
  injection hb with hb
  injection hb with h1 h2 h3
  exact ht h2
/-- The worlds of one class's adding: b1 and b5 hold what is captured, b4 what has been found. -/
structure LW (w0 : World) (p b1 b4 b5 N : Nat) (out : List Nat) (w : World) : Prop where
  below : Below w0.heap.size w0 w
  k1 : w.heap[b1]? = some (.cells #[.pointer (some ⟨p, 0, none⟩)] 25 (0, 0))
  k5 : w.heap[b5]? = some (.cells #[.func (.func 128) #[] #[.pointer (some ⟨b4, 0, none⟩), .pointer (some ⟨b1, 0, none⟩), .pointer (some ⟨b5, 0, none⟩)]] 149 (0, 0))
  row : ∃ A c, w.heap[b4]? = some (.cells #[.slice A out.length c] 75 (0, 0)) ∧ kI.R 3 w w0.heap.size (fun _ => True) (.slice A out.length c) (ints out)
  fit : Fit N out
  base : w0.heap.size ≤ b4
section
variable {w0 w w1 : World} {p b1 b4 b5 N : Nat} {out : List Nat}
theorem LW.step (h : LW w0 p b1 b4 b5 N out w) (hb : Below w.heap.size w w1) : LW w0 p b1 b4 b5 N out w1 := by
  obtain ⟨A, c, h1, h2⟩ := h.row
  exact ⟨below_weaken h.below h.below.size hb, blk_below h.k1 hb, blk_below h.k5 hb, ⟨A, c, blk_below h1 hb, Kd.R_below h2 hb⟩, h.fit, h.base⟩
theorem LW.put (h : LW w0 p b1 b4 b5 N out w) {v v1 : Value} (hv : kI.R 3 w w0.heap.size (fun _ => True) v (ints out)) {f : Nat} (hf : f < N) (hn : f ∉ out) (hR : kI.R 3 w1 w0.heap.size (fun _ => True) v1 (ints out ++ [(f : Int)])) (hB : Below w0.heap.size w0 w1) (hG : w.grownBy w1 v.ownBlock) :
    w1.heap[b4]? = some (.cells #[v] 75 (0, 0)) → LW w0 p b1 b4 b5 N (out ++ [f]) (w1.setCell ⟨b4, 0, none⟩ v1) := by
  intro k4
  have k1 := blk_grown h.k1 hG (R_ne hv h.k1 (by decide))
  have k5 := blk_grown h.k5 hG (R_ne hv h.k5 (by decide))
  have n1 := blk_ne k1 k4 (by decide)
  have n5 := blk_ne k5 k4 (by decide)
  have he : ints (out ++ [f]) = ints out ++ [(f : Int)] := by simp [ints]
  rw [← he] at hR
  obtain ⟨A, c, rfl⟩ := Kd.R_slice hR
  have hl : (ints (out ++ [f])).length = (out ++ [f]).length := by simp [ints]
  rw [hl] at hR ⊢
  refine ⟨hB.setCell h.base _, blk_far k1 n1 _, blk_far k5 n5 _, ⟨A, c, blk_put k4 0 _ rfl, ?_⟩, h.fit.put hf hn, h.base⟩
  exact Kd.R_mono (Kd.R_step (Kd.R_types hR k4 (by decide)) (fun k hk _ => Below.heap_setCell w1 ⟨b4, 0, none⟩ _ k hk.2)) (fun _ hk => hk.1)
end
theorem addF_unfold {N : Nat} {L : List Cl} {S : List Int} {F : List (List Int)} (G : GoodSet N L S F) {f : Nat} (hf : f < N) (out : List Nat) : Link.addF (fsF F) (N + 2) out f = if f ∈ out then out else (fsF F f).foldl (Link.addF (fsF F) (N + 2)) (out ++ [f]) := by
  have := G.addF_depth (N + 2) (N + 3) f out hf (by have := Link.rank_le (sup := supF S) (fs := fsF F) N f; omega) (by have := Link.rank_le (sup := supF S) (fs := fsF F) N f; omega)
  rw [this]
  rfl
def AddAll (S : List Int) (F : List (List Int)) (w0 : World) (p b1 b4 b5 N : Nat) (d : Nat) : Prop :=
  ∀ (f : Nat) (out : List Nat) (w : World), f < N → Link.rank N (supF S) (fsF F) f < d → LW w0 p b1 b4 b5 N out w →
    Calls Tryd.prog 128 #[.int .i64 f, .pointer (some ⟨b4, 0, none⟩), .pointer (some ⟨b1, 0, none⟩), .pointer (some ⟨b5, 0, none⟩)] w (fun e w' => e = .returned (.tuple #[]) ∧ LW w0 p b1 b4 b5 N (Link.addF (fsF F) (N + 2) out f) w')
set_option maxRecDepth 100000 in
set_option maxHeartbeats 8000000 in
theorem add_step (p g N cap m gs cs gf cf : Nat) (aV : Value) (L : List Cl) (S : List Int) (F : List (List Int)) (w0 : World) (hV : SV p g N cap m gs cs gf cf aV L S F w0) (G : GoodSet N L S F) (b1 b4 b5 d : Nat) (ih : AddAll S F w0 p b1 b4 b5 N d) : AddAll S F w0 p b1 b4 b5 N (d + 1) := by
  intro f out w hf hrk hLW
  have IH := hid ih
  have hNb := hV.big
  have HV := hid hV
  have HG := hid G
  have HRK := hid hrk
  obtain ⟨A, c, k4, hR⟩ := hLW.row
  have hl := hLW.fit.len
  have HL := hid hLW
  have hil : (ints out).length = out.length := by simp [ints]
  have HC : Hid (kI.C w A (ints out).length (ints out)) := (Kd.R_reads' hR).2.2
  have hx4 := blk_cell k4 0
  have HCT := hid (contains_any A c (ints out) (f : Int) w HC.out (by rw [hil]; omega))
  rw [hil] at HCT
  have HR := hid hR
  have HK4 := hid k4
  have hcb : (ints out).contains (f : Int) = decide (f ∈ out) := by
    rw [Bool.eq_iff_iff]
    simp [ints]
    constructor
    · rintro ⟨a, ha, e⟩
      have : a = f := by omega
      rw [← this]; exact ha
    · intro h
      exact ⟨f, h, rfl⟩
  have HU := hid (addF_unfold G hf out)
  have lf : (f : Int) < N := by omega
  clear hil HC hR hV G hrk hLW ih
  rw [hcb] at HCT
  clear hcb
  by_cases hin : f ∈ out
  · have HE := hid (show Link.addF (fsF F) (N + 2) out f = out by rw [HU.out, if_pos hin])
    have HCT' := hid (show Calls _ _ _ w (fun e w' => e = .returned (.bool true) ∧ w' = w) by have := HCT.out; rw [decide_eq_true hin] at this; exact this)
    clear hin HCT
    go_enter Tryd.func128, Tryd.ntmps128
    go_wp2_with (go_at_call 66; refine HCT'.out.mono ?_; rintro e w' ⟨rfl, rfl⟩)
    refine bodyPost_ret (results_none rfl _ _ _) rfl ?_
    exact ⟨rfl, by rw [HE.out]; exact HL.out⟩
  · have HE := hid (show Link.addF (fsF F) (N + 2) out f = (fsF F f).foldl (Link.addF (fsF F) (N + 2)) (out ++ [f]) by rw [HU.out, if_neg hin])
    have HCT' := hid (show Calls _ _ _ w (fun e w' => e = .returned (.bool false) ∧ w' = w) by have := HCT.out; rw [decide_eq_false hin] at this; exact this)
    have HIN := hid hin
    clear hin HCT
    obtain ⟨A2, c2, d1, hlc, hC2⟩ := HV.out.facesAt f hf
    obtain ⟨hfl, hfr⟩ := HV.out.facesR f hf
    have HFR := hid hfr
    have HC2 := hid hC2
    have h3 := HV.out.blk
    have HX := hid (fun W (hb : Below w0.heap.size w0 W) => (⟨blk_cell (blk_below h3 hb) 3, (hb.cell (World.block_lt_of_cell? w0 _ d1)).trans d1⟩ : W.cell? ⟨p, 3, none⟩ = some (.slice (some ⟨gf, 0, none⟩) N cf) ∧ W.cell? ⟨gf, f, none⟩ = some (.slice A2 (F.getD f []).length c2)))
    clear hfr hC2 h3 d1
    go_enter Tryd.func128, Tryd.ntmps128
    go_upto_region 2 with (first | (go_at_call 66; refine HCT'.out.mono ?_; rintro e w' ⟨rfl, rfl⟩) | (at_builtin; refine Kd.R_append kI w0.heap.size rfl (.tmp 10) (.tmp 12) 75 3 _ 8 rfl Tryd.underlying75 infoInt rfl (by decide) (by decide) _ (ints out) (f : Int) [.int .i64 (f : Int)] (fun _ => True) (fun _ => False) rfl rfl rfl (fun _ h => h.elim) (fun _ _ => trivial) HR.out HL.out.below HL.out.below.size (by simp; omega) ?_; intro v1 w1 hR1 hB1 hG1 _; have k41 := blk_grown HK4.out hG1 (R_ne HR.out HK4.out (by decide)); have H2 := hid (HL.out.put HR.out hf HIN.out hR1 hB1 hG1 k41); obtain ⟨A1, n1, c1, rfl⟩ := R_sl hR1; have e1 := blk_cell k41 0; have e2 := blk_frozen k41 0))
    generalize World.setCell _ _ _ = w2 at *
    have hx1 := blk_cell H2.out.k1 0
    obtain ⟨c3, d1⟩ := HX.out w2 H2.out.below
    clear k4 hx4 hB1 hG1 k41 hR1 e1 e2
    have hlm : (fsF F f).length = (F.getD f []).length := by simp [fsF]
    have HM := hid hlm
    have HRK2 := hid HRK.out
    generalize hM : (F.getD f []).length = M at *
    have HMM := hid hM
    clear hM hlm
    go_wp2
    go_loopw [6, 22] (fun gV iV wr => ∃ q : Nat, q ≤ M ∧ iV = .int .i64 q ∧ Hid (LW w0 p b1 b4 b5 N (((fsF F f).take q).foldl (Link.addF (fsF F) (N + 2)) (out ++ [f])) wr)) (fun _ iV _ => M - (intOf iV).toNat)
    case atStart => exact ⟨0, by omega, rfl, H2⟩
    obtain ⟨q, hq, rfl, HW⟩ := hrel
    by_cases hqM : q < M
    · obtain ⟨b, off, hA⟩ := C_plain HC2.out (by omega) (by decide)
      subst hA
      have hcell := C_scalar (h1 := fun _ => rfl) HC2.out 0 q (by rw [HMM.out]; exact hqM)
      obtain ⟨v, hv⟩ : ∃ v : Nat, (F.getD f [])[q]? = some (v : Int) := by
        have hm : (F.getD f [])[q]'(by rw [HMM.out]; exact hqM) ∈ F.getD f [] := List.getElem_mem _
        obtain ⟨r0, _⟩ := HFR.out _ hm
        obtain ⟨v, hv⟩ := Int.eq_ofNat_of_zero_le r0
        exact ⟨v, by rw [List.getElem?_eq_getElem (by rw [HMM.out]; exact hqM), hv]⟩
      obtain ⟨_, hvN⟩ := HFR.out _ (List.mem_of_getElem? hv)
      have hvq : (fsF F f)[q]? = some v := by simp only [fsF, List.getElem?_map, hv]; rfl
      have hs : Link.Step (supF S) (fsF F) f v := .inr (List.mem_of_getElem? hvq)
      have hrv := HG.out.rank_lt hf hs
      rw [List.getD_eq_getElem?_getD, hv] at hcell
      simp only [Option.getD_some] at hcell
      have d2 := (HW.out.below.cell (World.block_lt_of_cell? w0 _ hcell)).trans hcell
      have d3 := blk_cell HW.out.k5 0
      have HN := hid (show ((fsF F f).take (q + 1)).foldl (Link.addF (fsF F) (N + 2)) (out ++ [f]) = Link.addF (fsF F) (N + 2) (((fsF F f).take q).foldl (Link.addF (fsF F) (N + 2)) (out ++ [f])) v by
        rw [List.take_add_one, hvq]; simp)
      have HIH := hid (IH.out v _ wr (by omega) (by have := HRK.out; omega) HW.out)
      clear hcell hv hvq hs hrv hx1 c3 d1
      go_wp2_with (go_at_call 128; refine HIH.out.mono ?_; rintro e w3 ⟨rfl, hW3⟩; have HW3 := hid hW3; clear hW3)
      go_roundw
      case rel => exact ⟨q + 1, by omega, by go_num, by rw [HN.out]; exact HW3⟩
      case measure => simp [intOf]; omega
    · have HF := hid (show LW w0 p b1 b4 b5 N (Link.addF (fsF F) (N + 2) out f) wr by
        have := HW.out
        rw [List.take_of_length_le (by rw [HM.out]; omega)] at this
        rw [HE.out]
        exact this)
      go_wp2
      go_end0
      exact ⟨rfl, HF.out⟩
theorem add_all (p g N cap m gs cs gf cf : Nat) (aV : Value) (L : List Cl) (S : List Int) (F : List (List Int)) (w0 : World) (hV : SV p g N cap m gs cs gf cf aV L S F w0) (G : GoodSet N L S F) (b1 b4 b5 d : Nat) : AddAll S F w0 p b1 b4 b5 N d := by
  induction d with
  | zero => intro f out w _ h; omega
  | succ d ih => exact add_step p g N cap m gs cs gf cf aV L S F w0 hV G b1 b4 b5 d ih
end Go.Proofs.YtbogcknkkbnfnaaDoor

/- lists: all above each class. What stays, in plain words. -/
namespace Go.Proofs.YtbogcknkkbnfnaaDoor
open Go.RowKit Go.Proofs.YtbogcknkkbnfnaaDoorW.PrintWords Go.Maps Go.WideMaps

theorem chain_nodup {N : Nat} {sup : Nat → Int} {fs : Nat → List Nat} {face : Nat → Bool} (G : Link.Good N sup fs face) {i : Nat} (hi : i < N) : (Link.chainL N sup i).Nodup := by
  refine G.up_ind (P := fun i => (Link.chainL N sup i).Nodup) ?_ ?_ i hi
  · rw [G.chain_zero]; simp
  · intro i h0 hi ih
    rw [G.chain_step h0 hi]
    have hs := G.sup_lt i h0 hi
    refine List.nodup_cons.2 ⟨fun hm => ?_, ih⟩
    have h1 := G.chain_reach (i := (sup i).toNat) (by omega) hm
    exact G.ring i hi ⟨_, .inl (by omega), h1⟩
theorem chain_fit {N : Nat} {sup : Nat → Int} {fs : Nat → List Nat} {face : Nat → Bool} (G : Link.Good N sup fs face) {i : Nat} (hi : i < N) : Fit N (Link.chainL N sup i) := ⟨chain_nodup G hi, fun _ hx => G.chain_lt hi hx⟩

/-- What joined has laid, seen later, when the set's block has been given what stands above. -/
theorem JSt.later {w0 : World} {p m : Nat} {cV : Value} {L : List Cl} {sV fV : Value} {w1 : World} (h : JSt w0 p m cV L sV (supsL L L.length) fV (facesL L L.length) w1) (h8 : 0 < L.length) (hl : L.length ≤ 72) (hok : ∀ x ∈ L, clOk x) :
    ∃ g cap gs cs gf cf, cV = .slice (some ⟨g, 0, none⟩) L.length cap ∧ sV = .slice (some ⟨gs, 0, none⟩) L.length cs ∧ fV = .slice (some ⟨gf, 0, none⟩) L.length cf ∧
      ∀ (w : World) (aV : Value), KpB p w1 w → w.heap[p]? = some (.cells #[cV, .map (some m), sV, fV, aV] 92 (0, 0)) → SV p g L.length cap m gs cs gf cf aV L (supsL L L.length) (facesL L L.length) w := by
  obtain ⟨g, cap, gs, cs, gf, cf, hc, hs, hf, hV⟩ := h.view h8 hl hok
  have l1 : (supsL L L.length).length = L.length := by simp [supsL]
  have l2 : (facesL L L.length).length = L.length := by simp [facesL]
  refine ⟨g, cap, gs, cs, gf, cf, hc, hs, hf, fun w aV hk hb => ?_⟩
  have r1 := KpB.row hk h.row h.blk (by decide)
  have r2 := KpB.row hk h.sup h.blk (by decide)
  have r3 := KpB.row hk h.faces h.blk (by decide)
  rw [hc] at r1
  rw [hs] at r2
  rw [hf] at r3
  have k1 := (Kd.R_reads' r1).2.2
  have k2 := (Kd.R_reads' r2).2.2
  have k3 := (Kd.R_reads' r3).2.2
  rw [l1] at k2
  rw [l2] at k3
  rw [hc, hs, hf] at hb
  exact ⟨hb, rfl, l1, l2, hl, k1, h.map.move (hk.block m h.map.lt (h.map.notCells h.blk)), k2, k3, hV.supR, hV.facesR⟩
/-- The set's block while all above each class is laid: w1 is the world ahead of it. -/
structure LSt (w0 w1 : World) (p b1 : Nat) (c0 c1 c2 c3 : Value) (A : List (List Int)) (aV : Value) (w : World) : Prop where
  below : Below w0.heap.size w0 w
  kp : KpB p w1 w
  blk : w.heap[p]? = some (.cells #[c0, c1, c2, c3, aV] 92 (0, 0))
  k1 : w.heap[b1]? = some (.cells #[.pointer (some ⟨p, 0, none⟩)] 25 (0, 0))
  row : kIs.R 75 w w1.heap.size (fun _ => True) aV A
section
variable {w0 w1 w w' : World} {p b1 : Nat} {c0 c1 c2 c3 aV : Value} {A : List (List Int)}
theorem LSt.step (h : LSt w0 w1 p b1 c0 c1 c2 c3 A aV w) (hb : Below w.heap.size w w') : LSt w0 w1 p b1 c0 c1 c2 c3 A aV w' :=
  ⟨below_weaken h.below h.below.size hb, h.kp.trans (KpB.of hb), blk_below h.blk hb, blk_below h.k1 hb, Kd.R_below h.row hb⟩
theorem LSt.put (h : LSt w0 w1 p b1 c0 c1 c2 c3 A aV w) (hp : w0.heap.size ≤ p) {v1 : Value} {x : List Int} (hR : kIs.R 75 w' w1.heap.size (fun _ => True) v1 (A ++ [x])) (hB : Below w0.heap.size w0 w') (hG : w.grownBy w' aV.ownBlock) :
    LSt w0 w1 p b1 c0 c1 c2 c3 (A ++ [x]) v1 (w'.setCell ⟨p, 4, none⟩ v1) ∧ w'.heap[p]? = some (.cells #[c0, c1, c2, c3, aV] 92 (0, 0)) ∧ w'.heap[b1]? = some (.cells #[.pointer (some ⟨p, 0, none⟩)] 25 (0, 0)) := by
  have kb := blk_grown h.blk hG (Kd.R_ne h.row h.blk (by decide))
  have k1 := blk_grown h.k1 hG (Kd.R_ne h.row h.k1 (by decide))
  have hkp : KpB p w1 w' := ⟨Nat.le_trans h.kp.size hG.size, fun k hk hne => (hG.block k (Nat.lt_of_lt_of_le hk h.kp.size) (fun e => by
    obtain ⟨inner, ho⟩ := Kd.R_own h.row
    rcases ho.2 with ⟨e2, _⟩ | ⟨g, cap, cur, e2, hg, _⟩
    · rw [e2] at e; simp [Value.ownBlock] at e
    · rw [e2] at e
      have : k = g := by simpa [Value.ownBlock] using e
      omega)).trans (h.kp.block k hk hne)⟩
  have n1 := blk_ne k1 kb (by decide)
  refine ⟨⟨hB.setCell hp _, hkp.trans ⟨by simp [World.setCell], fun k _ hk => Below.heap_setCell w' ⟨p, 4, none⟩ _ k hk⟩, blk_put kb 4 v1 rfl, blk_far k1 n1 _, Kd.R_set hR kb (by decide) 4 _⟩, kb, k1⟩
end
/-- All above the first k. -/
def aboves (N : Nat) (S : List Int) (F : List (List Int)) (k : Nat) : List (List Int) := (List.range k).map (fun i => ints (Link.aboveL N (supF S) (fsF F) i))
theorem aboves_succ (N : Nat) (S : List Int) (F : List (List Int)) (k : Nat) : aboves N S F (k + 1) = aboves N S F k ++ [ints (Link.aboveL N (supF S) (fsF F) k)] := by simp [aboves, List.range_succ]
end Go.Proofs.YtbogcknkkbnfnaaDoor

