/- The plain law of words: how high a word stands; what two come to stands lower than the first, or is it; no program in sight. -/
import Derived.Test.YtbogcknkkbnfnaaDoorU2
import Derived.Test.YtbogcknkkbnfnaaDoorU3
namespace Go.Proofs.YtbogcknkkbnfnaaDoor
open Go.RowKit Go.Proofs.YtbogcknkkbnfnaaDoorW.PrintWords

namespace Link
variable {sup : Nat → Int} {fs : Nat → List Nat} {n : Nat} {face : Nat → Bool}
open Classical in
theorem Good.rank_n (G : Good n sup fs face) {i : Nat} (hi : i < n) : rank n sup fs i < n := by
  unfold rank
  have := filter_lt (List.range n) (fun j => decide (Above sup fs i j)) (fun _ => true) (fun _ _ => rfl) i (by simpa using hi) (decide_eq_false (G.ring i hi)) rfl
  have e : ((List.range n).filter (fun _ => true)).length = n := by rw [List.filter_eq_self.2 (fun _ _ => rfl), List.length_range]
  omega
theorem Good.chain_len (G : Good n sup fs face) {i : Nat} (hi : i < n) : (chainL n sup i).length ≤ n := by
  have key : ∀ i, i < n → (chainL n sup i).length ≤ rank n sup fs i + 1 := by
    refine G.up_ind (P := fun i => (chainL n sup i).length ≤ rank n sup fs i + 1) ?_ ?_
    · rw [G.chain_zero]; simp
    · intro i h0 hi ih
      rw [G.chain_step h0 hi, List.length_cons]
      have hs := G.sup_lt i h0 hi
      have := G.rank_lt hi (j := (sup i).toNat) (.inl (by omega))
      omega
  have := key i hi
  have := G.rank_n hi
  omega
theorem Good.chain_len1 (G : Good n sup fs face) {i : Nat} (hi : i < n) : 1 ≤ (chainL n sup i).length := by
  have := G.chain_self hi
  cases h : chainL n sup i with
  | nil => rw [h] at this; cases this
  | cons a l => simp
theorem Good.chain_len2 (G : Good n sup fs face) {i : Nat} (h0 : i ≠ 0) (hi : i < n) : 2 ≤ (chainL n sup i).length := by
  rw [G.chain_step (by omega) hi, List.length_cons]
  have hs := G.sup_lt i (by omega) hi
  have := G.chain_len1 (i := (sup i).toNat) (by omega)
  omega
theorem Good.chain_less (G : Good n sup fs face) {i c : Nat} (hi : i < n) (hc : c ∈ chainL n sup i) (hne : c ≠ i) : (chainL n sup c).length < (chainL n sup i).length := by
  refine (G.up_ind (P := fun i => ∀ c, c ∈ chainL n sup i → c ≠ i → (chainL n sup c).length < (chainL n sup i).length) ?_ ?_ i hi) c hc hne
  · intro c hc hne; rw [G.chain_zero] at hc; simp at hc; exact absurd hc hne
  · intro i h0 hi ih c hc hne
    rw [G.chain_step h0 hi] at hc ⊢
    rcases List.mem_cons.1 hc with rfl | hc
    · exact absurd rfl hne
    · rw [List.length_cons]
      by_cases e : c = (sup i).toNat
      · rw [e]; omega
      · have := ih c hc e; omega
end Link

/-- Each class's number is its name's; the first one is Object. -/
structure Named (L : List Cl) : Prop where
  num : ∀ i, i < L.length → numOf L (L.getD i zCl).name = some i
  obj : (L.getD 0 zCl).name = ⟨#[79, 98, 106, 101, 99, 116]⟩
  pos : 0 < L.length
theorem named_of {r : List Cl} (h : newErr (builtL ++ r) = none) : Named (builtL ++ r) := by
  have hd : dupErr (builtL ++ r) = none := by
    unfold newErr at h
    cases h1 : dupErr (builtL ++ r) with
    | none => rfl
    | some s => rw [h1] at h; cases h
  have hl : (builtL ++ r).length = 8 + r.length := by simp [builtL]
  refine ⟨fun i hi => ?_, by rfl, by omega⟩
  have hn : dupAt (builtL ++ r) i = false := by
    unfold dupErr firstI at hd
    rw [Option.map_eq_none_iff, List.find?_range_eq_none] at hd
    simpa using hd i hi
  generalize builtL ++ r = L at *
  unfold dupAt at hn
  have e : L = L.take i ++ (L.getD i zCl :: L.drop (i + 1)) := by
    rw [List.getD_eq_getElem?_getD, List.getElem?_eq_getElem hi, Option.getD_some, ← List.drop_eq_getElem_cons hi, List.take_append_drop]
  have ht : (L.take i).length = i := by rw [List.length_take]; omega
  generalize L.getD i zCl = c at *
  rw [e, numOf_append]
  cases h1 : numOf (L.take i) c.name with
  | some k => rw [h1] at hn; cases hn
  | none =>
    have : numOf (c :: L.drop (i + 1)) c.name = some 0 := by
      unfold numOf
      rw [List.findIdx?_cons, show nmEq c.name c.name = true from nmEq_iff.2 rfl]
      rfl
    rw [this, ht]
    simp
theorem numI_of {L : List Cl} {s : ByteArray} {i : Nat} (h : numOf L s = some i) : numI L s = i := by unfold numI; rw [h]; rfl
/-- The length of a class's chain. -/
def clen (L : List Cl) (i : Nat) : Nat := (Link.chainL L.length (supF (supsL L L.length)) i).length
/-- How high a word stands. -/
def htW (L : List Cl) (x : Wd) : Nat := if x.k = 0 then 0 else if x.k = 4 then 3 + L.length else if x.k = 5 then (if x.tk = 3 then 1 + clen L (numI L x.tn).toNat else if x.tk = 6 then 2 + clen L (numI L x.tn).toNat else 3) else 1
theorem ht0 {L : List Cl} {x : Wd} (h : x.k = 0) : htW L x = 0 := by unfold htW; rw [if_pos h]
theorem ht4 {L : List Cl} {x : Wd} (h : x.k = 4) : htW L x = 3 + L.length := by unfold htW; rw [if_neg (show ¬ x.k = 0 by omega), if_pos h]
theorem ht53 {L : List Cl} {x : Wd} (h : x.k = 5) (h3 : x.tk = 3) : htW L x = 1 + clen L (numI L x.tn).toNat := by unfold htW; rw [if_neg (show ¬ x.k = 0 by omega), if_neg (show ¬ x.k = 4 by omega), if_pos h, if_pos h3]
theorem ht56 {L : List Cl} {x : Wd} (h : x.k = 5) (h6 : x.tk = 6) : htW L x = 2 + clen L (numI L x.tn).toNat := by unfold htW; rw [if_neg (show ¬ x.k = 0 by omega), if_neg (show ¬ x.k = 4 by omega), if_pos h, if_neg (show ¬ x.tk = 3 by omega), if_pos h6]
theorem ht5 {L : List Cl} {x : Wd} (h : x.k = 5) (h3 : x.tk ≠ 3) (h6 : x.tk ≠ 6) : htW L x = 3 := by unfold htW; rw [if_neg (show ¬ x.k = 0 by omega), if_neg (show ¬ x.k = 4 by omega), if_pos h, if_neg h3, if_neg h6]
theorem ht1 {L : List Cl} {x : Wd} (h0 : x.k ≠ 0) (h4 : x.k ≠ 4) (h5 : x.k ≠ 5) : htW L x = 1 := by unfold htW; rw [if_neg h0, if_neg h4, if_neg h5]
abbrev GoodOf (L : List Cl) : Prop := GoodSet L.length L (supsL L L.length) (facesL L L.length)
section
variable {L : List Cl}
theorem clen_le (G : GoodOf L) {i : Nat} (hi : i < L.length) : 1 ≤ clen L i ∧ clen L i ≤ L.length := ⟨G.chain_len1 hi, G.chain_len hi⟩
theorem num_range (N : Named L) (s : ByteArray) : (numI L s).toNat < L.length := by
  have := numI_range L s N.pos
  omega
theorem htW_range (G : GoodOf L) (N : Named L) {x : Wd} (h : x.k = 5) : 2 ≤ htW L x ∧ htW L x ≤ 2 + L.length := by
  have := N.pos
  have := clen_le G (num_range N x.tn)
  by_cases h3 : x.tk = 3
  · rw [ht53 h h3]; omega
  · by_cases h6 : x.tk = 6
    · rw [ht56 h h6]; omega
    · rw [ht5 h h3 h6]; omega
theorem htW_le (G : GoodOf L) (N : Named L) (x : Wd) : htW L x ≤ 3 + L.length := by
  by_cases h0 : x.k = 0
  · rw [ht0 h0]; omega
  · by_cases h4 : x.k = 4
    · rw [ht4 h4]; omega
    · by_cases h5 : x.k = 5
      · have := htW_range G N h5; omega
      · rw [ht1 h0 h4 h5]; omega
theorem mayW_kinds {x : Wd} (h : mayW L x = true) : (x.k = 0 ∧ x = zWd) ∨ (1 ≤ x.k ∧ x.k ≤ 4) ∨ (x.k = 5 ∧ mayRefT L x.tk x.tn = true) := by
  unfold mayW at h
  split at h
  · rename_i hk
    rw [Bool.and_eq_true, decide_eq_true_eq, nmEq_iff] at h
    rcases hk with hk | hk | hk | hk | hk
    · left
      obtain ⟨k, tk, tn⟩ := x
      obtain ⟨h1, h2⟩ := h
      simp only at hk h1 h2
      subst hk h1 h2
      exact ⟨rfl, rfl⟩
    all_goals exact .inr (.inl (by omega))
  · split at h
    · rename_i hk; exact .inr (.inr ⟨hk, h⟩)
    · cases h
theorem htW_pos (G : GoodOf L) (N : Named L) {x : Wd} (h : x.k ≠ 0) : 0 < htW L x := by
  by_cases h4 : x.k = 4
  · rw [ht4 h4]; omega
  · by_cases h5 : x.k = 5
    · have := htW_range G N h5; omega
    · rw [ht1 h h4 h5]; omega
theorem mayT_cases {k : Int} {s : ByteArray} (h : mayRefT L k s = true) : (k = 3 ∨ k = 6) ∧ (∃ i, numOf L s = some i) ∨ (k = 4 ∨ k = 5) ∧ s = ⟨#[]⟩ := by
  unfold mayRefT at h
  rw [Bool.and_eq_true, decide_eq_true_eq] at h
  obtain ⟨h1, h2⟩ := h
  unfold mayT at h2
  split at h2
  · rename_i h3
    left
    refine ⟨h3, ?_⟩
    cases h4 : numOf L s with
    | none => rw [h4] at h2; cases h2
    | some i => exact ⟨i, rfl⟩
  · rw [Bool.and_eq_true, decide_eq_true_eq, nmEq_iff] at h2
    exact .inr ⟨by omega, h2.2⟩
theorem mrg_ht (G : GoodOf L) (N : Named L) {a b : Wd} (ha : mayW L a = true) (hb : mayW L b = true) : mrgW L a b = a ∨ htW L (mrgW L a b) < htW L a := by
  unfold mrgW
  rw [if_neg (by rw [ha, hb]; simp)]
  by_cases he : a.k = b.k ∧ a.tk = b.tk ∧ a.tn = b.tn
  · rw [if_pos he]; exact .inl rfl
  · rw [if_neg he]
    by_cases h45 : a.k = 4 ∧ b.k = 5
    · rw [if_pos h45]
      right
      have := htW_range G N h45.2
      rw [ht4 h45.1]
      omega
    · rw [if_neg h45]
      by_cases h54 : a.k = 5 ∧ b.k = 4
      · rw [if_pos h54]; exact .inl rfl
      · rw [if_neg h54]
        by_cases h55 : a.k = 5 ∧ b.k = 5
        · rw [if_pos h55]
          obtain ⟨ak, atk, an⟩ := a
          obtain ⟨bk, btk, bn⟩ := b
          simp only at h55 he
          obtain ⟨rfl, rfl⟩ := h55
          have ma : mayRefT L atk an = true := by rcases mayW_kinds ha with h | h | h <;> simp only at h <;> first | omega | exact h.2
          have hne : ¬ (atk = btk ∧ an = bn) := fun h => he ⟨rfl, h⟩
          have hc0 := clen_le G (num_range N an)
          have hobj : numI L ⟨#[79, 98, 106, 101, 99, 116]⟩ = 0 := by
            have := N.num 0 N.pos
            rw [N.obj] at this
            exact numI_of this
          simp only
          unfold togK togN
          rw [if_neg hne, if_neg hne]
          by_cases ho : atk ≠ btk ∨ an = ⟨#[]⟩
          · rw [if_pos ho, if_pos ho]
            by_cases hz : atk = 3 ∧ an = ⟨#[79, 98, 106, 101, 99, 116]⟩
            · obtain ⟨rfl, rfl⟩ := hz
              exact .inl rfl
            · right
              have h0 : clen L 0 = 1 := by unfold clen; rw [G.chain_zero]; rfl
              have hz0 : htW L ⟨5, 3, ⟨#[79, 98, 106, 101, 99, 116]⟩⟩ = 2 := by
                rw [ht53 rfl rfl]
                simp only [hobj]
                rw [show (0 : Int).toNat = 0 from rfl, h0]
              rw [hz0]
              by_cases h3 : atk = 3
              · rw [ht53 (x := ⟨5, atk, an⟩) rfl h3]
                have hn0 : (numI L an).toNat ≠ 0 := fun hh => by
                  rcases mayT_cases ma with ⟨_, i, hi⟩ | ⟨h, _⟩
                  · rw [numI_of hi] at hh
                    obtain ⟨c, hc, e⟩ := numOf_some hi
                    have : i = 0 := by omega
                    subst this
                    have h1 := N.obj
                    rw [List.getD_eq_getElem?_getD, hc, Option.getD_some] at h1
                    exact hz ⟨h3, by rw [← e, h1]⟩
                  · omega
                have : 2 ≤ clen L (numI L an).toNat := G.chain_len2 hn0 (num_range N an)
                simp only
                omega
              · by_cases h6 : atk = 6
                · rw [ht56 (x := ⟨5, atk, an⟩) rfl h6]; simp only; omega
                · rw [ht5 (x := ⟨5, atk, an⟩) rfl h3 h6]; omega
          · rw [if_neg ho, if_neg ho]
            have ho1 : atk = btk := Classical.not_not.1 (fun h => ho (.inl h))
            have ho2 : an ≠ ⟨#[]⟩ := fun h => ho (.inr h)
            rcases mayT_cases ma with ⟨hk, i, hi⟩ | ⟨_, h⟩
            · have hil := numOf_lt hi
              have hyl := num_range N bn
              have hxi : (numI L an).toNat = i := by rw [numI_of hi]; rfl
              obtain ⟨c, h1, h2, h3⟩ := G.common_some hil hyl
              have hcl := G.chain_lt hil h2
              rw [show commonOf L (numI L an).toNat (numI L bn).toNat = c from by rw [hxi]; exact h1, Int.toNat_natCast]
              by_cases hci : c = i
              · left
                subst hci
                obtain ⟨x, hx, e⟩ := numOf_some hi
                rw [List.getD_eq_getElem?_getD, hx, Option.getD_some, e]
              · right
                have hlt : clen L c < clen L i := G.chain_less hil h2 hci
                have hnc : (numI L (L.getD c zCl).name).toNat = c := by rw [numI_of (N.num c hcl)]; rfl
                rcases hk with rfl | rfl
                · rw [ht53 rfl rfl, ht53 rfl rfl]
                  simp only
                  rw [hnc, hxi]
                  omega
                · rw [ht56 rfl rfl, ht56 rfl rfl]
                  simp only
                  rw [hnc, hxi]
                  omega
            · exact absurd h ho2
        · rw [if_neg h55]
          rcases mayW_kinds ha with ⟨_, h⟩ | h | h
          · left; rw [h]; rfl
          · right
            have := htW_pos G N (x := a) (by omega)
            show htW L ⟨0, 0, ⟨#[]⟩⟩ < _
            rw [show htW L ⟨0, 0, ⟨#[]⟩⟩ = 0 from rfl]
            exact this
          · right
            have := htW_pos G N (x := a) (by omega)
            show htW L ⟨0, 0, ⟨#[]⟩⟩ < _
            rw [show htW L ⟨0, 0, ⟨#[]⟩⟩ = 0 from rfl]
            exact this
end
/-- Words, one by one; then halves of longs go. -/
def mrgL (L : List Cl) (a b : List Wd) : List Wd := (List.range a.length).map fun i => mrgW L (a.getD i zWd) (b.getD i zWd)
def cutL (l : List Wd) : List Wd := (List.range l.length).map fun i => if brokenW l i then zWd else l.getD i zWd
def listsW (L : List Cl) (a b : List Wd) : List Wd := cutL (mrgL L a b)
theorem mrgL_len (L : List Cl) (a b : List Wd) : (mrgL L a b).length = a.length := by simp [mrgL]
theorem listsW_len (L : List Cl) (a b : List Wd) : (listsW L a b).length = a.length := by simp [listsW, cutL, mrgL]
def potL (L : List Cl) (l : List Wd) : Nat := (l.map (htW L)).sum
theorem potL_le {L : List Cl} (G : GoodOf L) (N : Named L) (l : List Wd) : potL L l ≤ (3 + L.length) * l.length := by
  unfold potL
  induction l with
  | nil => simp
  | cons a l ih =>
    have := htW_le G N a
    rw [List.map_cons, List.sum_cons, List.length_cons, Nat.mul_add]
    omega
theorem pot_step (h : Wd → Nat) (l m : List Wd) (hl : m.length = l.length) (hs : ∀ i, i < l.length → m.getD i zWd = l.getD i zWd ∨ h (m.getD i zWd) < h (l.getD i zWd)) : m = l ∨ (m.map h).sum < (l.map h).sum := by
  induction l generalizing m with
  | nil => left; exact List.eq_nil_of_length_eq_zero hl
  | cons a l ih =>
    cases m with
    | nil => simp at hl
    | cons b m =>
      simp only [List.length_cons, Nat.add_right_cancel_iff] at hl
      have h0 := hs 0 (by simp)
      simp only [List.getD_cons_zero] at h0
      have h1 := ih m hl (fun i hi => by have := hs (i + 1) (by simpa using hi); simpa only [List.getD_cons_succ] using this)
      simp only [List.map_cons, List.sum_cons]
      rcases h0 with h0 | h0 <;> rcases h1 with h1 | h1
      · left; rw [h0, h1]
      · right; rw [h0]; omega
      · right; rw [h1]; omega
      · right; omega
theorem range_getD {α : Type} (f : Nat → α) (n i : Nat) (z : α) (hi : i < n) : ((List.range n).map f).getD i z = f i := by simp [List.getD, hi]
theorem lists_pot {L : List Cl} (G : GoodOf L) (N : Named L) {a b : List Wd} (ha : ∀ i, i < a.length → mayW L (a.getD i zWd) = true) (hb : ∀ i, i < a.length → mayW L (b.getD i zWd) = true) : listsW L a b = a ∨ potL L (listsW L a b) < potL L a := by
  refine pot_step (htW L) a (listsW L a b) (listsW_len L a b) (fun i hi => ?_)
  unfold listsW cutL
  rw [range_getD _ _ _ _ (by rw [mrgL_len]; exact hi)]
  have hm : (mrgL L a b).getD i zWd = mrgW L (a.getD i zWd) (b.getD i zWd) := range_getD _ _ _ _ hi
  split
  · rcases mayW_kinds (ha i hi) with ⟨_, h⟩ | h | h
    · exact .inl h.symm
    · right
      have := htW_pos G N (x := a.getD i zWd) (by omega)
      rw [show htW L zWd = 0 from rfl]
      exact this
    · right
      have := htW_pos G N (x := a.getD i zWd) (by omega)
      rw [show htW L zWd = 0 from rfl]
      exact this
  · rw [hm]
    exact mrg_ht G N (ha i hi) (hb i hi)
theorem mayListW_may {L : List Cl} {l : List Wd} (h : mayListW L l = true) : ∀ i, i < l.length → mayW L (l.getD i zWd) = true := by
  intro i hi
  unfold mayListW at h
  rw [Bool.and_eq_true, List.all_eq_true] at h
  have := h.1 i (by simpa using hi)
  rw [Bool.and_eq_true] at this
  exact this.1
end Go.Proofs.YtbogcknkkbnfnaaDoor
