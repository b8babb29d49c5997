/- Classes in closed form: their order, no rings, what New answers. -/
import Derived.Test.YtlihpmhnlooapaaDoorMi
import Derived.Test.YtlihpmhnlooapaaDoorMn
import Derived.Laws.Strings
namespace Go.Proofs.YtlihpmhnlooapaaDoor
open Go.RowKit Go.Proofs.YtlihpmhnlooapaaDoorW.PrintWords Go.Maps Go.WideMaps

theorem nm_of_less {a b : ByteArray} (h : less a b = false) (h' : less b a = false) : a = b := by
  have := less_total a.toList b.toList h h'
  rw [ByteArray.toList_eq, ByteArray.toList_eq] at this
  exact Go.WideShapes.bytes_inj this
theorem same_name {l : List Cl} (hn : (l.map (·.name)).Nodup) {a b : Cl} (ha : a ∈ l) (hb : b ∈ l) (e : a.name = b.name) : a = b := by
  induction l with
  | nil => cases ha
  | cons c l ih =>
    rw [List.map_cons, List.nodup_cons] at hn
    rcases List.mem_cons.1 ha with rfl | ha
    · rcases List.mem_cons.1 hb with rfl | hb
      · rfl
      · exact absurd (List.mem_map.2 ⟨b, hb, e.symm⟩) hn.1
    · rcases List.mem_cons.1 hb with hb | hb
      · exact absurd (List.mem_map.2 ⟨a, ha, by rw [e, hb]⟩) hn.1
      · exact ih hn.2 ha hb
/-- Of classes of different names there is one order. -/
theorem srtd_unique {l l' r r' : List Cl} (hp : l.Perm l') (hn : (l.map (·.name)).Nodup) (h : Srtd r l) (h' : Srtd r' l') : r = r' := by
  have hr : r.Perm r' := h.1.trans (hp.trans h'.1.symm)
  refine List.Perm.eq_of_pairwise (le := fun x y : Cl => less y.name x.name = false) (fun a b ha hb h1 h2 => ?_) h.2 h'.2 hr
  have e := nm_of_less h2 h1
  have ha' := h.1.mem_iff.1 ha
  have hb' := hp.mem_iff.2 (h'.1.mem_iff.1 hb)
  exact same_name hn ha' hb' e
def lessD (a b : ByteArray) : Bool := Op.bytesLess a.data.toList b.data.toList
theorem less_eq (a b : ByteArray) : less a b = lessD a b := by unfold less lessD; rw [ByteArray.toList_eq, ByteArray.toList_eq]
/-- No ring, by a rank that falls at each step. -/
theorem no_ring {S : List Int} {F : List (List Int)} (rk : Nat → Nat) (n : Nat) (h : ∀ i, i < n → ∀ u ∈ succI S F i, u = -1 ∨ (0 ≤ u ∧ u < n ∧ rk u.toNat < rk i)) : ∀ i, i < n → ¬ Rch S F i i := by
  have key : ∀ a j, Rch S F a j → a < n → j < n ∧ rk j < rk a := by
    intro a j hr
    induction hr with
    | one hu =>
      intro ha
      rcases h _ ha _ hu with e | ⟨_, e1, e2⟩
      · omega
      · exact ⟨by omega, by simpa using e2⟩
    | more hu _ ih =>
      intro ha
      rcases h _ ha _ hu with e | ⟨_, e1, e2⟩
      · omega
      · have := ih (by omega)
        rw [Int.toNat_natCast] at e2
        exact ⟨this.1, by omega⟩
  intro i hi hr
  have := key i i hr hi
  omega
open Classical in
theorem ringP_yes {S : List Int} {F : List (List Int)} {i : Nat} (h : ¬ Rch S F i i) : ringP S F i = true := by
  unfold ringP ringB
  rw [decide_eq_false h]
  rfl
open Classical in
theorem ringP_no {S : List Int} {F : List (List Int)} {i : Nat} (h : Rch S F i i) : ringP S F i = false := by
  unfold ringP ringB
  rw [decide_eq_true h]
  rfl
def chapF : Nat → Cl
  | 0 => ⟨zSl, sJ, bn 0, true, [sI], zSl, zSl⟩
  | 1 => ⟨zSl, sB, sA, false, [sI], zSl, zSl⟩
  | 2 => ⟨zSl, sA, bn 0, false, [], zSl, zSl⟩
  | _ => ⟨zSl, sI, bn 0, true, [], zSl, zSl⟩
def chapR : List Cl := [2, 1, 3, 0].map chapF
theorem chap_srtd : Srtd chapR chapL := by
  refine ⟨?_, ?_⟩
  · exact List.Perm.map chapF (show [2, 1, 3, 0].Perm [0, 1, 2, 3] by decide)
  · simp only [less_eq]
    show List.Pairwise (fun x y : Cl => lessD y.name x.name = false) [chapF 2, chapF 1, chapF 3, chapF 0]
    decide +kernel
theorem chap_nodup : (chapL.map (·.name)).Nodup := by decide +kernel
theorem chap_new : newErr (builtL ++ chapR) = none := by
  unfold newErr
  rw [show dupErr (builtL ++ chapR) = none by decide +kernel, show joinErr (builtL ++ chapR) = none by decide +kernel, show firstNo (builtL ++ chapR) (upFit (builtL ++ chapR) (supsL (builtL ++ chapR) (builtL ++ chapR).length)) = none by decide +kernel, show firstNo (builtL ++ chapR) (facesP (builtL ++ chapR) (facesL (builtL ++ chapR) (builtL ++ chapR).length)) = none by decide +kernel]
  have hl : (builtL ++ chapR).length = 12 := by decide +kernel
  rw [firstNo_none (L := builtL ++ chapR) (fun j hj => ringP_yes (no_ring (fun i => [0, 1, 2, 2, 2, 2, 2, 2, 1, 2, 1, 2].getD i 0) 12 (by decide +kernel) j (by rw [hl] at hj; exact hj)))]
theorem chap_only {r : List Cl} (h : Srtd r chapL) : r = chapR := srtd_unique (.refl _) chap_nodup h chap_srtd
theorem chap_above9 : aboveOf (builtL ++ chapR) 9 = [9, 8, 0, 10] := by decide +kernel
theorem chap_above11 : aboveOf (builtL ++ chapR) 11 = [11, 0, 10] := by decide +kernel
theorem chap_above10 : aboveOf (builtL ++ chapR) 10 = [10, 0] := by decide +kernel
theorem chap_common1 : commonOf (builtL ++ chapR) 9 8 = 8 := by decide +kernel
theorem chap_common2 : commonOf (builtL ++ chapR) 9 11 = 0 := by decide +kernel
theorem chap_len : (builtL ++ chapR).length = 12 := by decide +kernel
theorem chap_A : numOf (builtL ++ chapR) sA = some 8 := by decide +kernel
theorem chap_J : numOf (builtL ++ chapR) sJ = some 11 := by decide +kernel
theorem chap_9 : ((builtL ++ chapR).getD 9 zCl).name = sB := by decide +kernel
theorem chap_ok : ∀ x ∈ chapL, clOk x := by
  intro x hx
  simp only [chapL, List.mem_cons, List.not_mem_nil, or_false] at hx
  rcases hx with rfl | rfl | rfl | rfl <;> (unfold clOk; decide +kernel)
/-- Two that stand below each other. -/
def ringLs : List Cl := [⟨zSl, sA, sB, false, [], zSl, zSl⟩, ⟨zSl, sB, sA, false, [], zSl, zSl⟩]
theorem ring_srtd : Srtd ringLs ringLs := by
  refine ⟨.refl _, ?_⟩
  simp only [less_eq]
  show List.Pairwise (fun x y : Cl => lessD y.name x.name = false) [⟨zSl, sA, sB, false, [], zSl, zSl⟩, ⟨zSl, sB, sA, false, [], zSl, zSl⟩]
  decide +kernel
theorem ring_only {r : List Cl} (h : Srtd r ringLs) : r = ringLs := srtd_unique (.refl _) (by decide +kernel) h ring_srtd
theorem ring_new : newErr (builtL ++ ringLs) = some (sA, 91) := by
  unfold newErr
  rw [show dupErr (builtL ++ ringLs) = none by decide +kernel, show joinErr (builtL ++ ringLs) = none by decide +kernel, show firstNo (builtL ++ ringLs) (upFit (builtL ++ ringLs) (supsL (builtL ++ ringLs) (builtL ++ ringLs).length)) = none by decide +kernel, show firstNo (builtL ++ ringLs) (facesP (builtL ++ ringLs) (facesL (builtL ++ ringLs) (builtL ++ ringLs).length)) = none by decide +kernel]
  rw [firstNo_some (k := 8) (fun j hj => ringP_yes (no_ring (fun i => [0, 1, 2, 2, 2, 2, 2, 2].getD i 0) 8 (by decide +kernel) j hj)) (by decide +kernel) (ringP_no (.more (u := 9) (by decide +kernel) (.one (by decide +kernel))))]
  rfl
theorem ring_ok : ∀ x ∈ ringLs, clOk x := by
  intro x hx
  simp only [ringLs, List.mem_cons, List.not_mem_nil, or_false] at hx
  rcases hx with rfl | rfl <;> (unfold clOk; decide +kernel)
end Go.Proofs.YtlihpmhnlooapaaDoor
