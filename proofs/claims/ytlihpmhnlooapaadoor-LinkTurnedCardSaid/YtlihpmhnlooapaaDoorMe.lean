/- From what New has looked at: the plain law's premises. -/
import Derived.Test.YtlihpmhnlooapaaDoorMc
namespace Go.Proofs.YtlihpmhnlooapaaDoor
open Go.RowKit Go.Proofs.YtlihpmhnlooapaaDoorW.PrintWords Go.Maps Go.WideMaps

theorem supF_at {L : List Cl} {i : Nat} (hi : i < L.length) : supF (supsL L L.length) i = supI L i := getD_range _ _ _ _ hi
theorem fsF_at {L : List Cl} {i : Nat} (hi : i < L.length) : (facesL L L.length).getD i [] = fsI L i := getD_range _ _ _ _ hi
theorem rch_of {S : List Int} {F : List (List Int)} {n : Nat} (hlt : ∀ i, i < n → ∀ j, Link.Step (supF S) (fsF F) i j → j < n) (hF : ∀ i, i < n → ∀ f ∈ F.getD i [], (0 : Int) ≤ f) {i j : Nat} (hi : i < n) (h : Link.Above (supF S) (fsF F) i j) : Rch S F i j := by
  have one : ∀ i k, i < n → Link.Step (supF S) (fsF F) i k → (k : Int) ∈ succI S F i := by
    intro i k hi h
    rcases h with h | h
    · rw [h]; exact List.mem_cons_self
    · obtain ⟨f, hf, rfl⟩ := List.mem_map.1 h
      have := hF i hi f hf
      rw [Int.toNat_of_nonneg this]
      exact List.mem_cons_of_mem _ hf
  obtain ⟨k, hs, hr⟩ := h
  have key : ∀ a b, Link.Reach (supF S) (fsF F) a b → ∀ i, i < n → Link.Step (supF S) (fsF F) i a → Rch S F i b := by
    intro a b h
    induction h with
    | refl a => intro i hi hs; exact .one (one i a hi hs)
    | step s _ ih => intro i hi hs; exact .more (one _ _ hi hs) (ih _ (hlt i hi _ hs) s)
  exact key k j hr i hi hs
theorem faces_nodup {L : List Cl} {xs : List Int} (h0 : ∀ f ∈ xs, (0 : Int) ≤ f) (h : ∀ k, k < xs.length → faceBadAt L xs k = false) : (xs.map Int.toNat).Nodup := by
  rw [List.Nodup, List.pairwise_map, List.pairwise_iff_getElem]
  intro a b ha hb hab e
  have h1 := h b hb
  unfold faceBadAt at h1
  rw [Bool.or_eq_false_iff] at h1
  have h2 := h1.2
  have hxa := h0 _ (List.getElem_mem ha)
  have hxb := h0 _ (List.getElem_mem hb)
  have e2 : xs[a] = xs[b] := by omega
  rw [List.getD_eq_getElem?_getD, List.getElem?_eq_getElem hb, Option.getD_some, ← e2] at h2
  have h3 : (xs.take b).contains xs[a] = true := by
    rw [List.contains_iff_mem]
    exact List.mem_take_iff_getElem.2 ⟨a, by omega, rfl⟩
  rw [h3] at h2
  cases h2
open Classical in
theorem ringP_not {S : List Int} {F : List (List Int)} {i : Nat} (h : ringP S F i = true) : ¬ Rch S F i i := by
  intro hr
  unfold ringP ringB at h
  rw [decide_eq_true hr] at h
  cases h
theorem goodSet_of {L : List Cl} (h8 : 0 < L.length) (hu : firstNo L (upFit L (supsL L L.length)) = none) (hf : firstNo L (facesP L (facesL L L.length)) = none) (hr : firstNo L (ringP (supsL L L.length) (facesL L L.length)) = none) : GoodSet L.length L (supsL L L.length) (facesL L L.length) := by
  have hup := firstNo_all hu
  have hfa := firstNo_all hf
  have hri := firstNo_all hr
  have sup_lt : ∀ i, 0 < i → i < L.length → 0 ≤ supF (supsL L L.length) i ∧ supF (supsL L L.length) i < L.length := by
    intro i h0 hi
    rw [supF_at hi]
    unfold supI
    rw [if_neg (by omega)]
    exact numI_range L _ h8
  have sup0 : supF (supsL L L.length) 0 = -1 := by rw [supF_at h8]; rfl
  have hF : ∀ i, i < L.length → ∀ f ∈ (facesL L L.length).getD i [], (0 : Int) ≤ f ∧ f < L.length := by
    intro i hi f hf
    rw [fsF_at hi] at hf
    obtain ⟨s, _, rfl⟩ := List.mem_map.1 hf
    exact numI_range L s h8
  have fs_lt : ∀ i, i < L.length → ∀ f ∈ fsF (facesL L L.length) i, f < L.length := by
    intro i hi f hf
    obtain ⟨x, hx, rfl⟩ := List.mem_map.1 hf
    have := hF i hi x hx
    omega
  have hus : ∀ i, 0 < i → i < L.length → faceAt L (supF (supsL L L.length) i) = false ∧ ((L.getD i zCl).face = false ∨ supF (supsL L L.length) i = 0) := by
    intro i h0 hi
    have h1 := hup i hi
    have h2 := sup_lt i h0 hi
    unfold upFit at h1
    change ((supF (supsL L L.length) i == -1) || (!faceAt L (supF (supsL L L.length) i) && (!(L.getD i zCl).face || supF (supsL L L.length) i == 0))) = true at h1
    have hne : (supF (supsL L L.length) i == -1) = false := by
      rw [beq_eq_false_iff_ne]
      omega
    rw [hne, Bool.false_or, Bool.and_eq_true, Bool.or_eq_true] at h1
    refine ⟨by simpa using h1.1, h1.2.imp (fun h => by simpa using h) (fun h => by simpa using h)⟩
  have hff : ∀ i, i < L.length → ∀ k, k < ((facesL L L.length).getD i []).length → faceBadAt L ((facesL L L.length).getD i []) k = false := by
    intro i hi k hk
    have h1 : faceFit L ((facesL L L.length).getD i []) = true := hfa i hi
    unfold faceFit at h1
    rw [List.all_eq_true] at h1
    have := h1 k (by simpa using hk)
    simpa using this
  refine ⟨h8, sup0, sup_lt, fs_lt, fun i h0 hi => ?_, fun i h0 hi hfi => ?_, fun i hi f hf => ?_, fun i hi => ?_, fun i hi hab => ?_⟩
  · exact (hus i h0 hi).1
  · rcases (hus i h0 hi).2 with h | h
    · rw [show faceF L i = false from h] at hfi; cases hfi
    · exact h
  · obtain ⟨x, hx, rfl⟩ := List.mem_map.1 hf
    obtain ⟨k, hk⟩ := List.getElem?_of_mem hx
    have hk2 := (List.getElem?_eq_some_iff.1 hk).1
    have h1 := hff i hi k hk2
    unfold faceBadAt at h1
    rw [Bool.or_eq_false_iff, List.getD_eq_getElem?_getD, hk] at h1
    have := h1.1
    show (L.getD x.toNat zCl).face = true
    simpa [faceAt] using this
  · exact faces_nodup (fun f hf => (hF i hi f hf).1) (hff i hi)
  · have hlt : ∀ i, i < L.length → ∀ j, Link.Step (supF (supsL L L.length)) (fsF (facesL L L.length)) i j → j < L.length := by
      intro i hi j hs
      rcases hs with hs | hs
      · by_cases h0 : i = 0
        · subst h0; rw [sup0] at hs; omega
        · have := sup_lt i (by omega) hi; omega
      · exact fs_lt i hi j hs
    have h1 := rch_of hlt (fun i hi f hf => (hF i hi f hf).1) hi hab
    exact ringP_not (hri i hi) h1
end Go.Proofs.YtlihpmhnlooapaaDoor
