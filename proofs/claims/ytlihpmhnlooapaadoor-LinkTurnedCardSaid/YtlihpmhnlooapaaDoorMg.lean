/- A set, as New leaves it. -/
import Derived.Test.YtlihpmhnlooapaaDoorMe
namespace Go.Proofs.YtlihpmhnlooapaaDoor
open Go.RowKit Go.Proofs.YtlihpmhnlooapaaDoorW.PrintWords Go.Maps Go.WideMaps

/-- A set of the classes L lies at p, in memory from B on. -/
structure IsSet (B p : Nat) (L : List Cl) (w : World) : Prop where
  ex : ∃ m cV sV fV aV, B ≤ p ∧ B ≤ m ∧ w.heap[p]? = some (.cells #[cV, .map (some m), sV, fV, aV] 63 (0, 0)) ∧ kCl.R 41 w B (fun _ => True) cV L ∧ MapAt w m L ∧
    kI.R 3 w B (fun _ => True) sV (supsL L L.length) ∧ kIs.R 31 w B (fun _ => True) fV (facesL L L.length) ∧ kIs.R 31 w B (fun _ => True) aV (aboves L.length (supsL L L.length) (facesL L L.length) L.length)
  big : 8 ≤ L.length ∧ L.length ≤ 72
  ok : ∀ x ∈ L, clOk x
  good : GoodSet L.length L (supsL L L.length) (facesL L L.length)
theorem IsSet.move {B p : Nat} {L : List Cl} {w w' : World} (h : IsSet B p L w) (hm : ∀ k, B ≤ k → k < w.heap.size → w'.heap[k]? = w.heap[k]?) : IsSet B p L w' := by
  obtain ⟨m, cV, sV, fV, aV, h1, h2, h3, h4, h5, h6, h7, h8⟩ := h.ex
  have key : ∀ {α : Type} {d : Kd α} {e : Nat} {v : Value} {xs : List α}, d.R e w B (fun _ => True) v xs → d.R e w' B (fun _ => True) v xs := fun h => Kd.R_mono (Kd.R_step (Kd.R_bound h) (fun k hk hlt => hm k hk.2.1 hlt)) (fun _ _ => trivial)
  exact ⟨⟨m, cV, sV, fV, aV, h1, h2, (hm p h1 (blk_lt h3)).trans h3, key h4, h5.move (hm m h2 h5.lt), key h6, key h7, key h8⟩, h.big, h.ok, h.good⟩
theorem IsSet.step {B p : Nat} {L : List Cl} {w w' : World} (h : IsSet B p L w) (hb : Below w.heap.size w w') : IsSet B p L w' := h.move (fun k _ hk => hb.block k hk)
theorem IsSet.lt {B p : Nat} {L : List Cl} {w : World} (h : IsSet B p L w) : p < w.heap.size := by
  obtain ⟨m, cV, sV, fV, aV, h1, h2, h3, _⟩ := h.ex
  exact blk_lt h3
theorem IsSet.base {B p : Nat} {L : List Cl} {w : World} (h : IsSet B p L w) : B ≤ p := by
  obtain ⟨m, cV, sV, fV, aV, h1, h2, h3, _⟩ := h.ex
  exact h1
/-- .. as it is read. -/
theorem IsSet.sv {B p : Nat} {L : List Cl} {w : World} (h : IsSet B p L w) : ∃ g cap m gs cs gf cf ga ca, SV p g L.length cap m gs cs gf cf (.slice (some ⟨ga, 0, none⟩) L.length ca) L (supsL L L.length) (facesL L L.length) w ∧ kIs.C w (some ⟨ga, 0, none⟩) L.length (aboves L.length (supsL L L.length) (facesL L L.length) L.length) := by
  obtain ⟨m, cV, sV, fV, aV, h1, h2, hb, hr, hM, hsu, hfa, hab⟩ := h.ex
  have hB := h.big
  have l1 : (supsL L L.length).length = L.length := by simp [supsL]
  have l2 : (facesL L L.length).length = L.length := by simp [facesL]
  have l3 : (aboves L.length (supsL L L.length) (facesL L L.length) L.length).length = L.length := by simp [aboves]
  have h0 : 0 < L.length := by omega
  obtain ⟨g, cap, hc, _⟩ := Kd.R_form hr h0
  obtain ⟨gs, cs, hs, _⟩ := Kd.R_form hsu (by omega)
  obtain ⟨gf, cf, hf, _⟩ := Kd.R_form hfa (by omega)
  obtain ⟨ga, ca, ha, _⟩ := Kd.R_form hab (by omega)
  rw [l1] at hs
  rw [l2] at hf
  rw [l3] at ha
  rw [hc, hs, hf, ha] at hb
  rw [hc] at hr
  rw [hs] at hsu
  rw [hf] at hfa
  rw [ha] at hab
  have k1 := (Kd.R_reads' hr).2.2
  have k2 := (Kd.R_reads' hsu).2.2
  have k3 := (Kd.R_reads' hfa).2.2
  have k4 := (Kd.R_reads' hab).2.2
  rw [l1] at k2
  rw [l2] at k3
  rw [l3] at k4
  refine ⟨g, cap, m, gs, cs, gf, cf, ga, ca, ⟨hb, rfl, l1, l2, hB.2, k1, hM, k2, k3, fun i hi => ?_, fun i hi => ?_⟩, k4⟩
  · rw [supsL, getD_range _ _ _ _ hi]
    unfold supI
    split
    · exact .inl rfl
    · exact .inr (numI_range L _ h0)
  · rw [facesL, getD_range _ _ _ _ hi]
    unfold fsI
    have hx : L.getD i zCl ∈ L := by simp [List.getD, hi]
    have := (h.ok _ hx).2.2.1
    refine ⟨by rw [List.length_map]; omega, fun f hf => ?_⟩
    obtain ⟨s, _, rfl⟩ := List.mem_map.1 hf
    exact numI_range L s h0
/-- What lists leaves is a set. -/
theorem IsSet.of {w0 w1 w : World} {p m : Nat} {cV sV fV aV : Value} {L : List Cl} {b1 : Nat} (hp : w0.heap.size ≤ p) (hm : w0.heap.size ≤ m) (hJ : JSt w0 p m cV L sV (supsL L L.length) fV (facesL L L.length) w1) (hL : LSt w0 w1 p b1 cV (.map (some m)) sV fV (aboves L.length (supsL L L.length) (facesL L L.length) L.length) aV w)
    (hbig : 8 ≤ L.length ∧ L.length ≤ 72) (hok : ∀ x ∈ L, clOk x) (G : GoodSet L.length L (supsL L L.length) (facesL L L.length)) : IsSet w0.heap.size p L w :=
  ⟨⟨m, cV, sV, fV, aV, hp, hm, hL.blk, KpB.row hL.kp hJ.row hJ.blk (by decide), hJ.map.move (hL.kp.block m hJ.map.lt (hJ.map.notCells hJ.blk)), KpB.row hL.kp hJ.sup hJ.blk (by decide), Kd.R_mono (KpB.row hL.kp hJ.faces hJ.blk (by decide)) (fun _ _ => trivial), Kd.R_lower hL.row hJ.below.size⟩, hbig, hok, G⟩
end Go.Proofs.YtlihpmhnlooapaaDoor
