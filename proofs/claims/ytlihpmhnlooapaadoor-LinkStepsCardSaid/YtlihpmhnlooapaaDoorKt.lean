/- A set that is read: its view; whether what stands right above fits. -/
import Derived.Test.YtlihpmhnlooapaaDoorKr
namespace Go.Proofs.YtlihpmhnlooapaaDoor
open Go.RowKit Go.Proofs.YtlihpmhnlooapaaDoorW.PrintWords Go.Maps Go.WideMaps

/-- A set, as it is read. -/
structure SV (p g N cap m gs cs gf cf : Nat) (aV : Value) (L : List Cl) (S : List Int) (F : List (List Int)) (w : World) : Prop where
  blk : w.heap[p]? = some (.cells #[.slice (some ⟨g, 0, none⟩) N cap, .map (some m), .slice (some ⟨gs, 0, none⟩) N cs, .slice (some ⟨gf, 0, none⟩) N cf, aV] 63 (0, 0))
  lenL : L.length = N
  lenS : S.length = N
  lenF : F.length = N
  big : N ≤ 72
  row : kCl.C w (some ⟨g, 0, none⟩) N L
  map : MapAt w m L
  sup : kI.C w (some ⟨gs, 0, none⟩) N S
  faces : kIs.C w (some ⟨gf, 0, none⟩) N F
  supR : ∀ i, i < N → S.getD i 0 = -1 ∨ (0 ≤ S.getD i 0 ∧ S.getD i 0 < N)
  facesR : ∀ i, i < N → (F.getD i []).length ≤ 8796093022207 ∧ ∀ f ∈ F.getD i [], 0 ≤ f ∧ f < N
section
variable {p g N cap m gs cs gf cf : Nat} {aV : Value} {L : List Cl} {S : List Int} {F : List (List Int)} {w : World}
theorem SV.step (h : SV p g N cap m gs cs gf cf aV L S F w) {w' : World} (hb : Below w.heap.size w w') : SV p g N cap m gs cs gf cf aV L S F w' :=
  ⟨blk_below h.blk hb, h.lenL, h.lenS, h.lenF, h.big, Kd.C_below h.row hb, h.map.below hb, Kd.C_below h.sup hb, Kd.C_below h.faces hb, h.supR, h.facesR⟩
theorem SV.alloc (h : SV p g N cap m gs cs gf cf aV L S F w) (o : Obj) : SV p g N cap m gs cs gf cf aV L S F (w.alloc o) := h.step (below_alloc (Below.refl _ _) o)
theorem SV.drewN (h : SV p g N cap m gs cs gf cf aV L S F w) (n : Nat) : SV p g N cap m gs cs gf cf aV L S F (w.drewN n) := h.step (pw_below_drewN (Below.refl _ _) n)
theorem SV.supAt (h : SV p g N cap m gs cs gf cf aV L S F w) (i : Nat) (hi : i < N) : w.cell? ⟨gs, i, none⟩ = some (.int .i64 (S.getD i 0)) := by
  have := C_scalar (h1 := fun _ => rfl) h.sup 0 i (by rw [h.lenS]; exact hi)
  rw [Nat.zero_add] at this
  exact this
theorem SV.facesAt (h : SV p g N cap m gs cs gf cf aV L S F w) (i : Nat) (hi : i < N) : ∃ A c, w.cell? ⟨gf, i, none⟩ = some (.slice A (F.getD i []).length c) ∧ (F.getD i []).length ≤ c ∧ kI.C w A (F.getD i []).length (F.getD i []) := by
  obtain ⟨ad, cc, e, _, hK, hc0⟩ := Kd.C_get h.faces ([] : List Int) (i : Int) (by omega) (by omega)
  cases e
  have hc : ∀ j u, cc[j]? = some u → w.cell? ((⟨gf, 0, none⟩ : Addr).add ((i : Int).toNat * 1 + j)) = some u := hc0
  obtain ⟨A0, c0, rfl, l0, g0⟩ := hK
  refine ⟨A0, c0, ?_, l0, g0⟩
  have := hc 0 _ rfl
  rw [add_plain] at this
  simpa using this
theorem SV.faceBit (h : SV p g N cap m gs cs gf cf aV L S F w) (i : Nat) (hi : i < N) : w.cell? ⟨g, i * 7 + 3, none⟩ = some (.bool (L.getD i zCl).face) := by
  obtain ⟨e, hE, _, _, _, c3, _⟩ := el_at h.row i hi
  rw [c3, hE.b]
end
theorem numI_range (L : List Cl) (s : ByteArray) (h : 0 < L.length) : 0 ≤ numI L s ∧ numI L s < L.length := by
  unfold numI
  cases e : numOf L s with
  | none => simp; omega
  | some i => have := numOf_lt e; simp; omega
theorem getD_range {α : Type} (f : Nat → α) (n i : Nat) (z : α) (hi : i < n) : ((List.range n).map f).getD i z = f i := by simp [List.getD, hi]
/-- What joined has laid is a set that is read. -/
theorem JSt.view {w0 : World} {p m : Nat} {cV : Value} {L : List Cl} {sV fV : Value} {w : World} (h : JSt w0 p m cV L sV (supsL L L.length) fV (facesL L L.length) w) (h8 : 0 < L.length) (hl : L.length ≤ 72) (hok : ∀ x ∈ L, clOk x) :
    ∃ g cap gs cs gf cf, cV = .slice (some ⟨g, 0, none⟩) L.length cap ∧ sV = .slice (some ⟨gs, 0, none⟩) L.length cs ∧ fV = .slice (some ⟨gf, 0, none⟩) L.length cf ∧ SV p g L.length cap m gs cs gf cf (.slice none 0 0) L (supsL L L.length) (facesL L L.length) w := by
  have l1 : (supsL L L.length).length = L.length := by simp [supsL]
  have l2 : (facesL L L.length).length = L.length := by simp [facesL]
  obtain ⟨g, cap, hc, _⟩ := Kd.R_form h.row h8
  obtain ⟨gs, cs, hs, _⟩ := Kd.R_form h.sup (by omega)
  obtain ⟨gf, cf, hf, _⟩ := Kd.R_form h.faces (by omega)
  rw [l1] at hs
  rw [l2] at hf
  have hr := h.row
  have hsu := h.sup
  have hfa := h.faces
  have hb := h.blk
  rw [hc, hs, hf] at hb
  rw [hc] at hr
  rw [hs] at hsu
  rw [hf] at hfa
  have k1 := (Kd.R_reads' hr).2.2
  have k2 := (Kd.R_reads' hsu).2.2
  have k3 := (Kd.R_reads' hfa).2.2
  rw [l1] at k2
  rw [l2] at k3
  refine ⟨g, cap, gs, cs, gf, cf, hc, hs, hf, hb, rfl, l1, l2, hl, k1, h.map, k2, k3, fun i hi => ?_, fun i hi => ?_⟩
  · rw [supsL, getD_range _ _ _ _ hi]
    unfold supI
    split
    · exact .inl rfl
    · exact .inr (numI_range L _ h8)
  · rw [facesL, getD_range _ _ _ _ hi]
    unfold fsI
    have hx : L.getD i zCl ∈ L := by simp [List.getD, hi]
    have := (hok _ hx).2.2.1
    refine ⟨by rw [List.length_map]; omega, fun f hf => ?_⟩
    obtain ⟨s, _, rfl⟩ := List.mem_map.1 hf
    exact numI_range L s h8

/-- Does what stands right above a class fit? -/
def faceAt (L : List Cl) (u : Int) : Bool := (L.getD u.toNat zCl).face
def upFit (L : List Cl) (S : List Int) (i : Nat) : Bool := S.getD i 0 == -1 || (!faceAt L (S.getD i 0) && (!(L.getD i zCl).face || S.getD i 0 == 0))
set_option maxRecDepth 100000 in
set_option maxHeartbeats 4000000 in
theorem upFits_any (p g N cap m gs cs gf cf : Nat) (aV : Value) (L : List Cl) (S : List Int) (F : List (List Int)) (w : World) (h : SV p g N cap m gs cs gf cf aV L S F w) (i : Nat) (hi : i < N) :
    Calls Tryd.prog 66 #[.pointer (some ⟨p, 0, none⟩), .int .i64 i] w fun e w' => e = .returned (.bool (upFit L S i)) ∧ w' = w := by
  have hn := h.big
  have HU : Hid (upFit L S i = (S.getD i 0 == -1 || (!faceAt L (S.getD i 0) && (!(L.getD i zCl).face || S.getD i 0 == 0)))) := rfl
  have c0 := blk_cell h.blk 0
  have c2 := blk_cell h.blk 2
  have d0 := h.supAt i hi
  have d1 := h.faceBit i hi
  have hr := h.supR i hi
  have H := hid h
  clear h
  have li : (i : Int) < N := by omega
  have HFA : Hid (∀ v : Nat, faceAt L (v : Int) = (L.getD v zCl).face) := fun v => rfl
  generalize (L.getD i zCl).face = bi at *
  generalize S.getD i 0 = u at *
  rcases hr with rfl | ⟨h0, h1⟩
  · clear d1
    go_enter Tryd.func66, Tryd.ntmps66
    go_wp2
    go_ret
    exact ⟨by rw [HU.out]; rfl, rfl⟩
  · obtain ⟨v, rfl⟩ := Int.eq_ofNat_of_zero_le h0
    have hv : v < N := by omega
    have d2 := H.out.faceBit v hv
    have b1 : ((v : Int) == -1) = false := beq_eq_false_iff_ne.2 (by omega)
    rw [HFA.out v] at HU
    generalize (L.getD v zCl).face = bv at *
    cases bv with
    | true =>
      clear d1
      go_enter Tryd.func66, Tryd.ntmps66
      go_wp2
      go_ret
      exact ⟨by rw [HU.out, b1]; rfl, rfl⟩
    | false =>
      cases bi with
      | false =>
        go_enter Tryd.func66, Tryd.ntmps66
        go_wp2
        go_ret
        exact ⟨by rw [HU.out, b1]; rfl, rfl⟩
      | true =>
        go_enter Tryd.func66, Tryd.ntmps66
        go_wp2
        go_ret
        exact ⟨by rw [HU.out, b1]; rfl, rfl⟩
end Go.Proofs.YtlihpmhnlooapaaDoor
