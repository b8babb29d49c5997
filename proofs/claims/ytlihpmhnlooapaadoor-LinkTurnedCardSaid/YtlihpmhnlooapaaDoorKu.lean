/- Whether a class's interfaces fit. -/
import Derived.Test.YtlihpmhnlooapaaDoorKt
namespace Go.Proofs.YtlihpmhnlooapaaDoor
open Go.RowKit Go.Proofs.YtlihpmhnlooapaaDoorW.PrintWords Go.Maps Go.WideMaps

def faceBadAt (L : List Cl) (fs : List Int) (k : Nat) : Bool := !faceAt L (fs.getD k 0) || (fs.take k).contains (fs.getD k 0)
def faceFit (L : List Cl) (fs : List Int) : Bool := (List.range fs.length).all (fun k => !faceBadAt L fs k)
theorem faceFit_no {L : List Cl} {fs : List Int} {k : Nat} (hk : k < fs.length) (h : faceBadAt L fs k = true) : faceFit L fs = false := by
  unfold faceFit
  rw [List.all_eq_false]
  exact ⟨k, by simpa using hk, by rw [h]; decide⟩
theorem faceFit_yes {L : List Cl} {fs : List Int} (h : ∀ k, k < fs.length → faceBadAt L fs k = false) : faceFit L fs = true := by
  unfold faceFit
  rw [List.all_eq_true]
  exact fun k hk => by rw [h k (by simpa using hk)]; rfl
set_option maxRecDepth 100000 in
set_option maxHeartbeats 4000000 in
theorem facesFit_any (p g N cap m gs cs gf cf : Nat) (aV : Value) (L : List Cl) (S : List Int) (F : List (List Int)) (w : World) (h : SV p g N cap m gs cs gf cf aV L S F w) (i : Nat) (hi : i < N) :
    Calls Tryd.prog 68 #[.pointer (some ⟨p, 0, none⟩), .int .i64 i] w fun e w' => e = .returned (.bool (faceFit L (F.getD i []))) ∧ w' = w := by
  have hn := h.big
  have c0 := blk_cell h.blk 0
  have c3 := blk_cell h.blk 3
  obtain ⟨A, c, d0, hlc, hC⟩ := h.facesAt i hi
  obtain ⟨hfl, hfr⟩ := h.facesR i hi
  have HC := hid hC
  have HFR := hid hfr
  have H := hid h
  clear h hC hfr
  have li : (i : Int) < N := by omega
  generalize F.getD i [] = fs at *
  go_enter Tryd.func68, Tryd.ntmps68
  go_wp2
  go_loop [15] (fun v => ∃ k : Nat, k ≤ fs.length ∧ v = .int .i64 k ∧ Hid (∀ j, j < k → faceBadAt L fs j = false)) (fun v => fs.length - (intOf v).toNat)
  case atStart => exact ⟨0, by omega, rfl, fun j hj => by omega⟩
  obtain ⟨k, hk, rfl, HD⟩ := hrel
  by_cases hlt : k < fs.length
  · obtain ⟨b, off, hA⟩ := C_plain HC.out (by omega) (by decide)
    subst hA
    have hcell := C_scalar (h1 := fun _ => rfl) HC.out 0
    have e0 := hcell k hlt
    have hfm : fs.getD k 0 ∈ fs := by simp [List.getD, hlt]
    obtain ⟨r0, r1⟩ := HFR.out _ hfm
    obtain ⟨v, hv⟩ := Int.eq_ofNat_of_zero_le r0
    have hvN : v < N := by omega
    have d2 := H.out.faceBit v hvN
    have HB : Hid (faceBadAt L fs k = (!(L.getD v zCl).face || (fs.take k).contains (v : Int))) := by unfold faceBadAt faceAt; rw [hv]; rfl
    have HCT := hid (fun W (hW : W = w) => by subst hW; exact Tryd.slices_Contains_int b off k c fs (v : Int) W (by omega) (by omega) hcell)
    rw [hv] at e0
    clear hcell hfm r0 r1 hv
    generalize (L.getD v zCl).face = bv at *
    cases bv with
    | false =>
      have HBB := hid (show faceBadAt L fs k = true by rw [HB.out]; rfl)
      go_wp2
      go_ret
      exact ⟨by rw [faceFit_no hlt HBB.out]; rfl, rfl⟩
    | true =>
      cases hcn : (fs.take k).contains (v : Int) with
      | true =>
        have HBB := hid (show faceBadAt L fs k = true by rw [HB.out, hcn]; rfl)
        have HCN := hid hcn
        clear hcn
        go_wp2_with (go_at_call 75; refine (HCT.out _ rfl).mono ?_; rintro e w' ⟨rfl, rfl⟩; rw [HCN.out])
        go_ret
        exact ⟨by rw [faceFit_no hlt HBB.out]; rfl, rfl⟩
      | false =>
        have HBB := hid (show faceBadAt L fs k = false by rw [HB.out, hcn]; rfl)
        have HCN := hid hcn
        clear hcn
        go_wp2_with (go_at_call 75; refine (HCT.out _ rfl).mono ?_; rintro e w' ⟨rfl, rfl⟩; rw [HCN.out])
        go_round
        case rel => exact ⟨k + 1, by omega, by go_num, fun j hj => by
          by_cases e : j = k
          · rw [e]; exact HBB.out
          · exact HD.out j (by omega)⟩
        case measure => simp [intOf]; omega
  · have HY := hid (faceFit_yes (L := L) (fs := fs) (fun j hj => HD.out j (by omega)))
    go_wp2
    go_ret
    exact ⟨by rw [HY.out]; rfl, rfl⟩
end Go.Proofs.YtlihpmhnlooapaaDoor
