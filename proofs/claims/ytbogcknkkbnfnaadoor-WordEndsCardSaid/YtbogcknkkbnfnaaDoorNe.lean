/- The document's answer: Super, Interfaces, ups. Printed by mkne.py. -/
import Derived.Test.YtbogcknkkbnfnaaDoorR5
import Derived.Deep.RegionHeld3
namespace Go.Proofs.YtbogcknkkbnfnaaDoor
open Go.RowKit Go.Proofs.YtbogcknkkbnfnaaDoorW.PrintWords Go.Maps Go.WideMaps

theorem below_drewN0 {B : Nat} {a w : World} (h : Below B a w) (n : Nat) : Below B a (w.drewN n) := h.trans ⟨rfl, rfl, rfl, Nat.le_refl _, fun _ _ => rfl⟩
theorem hold3 {W w1 w2 : World} {a0 a1 a2 : Addr} {v0 v1 v2 : Value} (h : Below W.heap.size W w1 ∧ w1.cell? a0 = some v0 ∧ w1.cell? a1 = some v1 ∧ w1.cell? a2 = some v2) (hb : Below w1.heap.size w1 w2) : Below W.heap.size W w2 ∧ w2.cell? a0 = some v0 ∧ w2.cell? a1 = some v1 ∧ w2.cell? a2 = some v2 :=
  ⟨below_weaken h.1 h.1.size hb, (hb.cell (World.block_lt_of_cell? w1 _ h.2.1)).trans h.2.1, (hb.cell (World.block_lt_of_cell? w1 _ h.2.2.1)).trans h.2.2.1, (hb.cell (World.block_lt_of_cell? w1 _ h.2.2.2)).trans h.2.2.2⟩
theorem getD_mem {L : List Cl} {i : Nat} (hi : i < L.length) : L.getD i zCl ∈ L := by simp [List.getD, hi]
section
variable {p g c : Nat} {r : List Cl} {w : World}
set_option maxRecDepth 100000 in
set_option maxHeartbeats 4000000 in
theorem rIfaces_in (h : MV p g c r w) {i : Nat} (hi : i < (refB ++ r).length) : Calls Tryd.prog 94 #[.pointer (some ⟨p, 0, none⟩), .int .i64 i] w fun e w' => ∃ v, e = .returned v ∧ kI.R 3 w' w.heap.size (fun _ => True) v (((builtL ++ r).getD i zCl).faces.map (fnd (builtL ++ r))) ∧ Below w.heap.size w w' := by
  have HH := hid (rHas_any h i true (inR hi))
  have hn := h.big
  have c0 : w.cell? ⟨p, 0, none⟩ = some (.slice (some ⟨g, 0, none⟩) (refB ++ r).length c) := blk_cell h.blk 0
  obtain ⟨e, hE, _, _, d2, _, d4, _⟩ := el_at h.row i hi
  have li : (i : Int) < (refB ++ r).length := by omega
  have HF := hid (fun (s : ByteArray) (W : World) (hW : Below w.heap.size w W) => (h.step hW).find s)
  have HC := hid hE.fC
  have hfn := hE.fn
  rw [(ref_faces r i).1] at HC hfn
  have hl := h.len.1
  have hFb : ((builtL ++ r).getD i zCl).faces.length ≤ 10000000000000 := by
    have hm : ∀ x ∈ builtL ++ r, clOk x := fun x hx => (List.mem_append.1 hx).elim (builtL_ok x) (h.ok x)
    have := (hm _ (getD_mem (show i < (builtL ++ r).length by omega))).2.2.1
    omega
  clear h hl
  generalize ((builtL ++ r).getD i zCl).faces = F at *
  generalize e.f.a = A at *
  generalize e.f.c = fc at *
  rw [hfn] at d4
  obtain ⟨M, hM⟩ : ∃ M, F.length = M := ⟨_, rfl⟩
  rw [hM] at d4 hFb
  have HM := hid hM
  clear hM hfn hE d2
  generalize (refB ++ r).length = N at *
  go_enter Tryd.func94, Tryd.ntmps94
  go_upto_region 4 with (go_at_call 129; refine HH.out.mono ?_; rintro e' w' ⟨rfl, hw⟩; obtain rfl := hw.symm)
  go_wp2_with fail
  go_loopw [5, 6] (fun oV iV wr => ∃ q : Nat, q ≤ M ∧ iV = .int .i64 q ∧ Hid (kI.R 3 wr w.heap.size (fun _ => True) oV ((F.take q).map (fnd (builtL ++ r)))) ∧ Hid (Below w.heap.size w wr)) (fun _ iV _ => M - (intOf iV).toNat)
  case atStart => exact ⟨0, by omega, rfl, Kd.R_nil _ _ _ _ _, Below.refl _ _⟩
  obtain ⟨q, hq, rfl, HR, HB⟩ := hrel
  have s0 := (HB.out.cell (World.block_lt_of_cell? w _ c0)).trans c0
  have s1 := (HB.out.cell (World.block_lt_of_cell? w _ d4)).trans d4
  by_cases hlt : q < M
  · obtain ⟨s, hs⟩ : ∃ s, F[q]? = some s := ⟨_, List.getElem?_eq_getElem (by rw [HM.out]; exact hlt)⟩
    obtain ⟨b, off, hA⟩ := C_plain HC.out (by rw [HM.out]; omega) (by decide)
    subst hA
    have e0 := C_scalar (h1 := fun _ => rfl) HC.out ⟨#[]⟩ q (by rw [HM.out]; exact hlt)
    rw [List.getD_eq_getElem?_getD, hs, Option.getD_some] at e0
    have s2 := (HB.out.cell (World.block_lt_of_cell? w _ e0)).trans e0
    have HS := hid (show (F.take (q + 1)).map (fnd (builtL ++ r)) = (F.take q).map (fnd (builtL ++ r)) ++ [fnd (builtL ++ r) s] by rw [List.take_add_one, hs, List.map_append]; rfl)
    have hz := HB.out.size
    have HKP := hid (fun (w' : World) (hb : Below w.heap.size w w') => (⟨hb, (hb.cell (World.block_lt_of_cell? w _ c0)).trans c0, (hb.cell (World.block_lt_of_cell? w _ d4)).trans d4, (hb.cell (World.block_lt_of_cell? w _ e0)).trans e0⟩ : Below w.heap.size w w' ∧ w'.cell? ⟨p, 0, none⟩ = some (.slice (some ⟨g, 0, none⟩) N c) ∧ w'.cell? ⟨g, i * 7 + 4, none⟩ = some (.slice (some ⟨b, off, none⟩) M fc) ∧ w'.cell? ⟨b, off + q, none⟩ = some (.string s)))
    have HFI := hid (HF.out s)
    clear hs e0 c0 d4
    go_wp2_with fail
    go_region_held3 (fun w' => Below w.heap.size w w' ∧ w'.cell? ⟨p, 0, none⟩ = some (.slice (some ⟨g, 0, none⟩) N c) ∧ w'.cell? ⟨g, i * 7 + 4, none⟩ = some (.slice (some ⟨b, off, none⟩) M fc) ∧ w'.cell? ⟨b, off + q, none⟩ = some (.string s)) (first | exact HKP.out _ (below_drewN0 HB.out 1) | exact HKP.out _ (by assumption) | exact HKP.out _ (below_alloc (And.left (by assumption)) _) | exact HKP.out _ (below_alloc HB.out _) | go_keep)
      (first
        | (go_at_call 101; refine (HFI.out _ (And.left (by assumption))).mono ?_; rintro e w' ⟨rfl, rfl⟩)
        | (refine Kd.R_append_rows_step kI w.heap.size (by rfl) (.tmp 25) (.tmp 42) 75 3 _ 8 (by rfl) Tryd.underlying75 infoInt (by rfl) (by decide) (by decide) _ ((F.take q).map (fnd (builtL ++ r))) [fnd (builtL ++ r) s] _ 1 1 (fun _ => True) (fun _ => False) (by rfl) (by rfl) (Kd.R_below HR.out (below_drew (below_alloc (Below.refl _ _) _))) (reads_one _ _ (.int .i64 (fnd (builtL ++ r) s)) _ (by go_simp)) (by rintro _ _ ⟨rfl, rfl⟩; exact rfl) (fun _ h => h.elim) (fun _ _ => trivial) (by first | exact below_drew (below_alloc HB.out _) | exact And.left (by assumption)) (by simp; omega) (by simp; omega) ?_; intro v1 w1 hR1 hB1 _ _; have HR1 := hid hR1; have HB1 := hid hB1; clear hR1))
    all_goals
      go_wp2
      go_roundw
      case rel => exact ⟨q + 1, by omega, by go_num, by rw [HS.out]; exact HR1.out, HB1⟩
      case measure => simp [intOf]; omega
  · have HFIN := hid (show (F.take q).map (fnd (builtL ++ r)) = F.map (fnd (builtL ++ r)) by rw [List.take_of_length_le (by rw [HM.out]; omega)])
    go_wp2
    go_ret
    exact ⟨_, rfl, by rw [← HFIN.out]; exact HR.out, HB.out⟩
set_option maxRecDepth 100000 in
set_option maxHeartbeats 4000000 in
theorem rIfaces_out (h : MV p g c r w) {i : Int} (hi : ¬ (0 ≤ i ∧ i < (refB ++ r).length)) : Calls Tryd.prog 94 #[.pointer (some ⟨p, 0, none⟩), .int .i64 i] w fun e w' => e = .returned (.slice none 0 0) ∧ w' = w := by
  have HH := hid (rHas_any h i false (decide_eq_false hi))
  clear h hi
  go_enter Tryd.func94, Tryd.ntmps94
  go_wp2_with (go_at_call 129; refine HH.out.mono ?_; rintro e' w' ⟨rfl, rfl⟩)
  go_ret
  exact ⟨rfl, rfl⟩
set_option maxRecDepth 100000 in
set_option maxHeartbeats 4000000 in
theorem rSuper_in (h : MV p g c r w) {i : Nat} (h0 : 0 < i) (hi : i < (refB ++ r).length) : Calls Tryd.prog 92 #[.pointer (some ⟨p, 0, none⟩), .int .i64 i] w fun e w' => e = .returned (.int .i64 (fnd (builtL ++ r) ((builtL ++ r).getD i zCl).super)) ∧ Below w.heap.size w w' := by
  have HH := hid (rHas_any h i true (inR hi))
  have hn := h.big
  have c0 : w.cell? ⟨p, 0, none⟩ = some (.slice (some ⟨g, 0, none⟩) (refB ++ r).length c) := blk_cell h.blk 0
  obtain ⟨e, hE, _, _, d2, _⟩ := el_at h.row i hi
  have li : (i : Int) < (refB ++ r).length := by omega
  have HE := hid (show e.s = ((builtL ++ r).getD i zCl).super by rw [hE.s, ref_at r h0])
  have HF := hid (fun (W : World) (hW : Below w.heap.size w W) => (h.step hW).find e.s)
  rw [← HE.out]
  clear h hE
  generalize (refB ++ r).length = N at *
  go_enter Tryd.func92, Tryd.ntmps92
  go_upto_region 3 with (go_at_call 129; refine HH.out.mono ?_; rintro e' w' ⟨rfl, hw⟩; obtain rfl := hw.symm)
  go_quiet ((go_at_call 101; exact Calls.quiet_of_same (HF.out _ (pw_below_drewN (Below.refl _ _) _))))
  go_wp2
  go_ret
  exact ⟨rfl, pw_below_drewN (Below.refl _ _) _⟩
set_option maxRecDepth 100000 in
set_option maxHeartbeats 4000000 in
theorem rSuper_out (h : MV p g c r w) {i : Int} (hi : ¬ (1 ≤ i ∧ i < (refB ++ r).length)) : Calls Tryd.prog 92 #[.pointer (some ⟨p, 0, none⟩), .int .i64 i] w fun e w' => e = .returned (.int .i64 (-1)) ∧ Below w.heap.size w w' := by
  by_cases h1 : i < 1
  · clear h hi
    go_enter Tryd.func92, Tryd.ntmps92
    go_wp2_with fail
    go_ret
    exact ⟨rfl, Below.refl _ _⟩
  · have HH := hid (rHas_any h i false (decide_eq_false (fun hh => hi ⟨by omega, hh.2⟩)))
    clear h hi
    go_enter Tryd.func92, Tryd.ntmps92
    go_wp2_with (go_at_call 129; refine HH.out.mono ?_; rintro e' w' ⟨rfl, rfl⟩)
    go_ret
    exact ⟨rfl, Below.refl _ _⟩
/-- What ups answers. -/
def upsN (r : List Cl) (i : Nat) : List Int := (if i = 0 then [] else [fnd (builtL ++ r) ((builtL ++ r).getD i zCl).super]) ++ ((builtL ++ r).getD i zCl).faces.map (fnd (builtL ++ r))
set_option maxRecDepth 100000 in
set_option maxHeartbeats 4000000 in
theorem ups_any (h : MV p g c r w) {i : Nat} (hi : i < (refB ++ r).length) : Calls Tryd.prog 133 #[.pointer (some ⟨p, 0, none⟩), .int .i64 i] w fun e w' => ∃ v, e = .returned v ∧ kI.R 3 w' w.heap.size (fun _ => True) v (upsN r i) ∧ Below w.heap.size w w' := by
  have hn := h.big
  have c0 : w.cell? ⟨p, 0, none⟩ = some (.slice (some ⟨g, 0, none⟩) (refB ++ r).length c) := blk_cell h.blk 0
  obtain ⟨e, hE, _, _, d2, _, d4, _⟩ := el_at h.row i hi
  have li : (i : Int) < (refB ++ r).length := by omega
  have HF := hid (fun (s : ByteArray) (W : World) (hW : Below w.heap.size w W) => (h.step hW).find s)
  have HC := hid hE.fC
  have hfn := hE.fn
  rw [(ref_faces r i).1] at HC hfn
  have HES := hid (fun (h0 : 0 < i) => (show e.s = ((builtL ++ r).getD i zCl).super by rw [hE.s, ref_at r h0]))
  unfold upsN
  have hl := h.len.1
  have hFb : ((builtL ++ r).getD i zCl).faces.length ≤ 10000000000000 := by
    have hm : ∀ x ∈ builtL ++ r, clOk x := fun x hx => (List.mem_append.1 hx).elim (builtL_ok x) (h.ok x)
    have := (hm _ (getD_mem (show i < (builtL ++ r).length by omega))).2.2.1
    omega
  clear h hl
  generalize ((builtL ++ r).getD i zCl).faces = F at *
  generalize e.f.a = A at *
  generalize e.f.c = fc at *
  rw [hfn] at d4
  obtain ⟨M, hM⟩ : ∃ M, F.length = M := ⟨_, rfl⟩
  rw [hM] at d4 hFb
  have HM := hid hM
  clear hM hfn hE
  generalize (refB ++ r).length = N at *
  by_cases h0 : i = 0
  · have HP := hid (show (if i = 0 then [] else [fnd (builtL ++ r) ((builtL ++ r).getD i zCl).super]) = ([] : List Int) from if_pos h0)
    have hi0 : ¬ (0 : Int) < i := by omega
    rw [HP.out, List.nil_append]
    clear h0 hi HES HP d2
    go_enter Tryd.func133, Tryd.ntmps133
    go_upto_region 4 with fail
    go_wp2_with fail
    go_loopw [5, 6] (fun oV iV wr => ∃ q : Nat, q ≤ M ∧ iV = .int .i64 q ∧ Hid (kI.R 3 wr w.heap.size (fun _ => True) oV ((F.take q).map (fnd (builtL ++ r)))) ∧ Hid (Below w.heap.size w wr)) (fun _ iV _ => M - (intOf iV).toNat)
    case atStart => exact ⟨0, by omega, rfl, Kd.R_nil _ _ _ _ _, Below.refl _ _⟩
    obtain ⟨q, hq, rfl, HR, HB⟩ := hrel
    have s0 := (HB.out.cell (World.block_lt_of_cell? w _ c0)).trans c0
    have s1 := (HB.out.cell (World.block_lt_of_cell? w _ d4)).trans d4
    by_cases hlt : q < M
    · obtain ⟨s, hs⟩ : ∃ s, F[q]? = some s := ⟨_, List.getElem?_eq_getElem (by rw [HM.out]; exact hlt)⟩
      obtain ⟨b, off, hA⟩ := C_plain HC.out (by rw [HM.out]; omega) (by decide)
      subst hA
      have e0 := C_scalar (h1 := fun _ => rfl) HC.out ⟨#[]⟩ q (by rw [HM.out]; exact hlt)
      rw [List.getD_eq_getElem?_getD, hs, Option.getD_some] at e0
      have s2 := (HB.out.cell (World.block_lt_of_cell? w _ e0)).trans e0
      have HS := hid (show (F.take (q + 1)).map (fnd (builtL ++ r)) = (F.take q).map (fnd (builtL ++ r)) ++ [fnd (builtL ++ r) s] by rw [List.take_add_one, hs, List.map_append]; rfl)
      have hz := HB.out.size
      have HKP := hid (fun (w' : World) (hb : Below w.heap.size w w') => (⟨hb, (hb.cell (World.block_lt_of_cell? w _ c0)).trans c0, (hb.cell (World.block_lt_of_cell? w _ d4)).trans d4, (hb.cell (World.block_lt_of_cell? w _ e0)).trans e0⟩ : Below w.heap.size w w' ∧ w'.cell? ⟨p, 0, none⟩ = some (.slice (some ⟨g, 0, none⟩) N c) ∧ w'.cell? ⟨g, i * 7 + 4, none⟩ = some (.slice (some ⟨b, off, none⟩) M fc) ∧ w'.cell? ⟨b, off + q, none⟩ = some (.string s)))
      have HFI := hid (HF.out s)
      clear hs e0 c0 d4
      go_wp2_with fail
      go_region_held3 (fun w' => Below w.heap.size w w' ∧ w'.cell? ⟨p, 0, none⟩ = some (.slice (some ⟨g, 0, none⟩) N c) ∧ w'.cell? ⟨g, i * 7 + 4, none⟩ = some (.slice (some ⟨b, off, none⟩) M fc) ∧ w'.cell? ⟨b, off + q, none⟩ = some (.string s)) (first | exact HKP.out _ (below_drewN0 HB.out 1) | exact HKP.out _ (by assumption) | exact HKP.out _ (below_alloc (And.left (by assumption)) _) | exact HKP.out _ (below_alloc HB.out _) | go_keep)
        (first
          | (go_at_call 101; refine (HFI.out _ (And.left (by assumption))).mono ?_; rintro e w' ⟨rfl, rfl⟩)
          | (refine Kd.R_append_rows_step kI w.heap.size (by rfl) (.tmp 38) (.tmp 55) 75 3 _ 8 (by rfl) Tryd.underlying75 infoInt (by rfl) (by decide) (by decide) _ ((F.take q).map (fnd (builtL ++ r))) [fnd (builtL ++ r) s] _ 1 1 (fun _ => True) (fun _ => False) (by rfl) (by rfl) (Kd.R_below HR.out (below_drew (below_alloc (Below.refl _ _) _))) (reads_one _ _ (.int .i64 (fnd (builtL ++ r) s)) _ (by go_simp)) (by rintro _ _ ⟨rfl, rfl⟩; exact rfl) (fun _ h => h.elim) (fun _ _ => trivial) (by first | exact below_drew (below_alloc HB.out _) | exact And.left (by assumption)) (by simp; omega) (by simp; omega) ?_; intro v1 w1 hR1 hB1 _ _; have HR1 := hid hR1; have HB1 := hid hB1; clear hR1))
      all_goals
        go_wp2
        go_roundw
        case rel => exact ⟨q + 1, by omega, by go_num, by rw [HS.out]; exact HR1.out, HB1⟩
        case measure => simp [intOf]; omega
    · have HFIN := hid (show (F.take q).map (fnd (builtL ++ r)) = F.map (fnd (builtL ++ r)) by rw [List.take_of_length_le (by rw [HM.out]; omega)])
      go_wp2
      go_ret
      exact ⟨_, rfl, by rw [← HFIN.out]; exact HR.out, HB.out⟩
  · have HP := hid (show (if i = 0 then [] else [fnd (builtL ++ r) ((builtL ++ r).getD i zCl).super]) = [fnd (builtL ++ r) e.s] by rw [if_neg h0, HES.out (by omega)])
    have hi0 : (0 : Int) < i := by omega
    rw [HP.out]
    have HFS := hid (fun (W : World) (hW : Below w.heap.size w W) => HF.out e.s W hW)
    generalize fnd (builtL ++ r) e.s = u at *
    clear h0 hi HES HP
    go_enter Tryd.func133, Tryd.ntmps133
    have HKP := hid (fun (w' : World) (hb : Below w.heap.size w w') => (⟨hb, (hb.cell (World.block_lt_of_cell? w _ c0)).trans c0, (hb.cell (World.block_lt_of_cell? w _ d4)).trans d4, (hb.cell (World.block_lt_of_cell? w _ d2)).trans d2⟩ : Below w.heap.size w w' ∧ w'.cell? ⟨p, 0, none⟩ = some (.slice (some ⟨g, 0, none⟩) N c) ∧ w'.cell? ⟨g, i * 7 + 4, none⟩ = some (.slice A M fc) ∧ w'.cell? ⟨g, i * 7 + 2, none⟩ = some (.string e.s)))
    go_upto_region 3 with fail
    go_region_held3 (fun w' => Below w.heap.size w w' ∧ w'.cell? ⟨p, 0, none⟩ = some (.slice (some ⟨g, 0, none⟩) N c) ∧ w'.cell? ⟨g, i * 7 + 4, none⟩ = some (.slice A M fc) ∧ w'.cell? ⟨g, i * 7 + 2, none⟩ = some (.string e.s)) (first | exact HKP.out _ (below_drewN0 (Below.refl _ _) 1) | exact HKP.out _ (by assumption) | exact HKP.out _ (below_alloc (And.left (by assumption)) _) | exact HKP.out _ (below_alloc (Below.refl _ _) _) | go_keep)
      (first
        | (go_at_call 101; refine (HFS.out _ (And.left (by assumption))).mono ?_; rintro e w' ⟨rfl, rfl⟩)
        | (refine Kd.R_append_rows_step kI w.heap.size (by rfl) (.tmp 9) (.tmp 23) 75 3 _ 8 (by rfl) Tryd.underlying75 infoInt (by rfl) (by decide) (by decide) (.slice none 0 0) [] [u] _ 1 1 (fun _ => True) (fun _ => False) (by rfl) (by rfl) (Kd.R_nil _ _ _ _ _) (reads_one _ _ (.int .i64 u) _ (by go_simp)) (by rintro _ _ ⟨rfl, rfl⟩; exact rfl) (fun _ h => h.elim) (fun _ _ => trivial) (by first | exact below_drew (below_alloc (Below.refl _ _) _) | exact And.left (by assumption)) (by simp) (by simp) ?_; intro v1 w1 hR1 hB1 _ _; have HRu := hid hR1; have HBu := hid hB1; clear hR1))
    all_goals
      go_wp2_with fail
      go_loopw [5, 6] (fun oV iV wr => ∃ q : Nat, q ≤ M ∧ iV = .int .i64 q ∧ Hid (kI.R 3 wr w.heap.size (fun _ => True) oV ([u] ++ (F.take q).map (fnd (builtL ++ r)))) ∧ Hid (Below w.heap.size w wr)) (fun _ iV _ => M - (intOf iV).toNat)
      case atStart => exact ⟨0, by omega, rfl, HRu, HBu⟩
      obtain ⟨q, hq, rfl, HR, HB⟩ := hrel
      have s0 := (HB.out.cell (World.block_lt_of_cell? w _ c0)).trans c0
      have s1 := (HB.out.cell (World.block_lt_of_cell? w _ d4)).trans d4
      by_cases hlt : q < M
      · obtain ⟨s, hs⟩ : ∃ s, F[q]? = some s := ⟨_, List.getElem?_eq_getElem (by rw [HM.out]; exact hlt)⟩
        obtain ⟨b, off, hA⟩ := C_plain HC.out (by rw [HM.out]; omega) (by decide)
        subst hA
        have e0 := C_scalar (h1 := fun _ => rfl) HC.out ⟨#[]⟩ q (by rw [HM.out]; exact hlt)
        rw [List.getD_eq_getElem?_getD, hs, Option.getD_some] at e0
        have s2 := (HB.out.cell (World.block_lt_of_cell? w _ e0)).trans e0
        have HS := hid (show (F.take (q + 1)).map (fnd (builtL ++ r)) = (F.take q).map (fnd (builtL ++ r)) ++ [fnd (builtL ++ r) s] by rw [List.take_add_one, hs, List.map_append]; rfl)
        have hz := HB.out.size
        have HKP := hid (fun (w' : World) (hb : Below w.heap.size w w') => (⟨hb, (hb.cell (World.block_lt_of_cell? w _ c0)).trans c0, (hb.cell (World.block_lt_of_cell? w _ d4)).trans d4, (hb.cell (World.block_lt_of_cell? w _ e0)).trans e0⟩ : Below w.heap.size w w' ∧ w'.cell? ⟨p, 0, none⟩ = some (.slice (some ⟨g, 0, none⟩) N c) ∧ w'.cell? ⟨g, i * 7 + 4, none⟩ = some (.slice (some ⟨b, off, none⟩) M fc) ∧ w'.cell? ⟨b, off + q, none⟩ = some (.string s)))
        have HFI := hid (HF.out s)
        clear hs e0 c0 d4
        go_wp2_with fail
        go_region_held3 (fun w' => Below w.heap.size w w' ∧ w'.cell? ⟨p, 0, none⟩ = some (.slice (some ⟨g, 0, none⟩) N c) ∧ w'.cell? ⟨g, i * 7 + 4, none⟩ = some (.slice (some ⟨b, off, none⟩) M fc) ∧ w'.cell? ⟨b, off + q, none⟩ = some (.string s)) (first | exact HKP.out _ (below_drewN0 HB.out 1) | exact HKP.out _ (by assumption) | exact HKP.out _ (below_alloc (And.left (by assumption)) _) | exact HKP.out _ (below_alloc HB.out _) | go_keep)
          (first
            | (go_at_call 101; refine (HFI.out _ (And.left (by assumption))).mono ?_; rintro e w' ⟨rfl, rfl⟩)
            | (refine Kd.R_append_rows_step kI w.heap.size (by rfl) (.tmp 38) (.tmp 55) 75 3 _ 8 (by rfl) Tryd.underlying75 infoInt (by rfl) (by decide) (by decide) _ ([u] ++ (F.take q).map (fnd (builtL ++ r))) [fnd (builtL ++ r) s] _ 1 1 (fun _ => True) (fun _ => False) (by rfl) (by rfl) (Kd.R_below HR.out (below_drew (below_alloc (Below.refl _ _) _))) (reads_one _ _ (.int .i64 (fnd (builtL ++ r) s)) _ (by go_simp)) (by rintro _ _ ⟨rfl, rfl⟩; exact rfl) (fun _ h => h.elim) (fun _ _ => trivial) (by first | exact below_drew (below_alloc HB.out _) | exact And.left (by assumption)) (by simp; omega) (by simp; omega) ?_; intro v1 w1 hR1 hB1 _ _; have HR1 := hid hR1; have HB1 := hid hB1; clear hR1))
        all_goals
          go_wp2
          go_roundw
          case rel => exact ⟨q + 1, by omega, by go_num, by rw [HS.out]; rw [← List.append_assoc]; exact HR1.out, HB1⟩
          case measure => simp [intOf]; omega
      · have HFIN := hid (show (F.take q).map (fnd (builtL ++ r)) = F.map (fnd (builtL ++ r)) by rw [List.take_of_length_le (by rw [HM.out]; omega)])
        go_wp2
        go_ret
        exact ⟨_, rfl, by rw [← HFIN.out]; exact HR.out, HB.out⟩
end
end Go.Proofs.YtbogcknkkbnfnaaDoor
