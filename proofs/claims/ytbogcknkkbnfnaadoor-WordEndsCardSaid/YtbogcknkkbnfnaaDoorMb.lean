/- lists: the walk. -/
import Derived.Test.YtbogcknkkbnfnaaDoorR2
namespace Go.Proofs.YtbogcknkkbnfnaaDoor
open Go.RowKit Go.Proofs.YtbogcknkkbnfnaaDoorW.PrintWords Go.Maps Go.WideMaps

set_option maxRecDepth 100000 in
set_option maxHeartbeats 8000000 in
theorem lists_any (w0 : World) (p m : Nat) (cV sV fV : Value) (L : List Cl) (w : World) (hp : w0.heap.size ≤ p) (h : JSt w0 p m cV L sV (supsL L L.length) fV (facesL L L.length) w) (h8 : 0 < L.length) (hl : L.length ≤ 72) (hok : ∀ x ∈ L, clOk x)
    (G : GoodSet L.length L (supsL L L.length) (facesL L L.length)) :
    Calls Tryd.prog 85 #[.pointer (some ⟨p, 0, none⟩)] w fun e w' => e = .returned (.tuple #[]) ∧ ∃ aV, LSt w0 w p w.heap.size cV (.map (some m)) sV fV (aboves L.length (supsL L L.length) (facesL L L.length) L.length) aV w' := by
  obtain ⟨g, cap, gs, cs, gf, cf, hc, hs, hf, hV⟩ := h.later h8 hl hok
  have HG := hid G
  have HVW := hid hV
  have HL0 := hid (show LSt w0 w p w.heap.size cV (.map (some m)) sV fV (aboves L.length (supsL L L.length) (facesL L L.length) 0) (.slice none 0 0) (w.alloc (.cells #[.pointer (some ⟨p, 0, none⟩)] 25)) from ⟨h.below.alloc h.below.size _, KpB.of (below_alloc (Below.refl _ _) _), blk_alloc h.blk _, blk_new _ _, Kd.R_nil _ _ _ _ _⟩)
  have hx0 := blk_cell h.blk 0
  have zp := blk_lt h.blk
  have hzw := h.below.size
  subst hc hs hf
  clear h hV G hok
  generalize supsL L L.length = S at *
  generalize facesL L L.length = F at *
  generalize L.length = N at *
  go_enter Tryd.func85, Tryd.ntmps85
  go_wp2
  clear hx0
  generalize w.alloc (.cells #[.pointer (some ⟨p, 0, none⟩)] 25) = w9 at *
  go_loopw [2, 15] (fun _ iV wr => ∃ (k : Nat) (aV : Value), k ≤ N ∧ iV = .int .i64 k ∧ Hid (LSt w0 w p w.heap.size (.slice (some ⟨g, 0, none⟩) N cap) (.map (some m)) (.slice (some ⟨gs, 0, none⟩) N cs) (.slice (some ⟨gf, 0, none⟩) N cf) (aboves N S F k) aV wr)) (fun _ iV _ => N - (intOf iV).toNat)
  case atStart => exact ⟨0, _, by omega, rfl, HL0⟩
  obtain ⟨k, aV, hk, rfl, HL⟩ := hrel
  by_cases hlt : k < N
  · have hx1 := blk_cell HL.out.k1 0
    have HC := hid (chain_any p g N cap m gs cs gf cf aV L S F wr (HVW.out _ _ HL.out.kp HL.out.blk) HG.out k hlt)
    have HFIT := hid (chain_fit HG.out hlt)
    have hlen := HFIT.out.len
    obtain ⟨ch, hch⟩ : ∃ ch, Link.chainL N (supF S) k = ch := ⟨_, rfl⟩
    have HAB := hid (show Link.aboveL N (supF S) (fsF F) k = ch.foldl (fun out k => (fsF F k).foldl (Link.addF (fsF F) (N + 2)) out) ch by rw [← hch]; rfl)
    rw [hch] at HC HFIT hlen
    clear hch
    obtain ⟨M, hM⟩ : ∃ M, ch.length = M := ⟨_, rfl⟩
    have HM := hid (show (ints ch).length = M by simp [ints, hM])
    have HM2 := hid hM
    have HCL := hid (fun (A : Option Addr) (c : Nat) (W : World) (hC : kI.C W A M (ints ch)) => (show Calls Tryd.prog 67 #[.slice A M c] W fun e w' => ∃ A' c', e = .returned (.slice A' M c') ∧ kI.R 3 w' W.heap.size (fun _ => True) (.slice A' M c') (ints ch) ∧ Below W.heap.size W w' from by
      have hCx : (Kd.int .i64).C W A (ints ch).length (ints ch) := by rw [HM.out]; exact hC
      have := cloneInt_any A c (ints ch) W hCx (by rw [HM.out, ← hM]; omega)
      rw [HM.out] at this
      refine this.mono ?_
      rintro e w' ⟨v, rfl, hR, hB⟩
      obtain ⟨A', c', rfl⟩ := Kd.R_slice hR
      rw [HM.out] at hR ⊢
      exact ⟨A', c', rfl, hR, hB⟩))
    have HC2 := hid (show Calls Tryd.prog 72 #[.pointer (some ⟨p, 0, none⟩), .int .i64 k] wr fun e w' => ∃ A c, e = .returned (.slice A M c) ∧ Below wr.heap.size wr w' ∧ kI.C w' A M (ints ch) from by
      refine HC.out.mono ?_
      rintro e wc ⟨v, rfl, hB, hR⟩
      obtain ⟨A', c', rfl⟩ := Kd.R_slice hR
      have h3 := (Kd.R_reads' hR).2.2
      rw [HM.out] at hR h3 ⊢
      exact ⟨A', c', rfl, hB, h3⟩)
    rw [hM] at hlen
    clear hM HC
    go_upto_region 8 with (first | (go_at_call 72; refine HC2.out.mono ?_; rintro e wc ⟨A3, c3, rfl, hBc, hCc⟩; have HBc := hid hBc; have HCc := hid hCc; clear hBc hCc; have hx2 := blk_cell (HL.out.step HBc.out).k1 0) | (go_at_call 67; refine (HCL.out A3 c3 wc HCc.out).mono ?_; rintro e wd ⟨A4, c4, rfl, hRd, hBd⟩; have HBd := hid hBd; have HRd := hid hRd; clear hBd hRd))
    have hzd := HBd.out.size
    have hkA := blk_alloc (blk_new wd (.cells #[.slice A4 M c4] 75)) (.cells #[.func (.func 128) #[] #[.pointer (some ⟨wd.heap.size, 0, none⟩), .pointer (some ⟨w.heap.size, 0, none⟩), .pointer (some ⟨wd.heap.size + 1, 0, none⟩)]] 149)
    have hkB := blk_new (wd.alloc (.cells #[.slice A4 M c4] 75)) (.cells #[.func (.func 128) #[] #[.pointer (some ⟨wd.heap.size, 0, none⟩), .pointer (some ⟨w.heap.size, 0, none⟩), .pointer (some ⟨wd.heap.size + 1, 0, none⟩)]] 149)
    simp only [World.size_alloc] at hkB
    have hBW := below_alloc (below_alloc (Below.refl wd.heap.size wd) (.cells #[.slice A4 M c4] 75)) (.cells #[.func (.func 128) #[] #[.pointer (some ⟨wd.heap.size, 0, none⟩), .pointer (some ⟨w.heap.size, 0, none⟩), .pointer (some ⟨wd.heap.size + 1, 0, none⟩)]] 149)
    have hLWd : LW wc p w.heap.size wd.heap.size (wd.heap.size + 1) N ch ((wd.alloc (.cells #[.slice A4 M c4] 75)).alloc (.cells #[.func (.func 128) #[] #[.pointer (some ⟨wd.heap.size, 0, none⟩), .pointer (some ⟨w.heap.size, 0, none⟩), .pointer (some ⟨wd.heap.size + 1, 0, none⟩)]] 149)) := by
      refine ⟨below_weaken HBd.out hzd hBW, ((HL.out.step HBc.out).step HBd.out |>.step hBW).k1, hkB, ⟨A4, c4, ?_, ?_⟩, HFIT.out, hzd⟩
      · rw [HM2.out]; exact hkA
      · rw [HM2.out]; exact Kd.R_below HRd.out hBW
    have HLWd := hid hLWd
    have HLc := hid (HL.out.step HBc.out)
    have HADD := hid (add_all p g N cap m gs cs gf cf aV L S F wc (HVW.out _ _ (HL.out.step HBc.out).kp (HL.out.step HBc.out).blk) HG.out w.heap.size wd.heap.size (wd.heap.size + 1) (N + 1))
    have HSV := hid (HVW.out _ _ (HL.out.step HBc.out).kp (HL.out.step HBc.out).blk)
    clear hkA hkB hBW hLWd hx1 hx2
    generalize (wd.alloc (.cells #[.slice A4 M c4] 75)).alloc (.cells #[.func (.func 128) #[] #[.pointer (some ⟨wd.heap.size, 0, none⟩), .pointer (some ⟨w.heap.size, 0, none⟩), .pointer (some ⟨wd.heap.size + 1, 0, none⟩)]] 149) = w8 at *
    go_wp2
    go_loopw [7, 26] (fun _ iV ws => ∃ q : Nat, q ≤ M ∧ iV = .int .i64 q ∧ Hid (LW wc p w.heap.size wd.heap.size (wd.heap.size + 1) N ((ch.take q).foldl (fun out k => (fsF F k).foldl (Link.addF (fsF F) (N + 2)) out) ch) ws)) (fun _ iV _ => M - (intOf iV).toNat)
    case atStart => exact ⟨0, by omega, rfl, HLWd⟩
    obtain ⟨q, hq, rfl, HW⟩ := hrel
    by_cases hqM : q < M
    · obtain ⟨b, off, hA⟩ := C_plain HCc.out (by omega) (by decide)
      subst hA
      have hcell := C_scalar (h1 := fun _ => rfl) HCc.out 0 q (by rw [HM.out]; exact hqM)
      have hcq : ch[q]? = some (ch[q]'(by rw [HM2.out]; exact hqM)) := List.getElem?_eq_getElem _
      obtain ⟨v, hv⟩ : ∃ v : Nat, ch[q]? = some v := ⟨_, hcq⟩
      have hvN : v < N := HFIT.out.2 v (List.mem_of_getElem? hv)
      have e1 : (ints ch).getD q 0 = (v : Int) := by
        rw [List.getD_eq_getElem?_getD]
        simp only [ints, List.getElem?_map, hv]
        rfl
      rw [e1] at hcell
      have d2 := (HW.out.below.cell (World.block_lt_of_cell? wc _ hcell)).trans hcell
      have HN := hid (show (ch.take (q + 1)).foldl (fun out k => (fsF F k).foldl (Link.addF (fsF F) (N + 2)) out) ch = (fsF F v).foldl (Link.addF (fsF F) (N + 2)) ((ch.take q).foldl (fun out k => (fsF F k).foldl (Link.addF (fsF F) (N + 2)) out) ch) by
        rw [List.take_add_one, hv]; simp)
      generalize (ch.take q).foldl (fun out k => (fsF F k).foldl (Link.addF (fsF F) (N + 2)) out) ch = out at *
      obtain ⟨A5, c5, d3, hlc5, hC5⟩ := HSV.out.facesAt v hvN
      obtain ⟨hfl, hfr⟩ := HSV.out.facesR v hvN
      have d4 := (HW.out.below.cell (World.block_lt_of_cell? wc _ d3)).trans d3
      have d5 := blk_cell (blk_below HSV.out.blk HW.out.below) 3
      have d6 := blk_cell HW.out.k1 0
      have HC5 := hid hC5
      have HFR := hid hfr
      have lv : (v : Int) < N := by omega
      have hlm : (fsF F v).length = (F.getD v []).length := by simp [fsF]
      have HM3 := hid hlm
      generalize hM2 : (F.getD v []).length = M2 at *
      have HMM := hid hM2
      clear hM2 hlm hC5 hfr d3 hcell hcq e1 hv
      go_wp2
      clear d2 d4 d5 d6
      go_loopw [9, 38] (fun _ iV wt => ∃ q2 : Nat, q2 ≤ M2 ∧ iV = .int .i64 q2 ∧ Hid (LW wc p w.heap.size wd.heap.size (wd.heap.size + 1) N (((fsF F v).take q2).foldl (Link.addF (fsF F) (N + 2)) out) wt)) (fun _ iV _ => M2 - (intOf iV).toNat)
      case atStart => exact ⟨0, by omega, rfl, HW⟩
      obtain ⟨q2, hq2, rfl, HW2⟩ := hrel
      by_cases hqM2 : q2 < M2
      · obtain ⟨b2, off2, hA⟩ := C_plain HC5.out (by omega) (by decide)
        subst hA
        have hcell := C_scalar (h1 := fun _ => rfl) HC5.out 0 q2 (by rw [HMM.out]; exact hqM2)
        obtain ⟨v2, hv⟩ : ∃ v2 : Nat, (F.getD v [])[q2]? = some (v2 : Int) := by
          have hm : (F.getD v [])[q2]'(by rw [HMM.out]; exact hqM2) ∈ F.getD v [] := List.getElem_mem _
          obtain ⟨r0, _⟩ := HFR.out _ hm
          obtain ⟨v2, hv⟩ := Int.eq_ofNat_of_zero_le r0
          exact ⟨v2, by rw [List.getElem?_eq_getElem (by rw [HMM.out]; exact hqM2), hv]⟩
        obtain ⟨_, hvN2⟩ := HFR.out _ (List.mem_of_getElem? hv)
        have hvq : (fsF F v)[q2]? = some v2 := by simp only [fsF, List.getElem?_map, hv]; rfl
        rw [List.getD_eq_getElem?_getD, hv] at hcell
        simp only [Option.getD_some] at hcell
        have d2 := (HW2.out.below.cell (World.block_lt_of_cell? wc _ hcell)).trans hcell
        have d3 := blk_cell HW2.out.k5 0
        have HN2 := hid (show ((fsF F v).take (q2 + 1)).foldl (Link.addF (fsF F) (N + 2)) out = Link.addF (fsF F) (N + 2) (((fsF F v).take q2).foldl (Link.addF (fsF F) (N + 2)) out) v2 by
          rw [List.take_add_one, hvq]; simp)
        have HIH := hid (HADD.out v2 _ wr (by omega) (by have := Link.rank_le (sup := supF S) (fs := fsF F) N v2; omega) HW2.out)
        clear hcell hv hvq
        go_wp2_with (go_at_call 128; refine HIH.out.mono ?_; rintro e w3 ⟨rfl, hW3⟩; have HW3 := hid hW3; clear hW3)
        go_roundw
        case rel => exact ⟨q2 + 1, by omega, by go_num, by rw [HN2.out]; exact HW3⟩
        case measure => simp [intOf]; omega
      · have HF := hid (show LW wc p w.heap.size wd.heap.size (wd.heap.size + 1) N ((fsF F v).foldl (Link.addF (fsF F) (N + 2)) out) wr by
          have := HW2.out
          rw [List.take_of_length_le (by rw [HM3.out]; omega)] at this
          exact this)
        go_wp2
        go_roundw
        case rel => exact ⟨q + 1, by omega, by go_num, by rw [HN.out]; exact HF⟩
        case measure => simp [intOf]; omega
    · have HF := hid (show LW wc p w.heap.size wd.heap.size (wd.heap.size + 1) N (Link.aboveL N (supF S) (fsF F) k) wr by
        have := HW.out
        rw [List.take_of_length_le (by rw [HM2.out]; omega)] at this
        rw [HAB.out]
        exact this)
      have hLr := HLc.out.step HF.out.below
      obtain ⟨A6, c6, k6, hR6⟩ := HF.out.row
      have d1 : wr.cell? ⟨w.heap.size, 0, none⟩ = some (.pointer (some ⟨p, 0, none⟩)) := blk_cell hLr.k1 0
      have d2 : wr.cell? ⟨p, 4, none⟩ = some aV := blk_cell hLr.blk 4
      have d3 := blk_cell k6 0
      simp only [List.getElem?_toArray, List.getElem?_cons_zero] at d3
      have zpr := blk_lt hLr.blk
      have zb1 := blk_lt hLr.k1
      have zb4 := blk_lt k6
      obtain ⟨Ao, no, co, rfl⟩ := R_sl hLr.row
      have HLr := hid hLr
      have HR6 := hid hR6
      clear hLr hR6 k6 HLWd HW HADD HL HCL HC2
      have HABS := hid (aboves_succ N S F k)
      have HBWR := hid HF.out.below
      have hlab := HF.out.fit.len
      generalize Link.aboveL N (supF S) (fsF F) k = ab at *
      go_wp2_with fail
      have HR7 := hid (show kI.R 3 ((wr.alloc (.cells #[.slice A6 ab.length c6] 75)).drew) w.heap.size (fun j => wc.heap.size ≤ j) (.slice A6 ab.length c6) (ints ab) from Kd.R_mono (Kd.R_lower (Kd.R_bound (Kd.R_below HR6.out (below_drew (below_alloc (Below.refl wr.heap.size wr) (.cells #[.slice A6 ab.length c6] 75))))) HLc.out.kp.size) (fun j hj => hj.2.1))
      have HLT := hid (show ∀ j, (Value.slice Ao no co).ownBlock = some j → j < wc.heap.size from Kd.R_lt HLc.out.row)
      have HBW := hid (show Below w.heap.size wc ((wr.alloc (.cells #[.slice A6 ab.length c6] 75)).drew) from (HBWR.out.trans ((below_drew (below_alloc (Below.refl wr.heap.size wr) (.cells #[.slice A6 ab.length c6] 75))).mono HBWR.out.size)).mono HLc.out.kp.size)
      go_region_law (first | (refine Kd.R_append_rows_step kIs (w0 := wc) w.heap.size (by rfl) (.tmp 51) (.tmp 53) 90 75 _ 24 (by rfl) Tryd.underlying90 infoInts (by rfl) (by decide) (by decide) (.slice Ao no co) (aboves N S F k) [ints ab] _ 1 1 (fun _ => True) (fun j => wc.heap.size ≤ j) (by rfl) (by rfl) (HLr.out.step (below_drew (below_alloc (Below.refl wr.heap.size wr) (.cells #[.slice A6 ab.length c6] 75)))).row (reads_one _ _ (.slice A6 ab.length c6) _ (by go_simp)) (by rintro _ _ ⟨rfl, rfl⟩; exact ⟨_, rfl, HR7.out⟩) (fun j hj => ⟨trivial, fun e => by have := HLT.out j e.symm; omega⟩) (fun _ _ => trivial) HBW.out (by simp; omega) (by simp [aboves]; omega) ?_; intro v1 w1 hR1 hB1 hG1 _; have HPUT := hid ((HLr.out.step (below_drew (below_alloc (Below.refl wr.heap.size wr) (.cells #[.slice A6 ab.length c6] 75)))).put hp hR1 (HLc.out.below.trans (hB1.mono hzw)) hG1); obtain ⟨A7, n7, c7, rfl⟩ := R_sl hR1; have y1 := blk_cell HPUT.out.2.2 0; have y4 := blk_cell HPUT.out.2.1 4; have y5 := blk_frozen HPUT.out.2.1 4))
      all_goals
        have HFIN := hid HPUT.out.1
        clear HPUT hB1 hG1 hR1 y1 y4 y5
        rw [← HABS.out] at HFIN
        go_wp2
        go_roundw
        case rel => exact ⟨k + 1, _, by omega, by go_num, HFIN⟩
        case measure => simp [intOf]; omega
  · go_wp2
    go_end0
    obtain rfl : k = N := by omega
    exact ⟨rfl, _, HL.out⟩
end Go.Proofs.YtbogcknkkbnfnaaDoor
