/- joined: the walk. -/
import Derived.Test.YtbogcknkkbnfnaaDoorKr
import Derived.Deep.DeepCutAuto
namespace Go.Proofs.YtbogcknkkbnfnaaDoor
open Go.RowKit Go.Proofs.YtbogcknkkbnfnaaDoorW.PrintWords Go.Maps Go.WideMaps

set_option maxRecDepth 100000 in
set_option maxHeartbeats 8000000 in
theorem joined_any (w0 : World) (p m : Nat) (cV : Value) (L : List Cl) (w : World) (hp : w0.heap.size ≤ p) (hN : NSt w0 p m cV L L w) (hl : L.length ≤ 72) (h8 : 0 < L.length) (hok : ∀ x ∈ L, clOk x) :
    Calls Tryd.prog 76 #[.pointer (some ⟨p, 0, none⟩)] w (JoinedPost w0 p m cV L) := by
  obtain ⟨g, cap, hcv, _⟩ := Kd.R_form hN.row h8
  subst hcv
  obtain ⟨N, hN2⟩ : ∃ N, L.length = N := ⟨_, rfl⟩
  rw [hN2] at hN hl h8 ⊢
  have HNN := hid hN2
  have HOK := hid hok
  have hx0 := blk_cell hN.blk 0
  have HJ := hid (JSt.start hN)
  clear hN2 hok hN
  go_enter Tryd.func76, Tryd.ntmps76
  go_wp2_with fail
  clear hx0
  go_loopw [18] (fun i wr => ∃ (k : Nat) (sV fV : Value), k ≤ N ∧ i = .int .i64 k ∧ Hid (JSt w0 p m (.slice (some ⟨g, 0, none⟩) N cap) L sV (supsL L k) fV (facesL L k) wr) ∧ Hid (∀ j, j < k → joinBad L j = none)) (fun i _ => N - (intOf i).toNat)
  case atStart => exact ⟨0, _, _, by omega, rfl, HJ, fun j hj => by omega⟩
  clear HJ
  obtain ⟨k, sV, fV, hk, rfl, HJ, HD⟩ := hrel
  by_cases hlt : k < N
  · obtain ⟨e, hE, c0, c1, c2, c3, c4, c5, c6⟩ := el_at (Kd.R_reads' HJ.out.row).2.2 k (by rw [HNN.out]; exact hlt)
    have hXL : L.getD k zCl ∈ L := by simp [List.getD, show k < L.length by rw [HNN.out]; exact hlt]
    obtain ⟨x, hx⟩ : ∃ x, L.getD k zCl = x := ⟨_, rfl⟩
    have HXX := hid hx
    rw [hx] at hE hXL
    obtain ⟨ok1, ok2, ok3, ok4⟩ := HOK.out x hXL
    have hsn : e.s.size ≤ 9223372036854775807 := by rw [hE.s]; omega
    have hfl : e.f.n ≤ 8796093022207 := by rw [hE.fn]; omega
    have HE := hid hE
    have HOF := hid ok4
    have zg : g < wr.heap.size := Kd.R_lt HJ.out.row g (by simp [Value.ownBlock])
    clear hE hx hXL ok1 ok2 ok3 ok4
    go_wp2_with fail
    have H8 := hid (HJ.out.alloc (.cells #[.slice e.p.a e.p.n e.p.c, .string e.n, .string e.s, .bool e.b, .slice e.f.a e.f.n e.f.c, .slice e.l.a e.l.n e.l.c, .slice e.m.a e.m.n e.m.c] 57))
    have k8 := hid (blk_new wr (.cells #[.slice e.p.a e.p.n e.p.c, .string e.n, .string e.s, .bool e.b, .slice e.f.a e.f.n e.f.c, .slice e.l.a e.l.n e.l.c, .slice e.m.a e.m.n e.m.c] 57))
    have HE8 := hid (HE.out.below (below_alloc (Below.refl _ _) (.cells #[.slice e.p.a e.p.n e.p.c, .string e.n, .string e.s, .bool e.b, .slice e.f.a e.f.n e.f.c, .slice e.l.a e.l.n e.l.c, .slice e.m.a e.m.n e.m.c] 57)))
    clear c0 c1 c2 c3 c4 c5 c6 zg HJ HE
    generalize wr.alloc (.cells #[.slice e.p.a e.p.n e.p.c, .string e.n, .string e.s, .bool e.b, .slice e.f.a e.f.n e.f.c, .slice e.l.a e.l.n e.l.c, .slice e.m.a e.m.n e.m.c] 57) = w8 at *
    generalize wr.heap.size = b8 at *
    have c2 := blk_cell k8.out 2
    have hx1 := blk_cell H8.out.blk 1
    have hlook := fun nq => (H8.out.drewN nq).map.look e.s hsn
    cases hnum : numOf L e.s with
    | none =>
      simp only [hnum] at hlook
      have HU : Hid (joinErr L = some e.s) := joinErr_some HD.out (by rw [HNN.out]; exact hlt) (by
        unfold joinBad
        rw [HXX.out, ← HE8.out.s, hnum]
        rfl)
      clear hnum
      go_quiet (fail)
      go_wp2
      go_ret2
      refine ⟨(H8.out.drewN _).below, ?_⟩
      rw [HU.out]
      rfl
    | some i =>
      simp only [hnum] at hlook
      have HNUM := hid hnum
      clear hnum
      go_quiet (fail)
      have H9 := hid (H8.out.drewN nq)
      have k9 := hid (show (w8.drewN nq).heap[b8]? = _ from k8.out)
      have HE9 := hid (HE8.out.below (pw_below_drewN (Below.refl _ _) nq))
      clear c2 hx1 hlook H8 k8 HE8
      generalize w8.drewN nq = w9 at *
      go_upto_if 38 with fail
      go_cut [6] (fun u wx => u = .int .i64 (supI L k) ∧ wx = w9)
      case first =>
        by_cases hk0 : k = 0
        · have b1 : ((k : Int) == 0) = true := by simp [hk0]
          have HU := hid (show supI L k = -1 by unfold supI; rw [if_pos hk0])
          clear hk0
          go_wp2_with fail
          go_meet
          exact ⟨by rw [HU.out], rfl⟩
        · have b1 : ((k : Int) == 0) = false := by simp [hk0]
          have HU := hid (show supI L k = numI L e.s by unfold supI; rw [if_neg hk0, HXX.out, ← HE9.out.s])
          clear hk0
          go_wp2_with fail
          go_meet
          exact ⟨by rw [HU.out], rfl⟩
      case rest =>
        obtain ⟨rfl, hw⟩ := hcut
        rw [hw]
        clear hw
        have c4 := blk_cell k9.out 4
        go_wp2_with fail
        clear c4
        have HFN := hid HE9.out.fn
        go_loopw [8, 42] (fun fv i ws => ∃ q : Nat, q ≤ e.f.n ∧ i = .int .i64 q ∧ Hid (kI.R 3 ws w9.heap.size (fun _ => True) fv ((x.faces.take q).map (numI L))) ∧ Hid (∀ t ∈ x.faces.take q, (numOf L t).isNone = false) ∧ Hid (Below w9.heap.size w9 ws)) (fun _ i _ => e.f.n - (intOf i).toNat)
        case atStart => exact ⟨0, by omega, rfl, Kd.R_nil _ _ _ _ _, fun t ht => by simp at ht, Below.refl _ _⟩
        obtain ⟨q, hq, rfl, HR, HG, HB⟩ := hrel
        by_cases hqn : q < e.f.n
        · have hq2 : q < x.faces.length := by rw [← HFN.out]; exact hqn
          obtain ⟨t, ht⟩ : ∃ t, x.faces[q]? = some t := ⟨x.faces[q], List.getElem?_eq_getElem hq2⟩
          have hcell : ∃ b off, e.f.a = some ⟨b, off, none⟩ ∧ wr.cell? ⟨b, off + q, none⟩ = some (.string t) := by
            have hC := Kd.C_below HE9.out.fC HB.out
            obtain ⟨b, off, ea⟩ := C_plain hC (by omega) (by decide)
            rw [ea] at hC
            refine ⟨b, off, ea, ?_⟩
            have := C_scalar hC ⟨#[]⟩ q hq2
            simpa [List.getD, ht] using this
          obtain ⟨b, off, hea, hc⟩ := hcell
          have hts : t.size ≤ 9223372036854775807 := by have := HOF.out t (List.mem_of_getElem? ht); omega
          have hws := H9.out.step HB.out
          have hx1 := blk_cell hws.blk 1
          have hlook := hws.map.look t hts
          have HT := hid ht
          have HEA := hid hea
          have H10 := hid hws
          clear hq2 ht hts hws
          rw [hea]
          cases hnum : numOf L t with
          | none =>
            rw [hnum] at hlook
            have HU := hid (show joinErr L = some t from joinErr_some HD.out (by rw [HNN.out]; exact hlt) (by
              unfold joinBad
              rw [HXX.out, ← HE9.out.s, HNUM.out]
              exact faceBad_some HG.out HT.out (by rw [hnum]; rfl)))
            clear hnum
            go_wp2_with fail
            go_ret2
            refine ⟨H10.out.below, ?_⟩
            rw [HU.out]
            rfl
          | some i =>
            rw [hnum] at hlook
            have HG2 : Hid (∀ s ∈ x.faces.take (q + 1), (numOf L s).isNone = false) := fun s hs => by
              rw [List.take_add_one, List.mem_append, HT.out] at hs
              rcases hs with hs | hs
              · exact HG.out s hs
              · simp at hs; subst hs; rw [hnum]; rfl
            have HTK := hid (show (x.faces.take (q + 1)).map (numI L) = (x.faces.take q).map (numI L) ++ [numI L t] by
              rw [List.take_add_one, HT.out]; simp)
            clear hnum
            go_wp2_with (at_builtin; refine Kd.R_append kI w9.heap.size rfl (.tmp 58) (.tmp 60) 75 3 _ 8 rfl Tryd.underlying75 infoInt rfl (by decide) (by decide) _ ((x.faces.take q).map (numI L)) (numI L t) [.int .i64 (numI L t)] (fun _ => True) (fun _ => False) rfl rfl rfl (fun _ h => h.elim) (fun _ _ => trivial) HR.out HB.out HB.out.size (by rw [List.length_map]; have := List.length_take_le q x.faces; omega) ?_; intro v1 w1 hR1 hB1 hG1 hat1)
            have HR1 : Hid (kI.R 3 w1 w9.heap.size (fun _ => True) v1 ((x.faces.take (q + 1)).map (numI L))) := by rw [HTK.out]; exact hR1
            have HB1 := hid hB1
            clear hR1 hB1 hG1 hat1 hlook hx1 hc
            go_wp2
            go_roundw
            case rel => exact ⟨q + 1, by omega, by go_num, HR1, HG2, HB1⟩
            case measure => simp [intOf]; omega
        · have hqe : q = x.faces.length := by have := HFN.out; omega
          have HR2 : Hid (kI.R 3 wr w9.heap.size (fun _ => True) u8 (fsI L k)) := by
            have := HR.out
            rw [hqe, List.take_length] at this
            unfold fsI
            rw [HXX.out]
            exact this
          have HGB : Hid (joinBad L k = none) := by
            unfold joinBad
            rw [HXX.out, ← HE9.out.s, HNUM.out]
            have := HG.out
            rw [hqe, List.take_length] at this
            unfold faceBad
            exact List.find?_eq_none.2 (fun t ht => by rw [this t ht]; decide)
          have HD2 : Hid (∀ j, j < k + 1 → joinBad L j = none) := fun j hj => by
            by_cases h : j = k
            · rw [h]; exact HGB.out
            · exact HD.out j (by omega)
          have HJr := hid (H9.out.step HB.out)
          have Hs9 : Hid (∀ j, sV.ownBlock = some j → j < w9.heap.size) := Kd.R_lt H9.out.sup
          have Hf9 : Hid (∀ j, fV.ownBlock = some j → j < w9.heap.size) := Kd.R_lt H9.out.faces
          have H09 := H9.out.below.size
          have H9r := HB.out.size
          clear hqe HR HG HGB HB H9 k9 HE9 HD
          obtain ⟨A8, n8, c8, rfl⟩ := R_sl HR2.out
          go_wp2_with fail
          have hx2 := blk_cell HJr.out.blk 2
          have hx3 := blk_cell HJr.out.blk 3
          have zp := blk_lt HJr.out.blk
          have hk72 : k ≤ 72 := by omega
          have hx2' : wr.cell? ⟨p, 2, none⟩ = some sV := hx2
          have hx3' : wr.cell? ⟨p, 3, none⟩ = some fV := hx3
          clear hx2 hx3
          go_region_law (first
            | (refine Kd.R_append_rows_step kI w0.heap.size (by rfl) (.tmp 68) (.tmp 70) 75 3 _ 8 (by rfl) Tryd.underlying75 infoInt (by rfl) (by decide) (by decide) sV (supsL L k) [supI L k] _ 1 1 (fun _ => True) (fun _ => False) (by rfl) (by rfl) (by first | with_reducible exact (HJr.out.alloc _).drew.sup | with_reducible exact ((HJr.out.alloc _).alloc _).drew.sup) (reads_one _ _ (.int .i64 (supI L k)) _ (by go_simp)) (by rintro _ _ ⟨rfl, rfl⟩; exact rfl) (fun _ h => h.elim) (fun _ _ => trivial) (by first | with_reducible exact (HJr.out.alloc _).drew.below | with_reducible exact ((HJr.out.alloc _).alloc _).drew.below) (by simp; omega) (by simp [supsL]; omega) ?_; intro s1V w1 hS1 hB1 hG1 hat1; have HM := hid (JSt.mid (by first | with_reducible exact (HJr.out.alloc _).drew | with_reducible exact ((HJr.out.alloc _).alloc _).drew) (by first | with_reducible exact Kd.R_drew (Kd.R_alloc HR2.out _) | with_reducible exact Kd.R_drew (Kd.R_alloc (Kd.R_alloc HR2.out _) _)) Hs9.out Hf9.out H09 hS1 hB1 hG1 hat1); have HK := hid (keep_cell hG1 Hs9.out); obtain ⟨As, ns, cs, rfl⟩ := R_sl hS1; have hy2 : w1.cell? ⟨p, 2, none⟩ = some sV := blk_cell HM.out.blk 2; have hy3 : w1.cell? ⟨p, 3, none⟩ = some fV := blk_cell HM.out.blk 3; have zp1 := blk_lt HM.out.blk; have z91 := hG1.size)
            | (refine Kd.R_append_rows_step kIs w0.heap.size (by rfl) (.tmp 75) (.tmp 77) 90 75 _ 24 (by rfl) Tryd.underlying90 infoInts (by rfl) (by decide) (by decide) fV (facesL L k) [fsI L k] _ 1 1 (fun j => True ∧ some j ≠ (Value.slice As ns cs).ownBlock) (fun j => w9.heap.size ≤ j ∧ some j ≠ (Value.slice As ns cs).ownBlock) (by rfl) (by rfl) (by first | with_reducible exact HM.out.faces | with_reducible exact (HM.out.alloc _).faces | with_reducible exact (HM.out.alloc _).drew.faces) (reads_one _ _ (.slice A8 n8 c8) _ (by first | (go_simp; done) | exact HK.out _ _ (by omega) (by go_simp))) (by rintro _ _ ⟨rfl, rfl⟩; exact ⟨_, rfl, by first | exact HM.out.fac | exact (HM.out.alloc _).fac | exact (HM.out.alloc _).drew.fac⟩) (fun j hj => ⟨⟨trivial, hj.2⟩, fun e => by have := Hf9.out j e.symm; omega⟩) (fun j hj => ⟨trivial, fun e => by have := Kd.R_lt HM.out.sup j e.symm; (try simp at hj); omega⟩) (by first | with_reducible exact HM.out.below | with_reducible exact (HM.out.alloc _).below | with_reducible exact (HM.out.alloc _).drew.below) (by have := HM.out.below.size; simp; omega) (by simp [facesL]; omega) ?_; intro f1V w2 hF2 hB2 hG2 _; have HFIN := hid (Mid.put hp hF2 hB2 hG2 (by first | with_reducible exact HM.out | with_reducible exact HM.out.alloc _ | with_reducible exact (HM.out.alloc _).drew)); obtain ⟨Af, nf, cf, rfl⟩ := R_sl hF2; have hq2 : w2.cell? ⟨p, 2, none⟩ = some sV := blk_cell HFIN.out.2 2; have hq3 : w2.cell? ⟨p, 3, none⟩ = some fV := blk_cell HFIN.out.2 3; have hf2 := blk_frozen HFIN.out.2 2; have hf3 := blk_frozen HFIN.out.2 3))
          all_goals
            have HFN2 := hid HFIN.out.1
            clear HFIN hq2 hq3 hf2 hf3 hG2 hF2 hB2 HM HK hS1 hB1 hG1 hat1 hy2 hy3
            rw [← supsL_succ, ← facesL_succ] at HFN2
            go_wp2
            go_roundw
            case rel => exact ⟨k + 1, _, _, by omega, by go_num, HFN2, HD2⟩
            case measure => simp [intOf]; omega
  · obtain rfl : k = N := by omega
    have HU : Hid (joinErr L = none) := joinErr_none (by rw [HNN.out]; exact HD.out)
    go_wp2
    go_ret2
    refine ⟨HJ.out.below, ?_⟩
    rw [HU.out]
    exact ⟨rfl, sV, fV, by rw [HNN.out]; exact HJ.out⟩
end Go.Proofs.YtbogcknkkbnfnaaDoor
