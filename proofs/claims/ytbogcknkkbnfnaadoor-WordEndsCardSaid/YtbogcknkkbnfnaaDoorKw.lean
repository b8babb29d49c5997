/- Rings: climbing, walked. -/
import Derived.Test.YtbogcknkkbnfnaaDoorR1
import Derived.Deep.RegionHeld3
namespace Go.Proofs.YtbogcknkkbnfnaaDoor
open Go.RowKit Go.Proofs.YtbogcknkkbnfnaaDoorW.PrintWords Go.Maps Go.WideMaps

theorem R_one {W : World} {base b : Nat} {x : Int} (h : W.heap[b]? = some (.cells #[.int .i64 x] 3 (0, 0))) (hb : base ≤ b) : kI.R 3 W base (fun _ => True) (.slice (some ⟨b, 0, none⟩) 1 1) [x] :=
  Kd.R_of_own (h1 := fun _ => rfl) ⟨rfl, .inr ⟨b, 1, #[.int .i64 x], rfl, hb, h, Nat.le_refl 1, by decide, rfl, rfl⟩⟩ (fun _ _ => trivial)
/-- What climbing comes to. -/
def ClimbPost (S : List Int) (F : List (List Int)) (w0 : World) (p i b1 b2 b3 b4 gq N cq : Nat) (tl : List Value) (k : Nat) (Sn : List Bool) (w : World) (e : Ending) (w' : World) : Prop :=
  ∃ (b : Bool) (Sn1 : List Bool), e = .returned (.bool b) ∧ ClimbOut S F i k Sn b Sn1 ∧ RS w0 p i b1 b2 b3 b4 gq N cq tl Sn1 w' ∧ KpB gq w w'
def ClimbAll (S : List Int) (F : List (List Int)) (w0 : World) (p i b1 b2 b3 b4 gq N cq : Nat) (tl : List Value) (n : Nat) : Prop :=
  ∀ (k : Nat) (Sn : List Bool) (w : World), unseen Sn ≤ n → RS w0 p i b1 b2 b3 b4 gq N cq tl Sn w → k < N →
    Calls Tryd.prog 127 #[.int .i64 k, .pointer (some ⟨b1, 0, none⟩), .pointer (some ⟨b2, 0, none⟩), .pointer (some ⟨b3, 0, none⟩), .pointer (some ⟨b4, 0, none⟩)] w (ClimbPost S F w0 p i b1 b2 b3 b4 gq N cq tl k Sn w)
set_option maxRecDepth 100000 in
set_option maxHeartbeats 8000000 in
theorem climb_step (p g N cap m gs cs gf cf : Nat) (aV : Value) (L : List Cl) (S : List Int) (F : List (List Int)) (w0 : World) (hV : SV p g N cap m gs cs gf cf aV L S F w0) (i b1 b2 b3 b4 gq cq : Nat) (tl : List Value) (n : Nat) (ih : ∀ n', n' < n → ClimbAll S F w0 p i b1 b2 b3 b4 gq N cq tl n') :
    ClimbAll S F w0 p i b1 b2 b3 b4 gq N cq tl n := by
  intro k Sn w hun hRS hk
  have IH := hid ih
  have hNb := hV.big
  have hw := hV.step hRS.below
  have c2 := blk_cell hw.blk 2
  have c3 := blk_cell hw.blk 3
  have d0 := hw.supAt k hk
  obtain ⟨A, c, d1, hlc, hC⟩ := hw.facesAt k hk
  obtain ⟨hfl, hfr⟩ := hV.facesR k hk
  have hsr := hV.supR k hk
  have a1 := blk_cell hRS.k1 0
  have HR : Hid (∀ u ∈ succI S F k, u = -1 ∨ (0 ≤ u ∧ u < (N : Int))) := fun u hu => by
    rcases List.mem_cons.1 hu with rfl | hu
    · exact hsr
    · exact .inr (hfr u hu)
  have HV := hid hV
  have HRS := hid hRS
  have HC := hid hC
  have li : (k : Int) < N := by omega
  obtain ⟨sk, hsk⟩ : ∃ sk, S.getD k 0 = sk := ⟨_, rfl⟩
  obtain ⟨fk, hfk⟩ : ∃ fk, F.getD k [] = fk := ⟨_, rfl⟩
  have hU : [sk] ++ fk = succI S F k := by unfold succI; rw [hsk, hfk]; rfl
  rw [hsk] at d0
  rw [hfk] at d1 hlc HC hfl
  have HU := hid hU
  have HUN := hid hun
  clear ih hV hRS hw hC hfr hsr hsk hfk hU hun
  have e2 : w.cell? ⟨p, 2, none⟩ = some (.slice (some ⟨gs, 0, none⟩) N cs) := c2
  have e3 : w.cell? ⟨p, 3, none⟩ = some (.slice (some ⟨gf, 0, none⟩) N cf) := c3
  have a1' : w.cell? ⟨b1, 0, none⟩ = some (.pointer (some ⟨p, 0, none⟩)) := a1
  clear c2 c3 a1
  have HKP := hid (fun w' (hb : Below w.heap.size w w') => (⟨(hb.cell (World.block_lt_of_cell? w _ a1')).trans a1', (hb.cell (World.block_lt_of_cell? w _ e2)).trans e2, (hb.cell (World.block_lt_of_cell? w _ e3)).trans e3, (hb.cell (World.block_lt_of_cell? w _ d0)).trans d0, (hb.cell (World.block_lt_of_cell? w _ d1)).trans d1⟩ : w'.cell? ⟨b1, 0, none⟩ = some (.pointer (some ⟨p, 0, none⟩)) ∧ w'.cell? ⟨p, 2, none⟩ = some (.slice (some ⟨gs, 0, none⟩) N cs) ∧ w'.cell? ⟨p, 3, none⟩ = some (.slice (some ⟨gf, 0, none⟩) N cf) ∧ w'.cell? ⟨gs, k, none⟩ = some (.int .i64 sk) ∧ w'.cell? ⟨gf, k, none⟩ = some (.slice A fk.length c)))
  go_enter Tryd.func127, Tryd.ntmps127
  go_wp2_with fail
  go_region_held3 (fun w' => w'.cell? ⟨b1, 0, none⟩ = some (.pointer (some ⟨p, 0, none⟩)) ∧ w'.cell? ⟨p, 2, none⟩ = some (.slice (some ⟨gs, 0, none⟩) N cs) ∧ w'.cell? ⟨p, 3, none⟩ = some (.slice (some ⟨gf, 0, none⟩) N cf) ∧ w'.cell? ⟨gs, k, none⟩ = some (.int .i64 sk) ∧ w'.cell? ⟨gf, k, none⟩ = some (.slice A fk.length c)) (first | exact HKP.out _ (by assumption) | go_keep)
    (first | (refine Kd.R_append_rows_step kI w.heap.size (by rfl) (.tmp 16) (.tmp 23) 75 3 _ 8 (by rfl) Tryd.underlying75 infoInt (by rfl) (by decide) (by decide) (.slice (some ⟨w.heap.size, 0, none⟩) 1 1) [sk] fk A fk.length c (fun _ => True) (fun _ => False) (by rfl) (by rfl) (R_one (x := sk) (blk_drew (blk_new w _)) (Nat.le_refl _)) (Kd.C_drew (Kd.C_alloc HC.out _)) (fun _ _ h => h) (fun _ h => h.elim) (fun _ _ => trivial) (below_drew (below_alloc (Below.refl _ _) _)) (by simp) (by simp; omega) ?_; intro v1 w1 hR1 hB1 _ _; rw [HU.out] at hR1; obtain ⟨gr, cr, hv1, _, _⟩ := Kd.R_form hR1 (by rw [← HU.out]; simp); subst hv1; have HB1 := hid hB1; have HR1 := hid hR1; clear hR1))
  all_goals
    have HRS1 := hid (HRS.out.step (by assumption))
    have HN1 := hid (KpB.of (g := gq) HB1.out)
    have HR2 := hid (show kI.R 3 w1 w.heap.size (fun _ => True) (.slice (some ⟨gr, 0, none⟩) (succI S F k).length cr) (succI S F k) by assumption)
    have hM : (succI S F k).length ≤ 8796093022208 := by rw [← HU.out]; simp; omega
    clear HR1 hB1 HKP HC HRS e2 e3 a1' d0 d1
    generalize hL : (succI S F k).length = M at *
    have HL := hid hL
    clear hL
    go_wp2
    go_loopw [8, 26] (fun uV iV wr => ∃ (q : Nat) (Sn1 : List Bool), q ≤ M ∧ iV = .int .i64 q ∧ Hid (ClimbAt S F i k q Sn Sn1) ∧ Hid (RS w0 p i b1 b2 b3 b4 gq N cq tl Sn1 wr) ∧ Hid (KpB gq w1 wr)) (fun _ iV _ => M - (intOf iV).toNat)
    case atStart => exact ⟨0, Sn, by omega, rfl, ClimbAt.start _ _ _ _ _, HRS1, KpB.refl _ _⟩
    obtain ⟨q, Sn1, hq, rfl, HA, HRr, HK⟩ := hrel
    by_cases hqM : q < M
    · obtain ⟨u, hu⟩ : ∃ u, (succI S F k)[q]? = some u := ⟨_, List.getElem?_eq_getElem (by rw [HL.out]; exact hqM)⟩
      have hum := HR.out u (List.mem_of_getElem? hu)
      have hrow := KpB.row HK.out HR2.out HRS1.out.seen (by decide)
      have d1 := C_scalar (h1 := fun _ => rfl) (Kd.R_reads' hrow).2.2 0 q (by rw [HL.out]; exact hqM)
      rw [List.getD_eq_getElem?_getD, hu] at d1
      simp only [Option.getD_some, Nat.zero_add] at d1
      have HUU := hid hu
      have d2 := blk_cell HRr.out.k2 0
      have d3 := blk_cell HRr.out.k3 0
      have d4 := blk_cell HRr.out.k4 0
      clear hu hrow
      by_cases hui : u = (i : Int)
      · have b1' : (u == (i : Int)) = true := by simp [hui]
        have HY := hid (HA.out.yes HUU.out hui)
        clear hui
        go_wp2_with fail
        go_ret
        exact ⟨true, Sn1, rfl, HY.out, HRr.out, HN1.out.trans HK.out⟩
      · have b1' : (u == (i : Int)) = false := by simp [hui]
        have HI := hid hui
        clear hui
        rcases hum with rfl | ⟨h0, h1⟩
        · have HP := hid (HA.out.pass HUU.out HI.out (.inl rfl))
          go_wp2_with fail
          go_roundw
          case rel => exact ⟨q + 1, Sn1, by omega, by go_num, HP, HRr, HK⟩
          case measure => simp [intOf]; omega
        · obtain ⟨v, rfl⟩ := Int.eq_ofNat_of_zero_le h0
          have hvN : v < N := by omega
          have d5 := HRr.out.cell v hvN
          cases hs : Sn1.getD v false with
          | true =>
            have HP := hid (HA.out.pass HUU.out HI.out (.inr (by simpa using hs)))
            rw [hs] at d5
            clear hs
            go_wp2_with fail
            go_roundw
            case rel => exact ⟨q + 1, Sn1, by omega, by go_num, HP, HRr, HK⟩
            case measure => simp [intOf]; omega
          | false =>
            rw [hs] at d5
            have HS := hid hs
            obtain ⟨hM1, hM2⟩ := HRr.out.mark v hvN
            have HM1 := hid hM1
            have HM2 := hid hM2
            clear hs hM1 hM2
            have d6 := blk_frozen HRr.out.seen v
            go_upto_region 8 with fail
            generalize wr.setCell ⟨gq, v, none⟩ (.bool true) = wm at *
            clear d1 d2 d3 d4 d5 d6
            have d2 := blk_cell HM1.out.k4 0
            go_wp2_with (go_at_call 127; refine (IH.out (unseen (Sn1.set v true)) (Nat.lt_of_lt_of_le (HA.out.lower (by rw [HRr.out.len]; exact hvN) HS.out) HUN.out) v _ _ (Nat.le_refl _) HM1.out hvN).mono ?_; rintro e w' ⟨b, Sn2, rfl, hO, hS2, hK2⟩; have HO := hid hO; have HS2 := hid hS2; have HK2 := hid hK2; clear hO hS2 hK2; cases b)
            · have HP := hid (HA.out.down HUU.out HI.out (by rw [HRr.out.len]; exact hvN) HS.out HO.out)
              go_wp2_with fail
              go_roundw
              case rel => exact ⟨q + 1, Sn2, by omega, by go_num, HP, HS2, (HK.out.trans HM2.out).trans HK2.out⟩
              case measure => simp [intOf]; omega
            · have HP := hid (HA.out.yes2 HUU.out (by rw [HRr.out.len]; exact hvN) HS.out HO.out)
              go_wp2_with fail
              go_ret
              exact ⟨true, Sn2, rfl, HP.out, HS2.out, ((HN1.out.trans HK.out).trans HM2.out).trans HK2.out⟩
    · have HY := hid (HA.out.no (by rw [HL.out]; omega))
      go_wp2
      go_ret
      exact ⟨false, Sn1, rfl, HY.out, HRr.out, HN1.out.trans HK.out⟩
end Go.Proofs.YtbogcknkkbnfnaaDoor
