/- A set's methods: the nearest class above both. -/
import Derived.Test.YtlihpmhnlooapaaDoorMj
namespace Go.Proofs.YtlihpmhnlooapaaDoor
open Go.RowKit Go.Proofs.YtlihpmhnlooapaaDoorW.PrintWords Go.Maps Go.WideMaps

theorem find_at {l : List Nat} {P : Nat → Bool} {q k : Nat} (h : ∀ x ∈ l.take q, P x = false) (hq : l[q]? = some k) (hk : P k = true) : l.find? P = some k := by
  have hq2 := (List.getElem?_eq_some_iff.1 hq).1
  have e : l = l.take q ++ (k :: l.drop (q + 1)) := by
    have e1 : l[q] = k := (List.getElem?_eq_some_iff.1 hq).2
    rw [← e1, ← List.drop_eq_getElem_cons hq2, List.take_append_drop]
  rw [e, List.find?_append, List.find?_eq_none.2 (fun t ht => by rw [h t ht]; decide), List.find?_cons_of_pos hk]
  rfl
section
variable {B p : Nat} {L : List Cl} {w : World}
theorem chain_set (h : IsSet B p L w) {i : Nat} (hi : i < L.length) : Calls Tryd.prog 84 #[.pointer (some ⟨p, 0, none⟩), .int .i64 i] w fun e w' => ∃ A c, e = .returned (.slice A (Link.chainL L.length (supF (supsL L L.length)) i).length c) ∧ Below w.heap.size w w' ∧ kI.C w' A (Link.chainL L.length (supF (supsL L L.length)) i).length (ints (Link.chainL L.length (supF (supsL L L.length)) i)) := by
  obtain ⟨g, cap, m, gs, cs, gf, cf, ga, ca, hV, hA⟩ := h.sv
  refine (chain_any p g _ cap m gs cs gf cf _ L _ _ w hV h.good i hi).mono ?_
  rintro e wc ⟨v, rfl, hB, hR⟩
  obtain ⟨A', c', rfl⟩ := Kd.R_slice hR
  have h3 := (Kd.R_reads' hR).2.2
  rw [ints_len] at hR h3 ⊢
  exact ⟨A', c', rfl, hB, h3⟩
set_option maxRecDepth 100000 in
set_option maxHeartbeats 4000000 in
theorem common_in (h : IsSet B p L w) {a b : Nat} (ha : a < L.length) (hb : b < L.length) : Calls Tryd.prog 28 #[.pointer (some ⟨p, 0, none⟩), .int .i64 a, .int .i64 b] w fun e w' => e = .returned (.int .i64 (commonOf L a b)) ∧ Below w.heap.size w w' := by
  have HH := hid (hasQ h)
  have Q1 := hid (inD ha)
  have Q2 := hid (inD hb)
  obtain ⟨ch, hch⟩ : ∃ ch : Nat → List Nat, ch = fun i => Link.chainL L.length (supF (supsL L L.length)) i := ⟨_, rfl⟩
  have HC := hid (fun (i : Nat) (W : World) (hi : i < L.length) (hW : Below w.heap.size w W) => (show Calls Tryd.prog 84 #[.pointer (some ⟨p, 0, none⟩), .int .i64 i] W fun e w' => ∃ A c, e = .returned (.slice A (ch i).length c) ∧ Below W.heap.size W w' ∧ kI.C w' A (ch i).length (ints (ch i)) from by rw [hch]; exact chain_set (h.step hW) hi))
  have hbig := h.big
  have hfa : (ch a).length ≤ L.length := by rw [hch]; exact (chain_fit h.good ha).len
  have hfb : (ch b).length ≤ L.length := by rw [hch]; exact (chain_fit h.good hb).len
  have HCO := hid (show commonOf L a b = match (ch a).find? (fun k => decide (k ∈ ch b)) with | some k => (k : Int) | none => -1 by rw [hch]; rfl)
  generalize commonOf L a b = co at *
  clear h hch
  generalize L.length = N at *
  go_enter Tryd.func28, Tryd.ntmps28
  go_upto_region 5 with (first | (go_at_call 73; refine (HH.out _ _ (by first | exact Q1.out | exact Q2.out)).mono ?_; rintro e w' ⟨rfl, rfl⟩) | (go_at_call 84; refine (HC.out _ _ (by assumption) (by first | exact Below.refl _ _ | assumption)).mono ?_; rintro e wb ⟨Ab, cb, rfl, hBb, hCb⟩; have HCb := hid hCb; clear hCb))
  rename_i wq Aq cq hBq HCq _ _
  have HCb2 := hid (Kd.C_below HCq.out hBb)
  have HBT := hid (below_weaken hBq hBq.size hBb)
  clear hBq hBb HCq HC HH
  have HCC := hid (fun (x : Nat) => (show Calls Tryd.prog 75 #[.slice Aq (ch b).length cq, .int .i64 x] wb fun e w' => e = .returned (.bool (decide (x ∈ ch b))) ∧ w' = wb from by
    have hC2 : kI.C wb Aq (ints (ch b)).length (ints (ch b)) := by rw [ints_len]; exact HCb2.out
    have := contains_any Aq cq (ints (ch b)) (x : Int) wb hC2 (by rw [ints_len]; omega)
    rw [ints_len, ints_contains] at this
    exact this))
  have HCA := hid HCb.out
  clear HCb HCb2
  obtain ⟨M, hM⟩ : ∃ M, (ch a).length = M := ⟨_, rfl⟩
  rw [hM] at hfa HCA ⊢
  have HM := hid hM
  clear hM
  go_wp2
  go_loop [27] (fun v => ∃ q : Nat, q ≤ M ∧ v = .int .i64 q ∧ Hid (∀ x ∈ (ch a).take q, decide (x ∈ ch b) = false)) (fun v => M - (intOf v).toNat)
  case atStart => exact ⟨0, by omega, rfl, fun x hx => by simp at hx⟩
  obtain ⟨q, hq, rfl, HD⟩ := hrel
  by_cases hlt : q < M
  · have hce : (ch a)[q]? = some ((ch a)[q]'(by rw [HM.out]; exact hlt)) := List.getElem?_eq_getElem _
    obtain ⟨k, hk⟩ : ∃ k, (ch a)[q]? = some k := ⟨_, hce⟩
    have hC2 : kI.C wb Ab (ints (ch a)).length (ints (ch a)) := by rw [ints_len, HM.out]; exact HCA.out
    obtain ⟨b2, off2, hA⟩ := C_plain hC2 (by rw [ints_len, HM.out]; omega) (by decide)
    subst hA
    have d1 := C_scalar (h1 := fun _ => rfl) hC2 0 q (by rw [ints_len, HM.out]; exact hlt)
    rw [List.getD_eq_getElem?_getD, List.getElem?_map, hk] at d1
    simp only [Option.map_some, Option.getD_some] at d1
    have HK := hid hk
    have HX := hid (HCC.out k)
    clear hce hk hC2
    cases hin : decide (k ∈ ch b) with
    | true =>
      rw [hin] at HX
      have HF := hid (find_at (P := fun x => decide (x ∈ ch b)) HD.out HK.out hin)
      clear hin
      go_wp2_with (go_at_call 75; refine HX.out.mono ?_; rintro e w' ⟨rfl, rfl⟩)
      go_ret
      exact ⟨by rw [HCO.out, HF.out]; rfl, HBT.out⟩
    | false =>
      rw [hin] at HX
      have HF := hid hin
      clear hin
      go_wp2_with (go_at_call 75; refine HX.out.mono ?_; rintro e w' ⟨rfl, rfl⟩)
      go_round
      case rel => exact ⟨q + 1, by omega, by go_num, fun x hx => by
        rw [List.take_add_one, HK.out, List.mem_append] at hx
        rcases hx with hx | hx
        · exact HD.out x hx
        · simp at hx; rw [hx]; exact HF.out⟩
      case measure => simp [intOf]; omega
  · have HF := hid (show (ch a).find? (fun x => decide (x ∈ ch b)) = none from List.find?_eq_none.2 (fun x hx => by
      have := HD.out x (by rw [List.take_of_length_le (by rw [HM.out]; omega)]; exact hx)
      rw [this]; decide))
    go_wp2
    go_ret
    exact ⟨by rw [HCO.out, HF.out]; rfl, HBT.out⟩
end
end Go.Proofs.YtlihpmhnlooapaaDoor
