/- A set's methods. -/
import Derived.Test.YtlihpmhnlooapaaDoorMg
namespace Go.Proofs.YtlihpmhnlooapaaDoor
open Go.RowKit Go.Proofs.YtlihpmhnlooapaaDoorW.PrintWords Go.Maps Go.WideMaps

section
variable {B p : Nat} {L : List Cl} {w : World}
set_option maxRecDepth 100000 in
set_option maxHeartbeats 4000000 in
theorem has_any (h : IsSet B p L w) (i : Int) : Calls Tryd.prog 73 #[.pointer (some ⟨p, 0, none⟩), .int .i64 i] w fun e w' => e = .returned (.bool (decide (0 ≤ i ∧ i < L.length))) ∧ w' = w := by
  obtain ⟨g, cap, m, gs, cs, gf, cf, ga, ca, hV, hA⟩ := h.sv
  have hn := hV.big
  have c0 := blk_cell hV.blk 0
  clear h hV hA
  by_cases h0 : 0 ≤ i
  · by_cases h1 : i < (L.length : Int)
    · have HD : decide (0 ≤ i ∧ i < (L.length : Int)) = true := decide_eq_true ⟨h0, h1⟩
      rw [HD]
      clear HD
      generalize L.length = N at *
      go_enter Tryd.func73, Tryd.ntmps73
      go_wp2
      go_ret
      exact ⟨rfl, rfl⟩
    · have HD : decide (0 ≤ i ∧ i < (L.length : Int)) = false := decide_eq_false (fun h => h1 h.2)
      rw [HD]
      clear HD
      generalize L.length = N at *
      go_enter Tryd.func73, Tryd.ntmps73
      go_wp2
      go_ret
      exact ⟨rfl, rfl⟩
  · have HD : decide (0 ≤ i ∧ i < (L.length : Int)) = false := decide_eq_false (fun h => h0 h.1)
    rw [HD]
    clear HD
    generalize L.length = N at *
    go_enter Tryd.func73, Tryd.ntmps73
    go_wp2
    go_ret
    exact ⟨rfl, rfl⟩
theorem hasIn (h : IsSet B p L w) {i : Nat} (hi : i < L.length) : Calls Tryd.prog 73 #[.pointer (some ⟨p, 0, none⟩), .int .i64 i] w fun e w' => e = .returned (.bool true) ∧ w' = w := by
  have := has_any h i
  rw [decide_eq_true (⟨by omega, by omega⟩ : (0 : Int) ≤ i ∧ (i : Int) < L.length)] at this
  exact this
theorem hasOut (h : IsSet B p L w) {i : Int} (hi : ¬ (0 ≤ i ∧ i < L.length)) : Calls Tryd.prog 73 #[.pointer (some ⟨p, 0, none⟩), .int .i64 i] w fun e w' => e = .returned (.bool false) ∧ w' = w := by
  have := has_any h i
  rw [decide_eq_false hi] at this
  exact this
set_option maxRecDepth 100000 in
set_option maxHeartbeats 4000000 in
theorem len_any (h : IsSet B p L w) : Calls Tryd.prog 18 #[.pointer (some ⟨p, 0, none⟩)] w fun e w' => e = .returned (.int .i64 L.length) ∧ w' = w := by
  obtain ⟨g, cap, m, gs, cs, gf, cf, ga, ca, hV, hA⟩ := h.sv
  have hn := hV.big
  have c0 := blk_cell hV.blk 0
  clear h hV hA
  generalize L.length = N at *
  go_enter Tryd.func18, Tryd.ntmps18
  go_wp2
  go_ret
  exact ⟨rfl, rfl⟩
set_option maxRecDepth 100000 in
set_option maxHeartbeats 4000000 in
theorem name_in (h : IsSet B p L w) {i : Nat} (hi : i < L.length) : Calls Tryd.prog 22 #[.pointer (some ⟨p, 0, none⟩), .int .i64 i] w fun e w' => e = .returned (.string (L.getD i zCl).name) ∧ w' = w := by
  have HH := hid (hasIn h hi)
  obtain ⟨g, cap, m, gs, cs, gf, cf, ga, ca, hV, hA⟩ := h.sv
  have hn := hV.big
  have c0 := blk_cell hV.blk 0
  obtain ⟨e, hE, _, d1, _⟩ := el_at hV.row i hi
  have HE := hid hE.n
  have li : (i : Int) < L.length := by omega
  clear h hV hA hE
  generalize L.length = N at *
  go_enter Tryd.func22, Tryd.ntmps22
  go_wp2_with (go_at_call 73; refine HH.out.mono ?_; rintro e w' ⟨rfl, rfl⟩)
  go_ret
  exact ⟨by rw [← HE.out]; rfl, rfl⟩
set_option maxRecDepth 100000 in
set_option maxHeartbeats 4000000 in
theorem name_out (h : IsSet B p L w) {i : Int} (hi : ¬ (0 ≤ i ∧ i < L.length)) : Calls Tryd.prog 22 #[.pointer (some ⟨p, 0, none⟩), .int .i64 i] w fun e w' => e = .returned (.string ⟨#[]⟩) ∧ w' = w := by
  have HH := hid (hasOut h hi)
  clear h hi
  go_enter Tryd.func22, Tryd.ntmps22
  go_wp2_with (go_at_call 73; refine HH.out.mono ?_; rintro e w' ⟨rfl, rfl⟩)
  go_ret
  exact ⟨rfl, rfl⟩
set_option maxRecDepth 100000 in
set_option maxHeartbeats 4000000 in
theorem super_in (h : IsSet B p L w) {i : Nat} (hi : i < L.length) : Calls Tryd.prog 20 #[.pointer (some ⟨p, 0, none⟩), .int .i64 i] w fun e w' => e = .returned (.int .i64 (supF (supsL L L.length) i)) ∧ w' = w := by
  have HH := hid (hasIn h hi)
  obtain ⟨g, cap, m, gs, cs, gf, cf, ga, ca, hV, hA⟩ := h.sv
  have hn := hV.big
  have c2 := blk_cell hV.blk 2
  have d1 := hV.supAt i hi
  have li : (i : Int) < L.length := by omega
  have HE := hid (show supF (supsL L L.length) i = (supsL L L.length).getD i 0 from rfl)
  rw [HE.out]
  clear h hV hA
  generalize (supsL L L.length).getD i 0 = s at *
  generalize L.length = N at *
  go_enter Tryd.func20, Tryd.ntmps20
  go_wp2_with (go_at_call 73; refine HH.out.mono ?_; rintro e w' ⟨rfl, rfl⟩)
  go_ret
  exact ⟨rfl, rfl⟩
set_option maxRecDepth 100000 in
set_option maxHeartbeats 4000000 in
theorem super_out (h : IsSet B p L w) {i : Int} (hi : ¬ (0 ≤ i ∧ i < L.length)) : Calls Tryd.prog 20 #[.pointer (some ⟨p, 0, none⟩), .int .i64 i] w fun e w' => e = .returned (.int .i64 (-1)) ∧ w' = w := by
  have HH := hid (hasOut h hi)
  clear h hi
  go_enter Tryd.func20, Tryd.ntmps20
  go_wp2_with (go_at_call 73; refine HH.out.mono ?_; rintro e w' ⟨rfl, rfl⟩)
  go_ret
  exact ⟨rfl, rfl⟩
set_option maxRecDepth 100000 in
set_option maxHeartbeats 4000000 in
theorem ifaces_in (h : IsSet B p L w) {i : Nat} (hi : i < L.length) : Calls Tryd.prog 19 #[.pointer (some ⟨p, 0, none⟩), .int .i64 i] w fun e w' => ∃ v, e = .returned v ∧ kI.R 3 w' w.heap.size (fun _ => True) v ((facesL L L.length).getD i []) ∧ Below w.heap.size w w' := by
  have HH := hid (hasIn h hi)
  obtain ⟨g, cap, m, gs, cs, gf, cf, ga, ca, hV, hA⟩ := h.sv
  have hn := hV.big
  have c3 := blk_cell hV.blk 3
  obtain ⟨A, c, d1, hlc, hC⟩ := hV.facesAt i hi
  have hb : ((facesL L L.length).getD i []).length * 8 ≤ 140737488355328 := by
    have hx : L.getD i zCl ∈ L := by simp [List.getD, hi]
    have := (h.ok _ hx).2.2.1
    rw [fsF_at hi]
    unfold fsI
    rw [List.length_map]
    omega
  have HC := hid (cloneInt_any A c _ w hC hb)
  have li : (i : Int) < L.length := by omega
  clear h hV hA hC
  generalize (facesL L L.length).getD i [] = fs at *
  generalize L.length = N at *
  go_enter Tryd.func19, Tryd.ntmps19
  go_wp2_with (first | (go_at_call 73; refine HH.out.mono ?_; rintro e w' ⟨rfl, rfl⟩) | (go_at_call 74; refine HC.out.mono ?_; rintro e w' ⟨v, rfl, hR, hB⟩; have HR := hid hR; have HB := hid hB; clear hR hB))
  go_ret
  exact ⟨v, rfl, HR.out, HB.out⟩
set_option maxRecDepth 100000 in
set_option maxHeartbeats 4000000 in
theorem ifaces_out (h : IsSet B p L w) {i : Int} (hi : ¬ (0 ≤ i ∧ i < L.length)) : Calls Tryd.prog 19 #[.pointer (some ⟨p, 0, none⟩), .int .i64 i] w fun e w' => e = .returned (.slice none 0 0) ∧ w' = w := by
  have HH := hid (hasOut h hi)
  clear h hi
  go_enter Tryd.func19, Tryd.ntmps19
  go_wp2_with (go_at_call 73; refine HH.out.mono ?_; rintro e w' ⟨rfl, rfl⟩)
  go_ret
  exact ⟨rfl, rfl⟩
/-- What stands above a class, as it lies. -/
theorem IsSet.aboveAt (h : IsSet B p L w) {i : Nat} (hi : i < L.length) : ∃ ga ca A c, w.cell? ⟨p, 4, none⟩ = some (.slice (some ⟨ga, 0, none⟩) L.length ca) ∧ w.cell? ⟨ga, i, none⟩ = some (.slice A (Link.aboveL L.length (supF (supsL L L.length)) (fsF (facesL L L.length)) i).length c) ∧
    (Link.aboveL L.length (supF (supsL L L.length)) (fsF (facesL L L.length)) i).length ≤ c ∧ kI.C w A (Link.aboveL L.length (supF (supsL L L.length)) (fsF (facesL L L.length)) i).length (ints (Link.aboveL L.length (supF (supsL L L.length)) (fsF (facesL L L.length)) i)) := by
  obtain ⟨g, cap, m, gs, cs, gf, cf, ga, ca, hV, hA⟩ := h.sv
  have e0 : (aboves L.length (supsL L L.length) (facesL L L.length) L.length).getD i [] = ints (Link.aboveL L.length (supF (supsL L L.length)) (fsF (facesL L L.length)) i) := getD_range _ _ _ _ hi
  obtain ⟨ad, cc, e, _, hK, hc0⟩ := Kd.C_get hA ([] : List Int) (i : Int) (by omega) (by omega)
  cases e
  have hc : ∀ j u, cc[j]? = some u → w.cell? ((⟨ga, 0, none⟩ : Addr).add ((i : Int).toNat * 1 + j)) = some u := hc0
  obtain ⟨A0, c0, rfl, l0, g0⟩ := hK
  rw [Int.toNat_natCast] at l0 g0
  rw [e0] at l0 g0
  have hl : (ints (Link.aboveL L.length (supF (supsL L L.length)) (fsF (facesL L L.length)) i)).length = (Link.aboveL L.length (supF (supsL L L.length)) (fsF (facesL L L.length)) i).length := by simp [ints]
  refine ⟨ga, ca, A0, c0, blk_cell hV.blk 4, ?_, by rw [← hl]; exact l0, by rw [← hl]; exact g0⟩
  have := hc 0 _ rfl
  rw [add_plain] at this
  rw [Int.toNat_natCast, e0, hl] at this
  simpa using this
end
end Go.Proofs.YtlihpmhnlooapaaDoor
