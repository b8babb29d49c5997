/- What the listed variable's condition gives; opening classes. -/
import Derived.Test.YtlihpmhnlooapaaDoorRows
import Derived.Test.YtlihpmhnlooapaaDoorMp
import Derived.Test.YtlihpmhnlooapaaDoorKb
import Derived.ProofKit
import Derived.LaidMore
import Derived.OpenShut
import Derived.Stop.Joined
namespace Go.Proofs.YtlihpmhnlooapaaDoor
open Go.ChangeShapes Go.WideShapes Go.ChangeAt Go.WideMaps Go.WideElems Go.RowKit Go.Proofs.YtlihpmhnlooapaaDoor.Op Go.Proofs.YtlihpmhnlooapaaDoorW.PrintWords

theorem own : ownKnob Tryd.prog.godebug = none := by kernel_rfl
theorem laidOut : laidOutB Tryd.prog = true := by kernel_rfl
theorem gBuilt : Tryd.prog.globalNamed "warpbeam/link.builtIn" = some 0 := by kernel_rfl
theorem tBuilt : (Tryd.prog.globals[0]?).map (·.type) = some 141 := by kernel_rfl
theorem bytes_of {s : ByteArray} {l : List UInt8} (h : s.data.toList = l) : s = ⟨l.toArray⟩ := by
  cases s with
  | mk d => simp only at h; rw [← h]
section
variable {H : Type} {enc : TypeId × Value → H} {w : World} {base : Nat} {spare : Nat → Bool} {held : Bool} {fuel : Nat}
theorem cells_str {cs : List Value} {l : List UInt8} {p : List MemPlace} (h : DataW.trod enc Tryd.prog w base spare held fuel 9 cs = some (.lit (.string l), p)) : cs = [.string ⟨l.toArray⟩] := by
  obtain ⟨s, e1, e2, _⟩ := DataW.trod_string Tryd.underlying9 h
  simp only [Prod.mk.injEq, DataW.lit.injEq, Lit.string.injEq] at e2
  rw [e1, bytes_of e2.1.symm]
theorem list8 {cs : List Value} (hl : cs.length = 8) {a b c d e f g h : Value} (h0 : (cs.drop 0).take 1 = [a]) (h1 : (cs.drop 1).take 1 = [b]) (h2 : (cs.drop 2).take 1 = [c]) (h3 : (cs.drop 3).take 1 = [d]) (h4 : (cs.drop 4).take 1 = [e]) (h5 : (cs.drop 5).take 1 = [f]) (h6 : (cs.drop 6).take 1 = [g]) (h7 : (cs.drop 7).take 1 = [h]) : cs = [a, b, c, d, e, f, g, h] := by
  match cs, hl with
  | [x0, x1, x2, x3, x4, x5, x6, x7], _ =>
    simp at h0 h1 h2 h3 h4 h5 h6 h7
    subst h0 h1 h2 h3 h4 h5 h6 h7
    rfl
end
/-- The names lie in their block. -/
theorem bi_of_laid {W : World} (h : laidMetH Tryd.prog [("warpbeam/link.builtIn", Rows.laid_warpbeam_link_builtIn)] W) : Bi W := by
  rw [MakeChecks.laidMetH_plain _ _ _ (by kernel_rfl)] at h
  obtain ⟨ps, ⟨g0, t0, cs0, f0, p0, q0, hg0, ht0, hv0, hd0, _⟩, _, _⟩ := h
  obtain rfl := Option.some.inj (gBuilt.symm.trans hg0)
  obtain rfl := Option.some.inj (tBuilt.symm.trans ht0)
  obtain ⟨xs, m, rfl, hx, hl, hn, hel⟩ := DataW.trod_array Tryd.underlying141 hd0
  have c60 : Tryd.prog.cellsOf 9 = 1 := by kernel_rfl
  have c61 : Tryd.prog.cellsOf 141 = 8 := by kernel_rfl
  unfold Rows.laid_warpbeam_link_builtIn at hx
  simp only [Prod.mk.injEq, DataW.agg.injEq] at hx
  match xs, hn, hx with
  | [y0, y1, y2, y3, y4, y5, y6, y7], _, hx =>
    simp only [List.map_cons, List.map_nil, List.cons.injEq, and_true] at hx
    obtain ⟨⟨x0, x1, x2, x3, x4, x5, x6, x7⟩, _⟩ := hx
    have g0 := hel 0 (by decide)
    have g1 := hel 1 (by decide)
    have g2 := hel 2 (by decide)
    have g3 := hel 3 (by decide)
    have g4 := hel 4 (by decide)
    have g5 := hel 5 (by decide)
    have g6 := hel 6 (by decide)
    have g7 := hel 7 (by decide)
    simp only [c60, List.getElem?_cons_zero, List.getElem?_cons_succ] at g0 g1 g2 g3 g4 g5 g6 g7
    obtain ⟨y0a, y0b⟩ := y0; obtain ⟨y1a, y1b⟩ := y1; obtain ⟨y2a, y2b⟩ := y2; obtain ⟨y3a, y3b⟩ := y3; obtain ⟨y4a, y4b⟩ := y4; obtain ⟨y5a, y5b⟩ := y5; obtain ⟨y6a, y6b⟩ := y6; obtain ⟨y7a, y7b⟩ := y7
    simp only at x0 x1 x2 x3 x4 x5 x6 x7
    subst x0 x1 x2 x3 x4 x5 x6 x7
    have hcs := list8 (hl.trans c61) (cells_str g0) (cells_str g1) (cells_str g2) (cells_str g3) (cells_str g4) (cells_str g5) (cells_str g6) (cells_str g7)
    have hc : cs0 = biCells := by
      apply Array.ext'
      rw [hcs]
      rfl
    subst hc
    simp only [World.var?, gBuilt, Option.bind_some] at hv0
    split at hv0
    · rename_i c t fr hh
      simp only [Option.some.injEq] at hv0
      subst hv0
      exact ⟨_, _, hh⟩
    · cases hv0
/-- The door's own heap meets the condition. -/
theorem door_met (os : Os) (args : Array Value) : laidMetH Tryd.prog [("warpbeam/link.builtIn", Rows.laid_warpbeam_link_builtIn)] ((World.doorLaid Tryd.prog 400 os).forCall (fun _ _ => 0) ⟨#[], args, []⟩).memory :=
  laidMetH_of_parts3 (fuel := 8) (laidMet_of_run' 8 (by kernel_rfl) (by kernel_rfl)) (by kernel_rfl) (by kernel_rfl)
theorem toArray_of {cs : Array Value} {l : List Value} (h : cs.toList = l) : cs = l.toArray := by rw [← h]
set_option maxRecDepth 100000 in
theorem gCls_ok {l : List Cl} (h : gCls l) : (∀ x ∈ l, clOk x) ∧ l.length ≤ 1034834473171 ∧ l.length ≤ 9223372036854775807 := by
  obtain ⟨h1, h2⟩ := h
  have h3 : l.length * 136 ≤ 140737488351232 := h1
  exact ⟨fun x hx => h2 x hx, by omega, by omega⟩
end Go.Proofs.YtlihpmhnlooapaaDoor
