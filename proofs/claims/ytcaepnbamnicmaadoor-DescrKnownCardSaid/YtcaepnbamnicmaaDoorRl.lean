/- What the listed variable's condition gives: the table of signs lies in its block. -/
import Derived.Test.YtcaepnbamnicmaaDoorRows
import Derived.Test.YtcaepnbamnicmaaDoorDa
import Derived.ProofKit
import Derived.LaidMore
import Derived.OpenShut
import Derived.Stop.Joined
namespace Go.Proofs.YtcaepnbamnicmaaDoor
open Go.ChangeShapes Go.WideShapes Go.ChangeAt Go.WideMaps Go.WideElems Go.RowKit

theorem own : ownKnob Tryd.prog.godebug = none := by kernel_rfl
theorem laidOut : laidOutB Tryd.prog = true := by kernel_rfl
theorem gSigns : Tryd.prog.globalNamed "warpbeam/descr.signs" = some 0 := by kernel_rfl
theorem tSigns : (Tryd.prog.globals[0]?).map (·.type) = some 61 := by kernel_rfl

theorem bytes_of {s : ByteArray} {l : List UInt8} (h : s.data.toList = l) : s = ⟨l.toArray⟩ := by
  cases s with
  | mk d => simp only at h; rw [← h]

section
variable {H : Type} {enc : TypeId × Value → H} {w : World} {base : Nat} {spare : Nat → Bool} {held : Bool} {fuel : Nat}
theorem cells_int {cs : List Value} {n : Int} {p : List MemPlace} (h : DataW.trod enc Tryd.prog w base spare held fuel 3 cs = some (.lit (.int .i64 n), p)) : cs = [.int .i64 n] := by
  obtain ⟨m, e1, e2, _⟩ := DataW.trod_int Tryd.underlying3 h
  simp only [Prod.mk.injEq, DataW.lit.injEq, Lit.int.injEq, true_and] at e2
  rw [e1, e2.1]
theorem cells_bool {cs : List Value} {b : Bool} {p : List MemPlace} (h : DataW.trod enc Tryd.prog w base spare held fuel 4 cs = some (.lit (.bool b), p)) : cs = [.bool b] := by
  obtain ⟨m, e1, e2⟩ := DataW.trod_bool Tryd.underlying4 h
  simp only [Prod.mk.injEq, DataW.lit.injEq, Lit.bool.injEq] at e2
  rw [e1, e2.1]
theorem cells_str {cs : List Value} {l : List UInt8} {p : List MemPlace} (h : DataW.trod enc Tryd.prog w base spare held fuel 9 cs = some (.lit (.string l), p)) : cs = [.string ⟨l.toArray⟩] := by
  obtain ⟨s, e1, e2, _⟩ := DataW.trod_string Tryd.underlying9 h
  simp only [Prod.mk.injEq, DataW.lit.injEq, Lit.string.injEq] at e2
  rw [e1, bytes_of e2.1.symm]

theorem list6 {cs : List Value} (hl : cs.length = 6) {a b c d e f : Value} (h0 : (cs.drop 0).take 1 = [a]) (h1 : (cs.drop 1).take 1 = [b]) (h2 : (cs.drop 2).take 1 = [c]) (h3 : (cs.drop 3).take 1 = [d]) (h4 : (cs.drop 4).take 1 = [e]) (h5 : (cs.drop 5).take 1 = [f]) : cs = [a, b, c, d, e, f] := by
  match cs, hl with
  | [x0, x1, x2, x3, x4, x5], _ =>
    simp at h0 h1 h2 h3 h4 h5
    subst h0 h1 h2 h3 h4 h5
    rfl

theorem cells_sign {cs : List Value} {a e f : Int} {b c : List UInt8} {d : Bool} {p : List MemPlace}
    (h : DataW.trod enc Tryd.prog w base spare held fuel 60 cs = some (.agg [.lit (.int .i64 a), .lit (.string b), .lit (.string c), .lit (.bool d), .lit (.int .i64 e), .lit (.int .i64 f)], p)) :
    cs = [.int .i64 a, .string ⟨b.toArray⟩, .string ⟨c.toArray⟩, .bool d, .int .i64 e, .int .i64 f] := by
  obtain ⟨xs, n, rfl, hx, hl, hn, hf⟩ := DataW.trod_struct Tryd.underlying60 h
  simp only [Prod.mk.injEq, DataW.agg.injEq] at hx
  have c60 : Tryd.prog.cellsOf 60 = 6 := by kernel_rfl
  match xs, hn, hx with
  | [y0, y1, y2, y3, y4, y5], _, hx =>
    simp only [List.map_cons, List.map_nil, List.cons.injEq, and_true] at hx
    obtain ⟨⟨x0, x1, x2, x3, x4, x5⟩, _⟩ := hx
    have g0 := hf 0 _ rfl
    have g1 := hf 1 _ rfl
    have g2 := hf 2 _ rfl
    have g3 := hf 3 _ rfl
    have g4 := hf 4 _ rfl
    have g5 := hf 5 _ rfl
    simp only [List.getElem?_cons_zero, List.getElem?_cons_succ] at g0 g1 g2 g3 g4 g5
    obtain ⟨y0a, y0b⟩ := y0; obtain ⟨y1a, y1b⟩ := y1; obtain ⟨y2a, y2b⟩ := y2; obtain ⟨y3a, y3b⟩ := y3; obtain ⟨y4a, y4b⟩ := y4; obtain ⟨y5a, y5b⟩ := y5
    simp only at x0 x1 x2 x3 x4 x5
    subst x0 x1 x2 x3 x4 x5
    exact list6 (hl.trans c60) (cells_int g0) (cells_str g1) (cells_str g2) (cells_bool g3) (cells_int g4) (cells_int g5)

theorem list36 {cs : List Value} (hl : cs.length = 36) {a b c d e f : List Value} (h0 : (cs.drop 0).take 6 = a) (h1 : (cs.drop 6).take 6 = b) (h2 : (cs.drop 12).take 6 = c) (h3 : (cs.drop 18).take 6 = d) (h4 : (cs.drop 24).take 6 = e) (h5 : (cs.drop 30).take 6 = f) : cs = a ++ (b ++ (c ++ (d ++ (e ++ f)))) := by
  rw [← h0, ← h1, ← h2, ← h3, ← h4, ← h5]
  rw [List.take_of_length_le (l := cs.drop 30) (by rw [List.length_drop]; omega)]
  have step : ∀ n, (cs.drop n).take 6 ++ cs.drop (n + 6) = cs.drop n := fun n => by
    have := List.take_append_drop 6 (cs.drop n)
    rw [List.drop_drop] at this
    exact this
  rw [step 24, step 18, step 12, step 6, step 0]
  rfl
end

/-- The table lies in its block. -/
theorem sg_of_laid {W : World} (h : laidMetH Tryd.prog [("warpbeam/descr.signs", Rows.laid_warpbeam_descr_signs)] W) : Sg W := by
  rw [MakeChecks.laidMetH_plain _ _ _ (by kernel_rfl)] at h
  obtain ⟨ps, ⟨g0, t0, cs0, f0, p0, q0, hg0, ht0, hv0, hd0, _⟩, _, _⟩ := h
  obtain rfl := Option.some.inj (gSigns.symm.trans hg0)
  obtain rfl := Option.some.inj (tSigns.symm.trans ht0)
  obtain ⟨xs, m, rfl, hx, hl, hn, hel⟩ := DataW.trod_array Tryd.underlying61 hd0
  have c60 : Tryd.prog.cellsOf 60 = 6 := by kernel_rfl
  have c61 : Tryd.prog.cellsOf 61 = 36 := by kernel_rfl
  unfold Rows.laid_warpbeam_descr_signs at hx
  simp only [Prod.mk.injEq, DataW.agg.injEq] at hx
  match xs, hn, hx with
  | [y0, y1, y2, y3, y4, y5], _, hx =>
    simp only [List.map_cons, List.map_nil, List.cons.injEq, and_true] at hx
    obtain ⟨⟨x0, x1, x2, x3, x4, x5⟩, _⟩ := hx
    have g0 := hel 0 (by decide)
    have g1 := hel 1 (by decide)
    have g2 := hel 2 (by decide)
    have g3 := hel 3 (by decide)
    have g4 := hel 4 (by decide)
    have g5 := hel 5 (by decide)
    simp only [c60, List.getElem?_cons_zero, List.getElem?_cons_succ] at g0 g1 g2 g3 g4 g5
    obtain ⟨y0a, y0b⟩ := y0; obtain ⟨y1a, y1b⟩ := y1; obtain ⟨y2a, y2b⟩ := y2; obtain ⟨y3a, y3b⟩ := y3; obtain ⟨y4a, y4b⟩ := y4; obtain ⟨y5a, y5b⟩ := y5
    simp only at x0 x1 x2 x3 x4 x5
    subst x0 x1 x2 x3 x4 x5
    have hcs := list36 (hl.trans c61) (cells_sign g0) (cells_sign g1) (cells_sign g2) (cells_sign g3) (cells_sign g4) (cells_sign g5)
    have hc : cs0 = signCells := by
      apply Array.ext'
      rw [hcs]
      rfl
    subst hc
    simp only [World.var?, gSigns, Option.bind_some] at hv0
    split at hv0
    · rename_i c t fr hh
      simp only [Option.some.injEq] at hv0
      subst hv0
      exact ⟨_, _, hh⟩
    · cases hv0

/-- The door's own heap meets the condition. -/
theorem door_met (os : Os) (args : Array Value) : laidMetH Tryd.prog [("warpbeam/descr.signs", Rows.laid_warpbeam_descr_signs)] ((World.doorLaid Tryd.prog 400 os).forCall (fun _ _ => 0) ⟨#[], args, []⟩).memory :=
  laidMetH_of_parts3 (fuel := 8) (laidMet_of_run' 8 (by kernel_rfl) (by kernel_rfl)) (by kernel_rfl) (by kernel_rfl)

end Go.Proofs.YtcaepnbamnicmaaDoor
