/- The statements' own: is, none, works. -/
import Derived.Test.YtcaepnbamnicmaaDoorDk
namespace Go.Proofs.YtcaepnbamnicmaaDoor
open Go.RowKit Go.Proofs.YtcaepnbamnicmaaDoorW.PrintWords

theorem strEq (s : ByteArray) : (s.toList == s.toList) = true := by simp

set_option maxHeartbeats 1000000 in
theorem is_true (l : List UInt8) (t : Ty) (w : World) (hS : Sg w) (hl : l.length ≤ 9223372036854775807) (h1 : typeL l = some t) (h2 : tyOk t = true) (h3 : tyText t = tx l) :
    Calls Tryd.prog 30 #[.string (tx l), .agg #[.int .i64 t.k, .string t.n]] w fun e w' => e = .returned (.bool true) ∧ Below w.heap.size w w' := by
  have HS := hid hS
  have HT : Hid (typeRes l = .tuple #[.agg #[.int .i64 t.k, .string t.n], .int .i64 0]) := by show typeRes l = _; unfold typeRes; rw [h1]
  have H2 := hid h2
  have H3 := hid h3
  clear hS h1 h2 h3
  go_enter Tryd.func30, Tryd.ntmps30
  go_wp2_with fail
  have hA0 := blk_new w (.cells #[.int .i64 t.k, .string t.n] 23)
  have hb0 := below_alloc (Below.refl w.heap.size w) (.cells #[.int .i64 t.k, .string t.n] 23)
  generalize w.alloc (.cells #[.int .i64 t.k, .string t.n] 23) = W0 at *
  refine (type_any l W0 (HS.out.below HS.out.lt hb0) hl).mono ?_
  intro e w1 hh
  obtain ⟨rfl, hb1⟩ := hh
  rw [HT.out]
  have hA1 := hid (blk_below hA0 hb1)
  have hB1 := below_step hb0 hb1
  have hc0 := blk_cell hA1.out 0
  have hc1 := blk_cell hA1.out 1
  have hz := blk_lt hA1.out
  clear hA0 hb0 hb1 W0
  go_wp2_with fail
  have hB2 := below_alloc hB1 (.cells #[.int .i64 t.k, .string t.n] 23)
  have hA2 := blk_alloc hA1.out (.cells #[.int .i64 t.k, .string t.n] 23)
  have hD2 := blk_new w1 (.cells #[.int .i64 t.k, .string t.n] 23)
  generalize w1.alloc (.cells #[.int .i64 t.k, .string t.n] 23) = W2 at *
  refine (writeType_yes t.k t.n W2 (HS.out.below HS.out.lt hB2) H2.out).mono ?_
  intro e w3 hh
  obtain ⟨he, hb3⟩ := hh
  obtain rfl : e = .returned (.tuple #[.string (tx l), .int .i64 0]) := by rw [← H3.out]; exact he
  have hB3 := below_step hB2 hb3
  have hA3 := hid (blk_below hA2 hb3)
  have hD3 := hid (blk_below hD2 hb3)
  have ha0 := blk_cell hA3.out 0
  have ha1 := blk_cell hA3.out 1
  have hd0 := blk_cell hD3.out 0
  have hd1 := blk_cell hD3.out 1
  clear hc0 hc1 hz hB1 hB2 hA2 hD2 hb3 hA1
  have hs := strEq t.n
  have hs2 := strEq (tx l)
  go_wp2
  go_ret
  exact ⟨by simp, hB3⟩

set_option maxHeartbeats 1000000 in
theorem none_true (l : List UInt8) (w : World) (hS : Sg w) (hl : l.length ≤ 9223372036854775807) (h1 : typeL l = none) (h2 : protoL l = none) :
    Calls Tryd.prog 42 #[.string (tx l)] w fun e w' => e = .returned (.bool true) ∧ Below w.heap.size w w' := by
  have HS := hid hS
  have HT : Hid (typeRes l = .tuple #[.agg #[.int .i64 0, .string ⟨#[]⟩], .int .i64 50]) := by show typeRes l = _; unfold typeRes; rw [h1]
  have H2 := hid h2
  clear hS h1 h2
  go_enter Tryd.func42, Tryd.ntmps42
  go_wp2_with fail
  refine (type_any l w HS.out hl).mono ?_
  intro e w1 hh
  obtain ⟨rfl, hb1⟩ := hh
  rw [HT.out]
  go_wp2_with fail
  have hB2 := below_alloc hb1 (.cells #[.int .i64 0, .string ⟨#[]⟩] 23)
  have hD2 := blk_new w1 (.cells #[.int .i64 0, .string ⟨#[]⟩] 23)
  generalize w1.alloc (.cells #[.int .i64 0, .string ⟨#[]⟩] 23) = W2 at *
  refine (proto_any l W2 (HS.out.below HS.out.lt hB2) hl).mono ?_
  intro e w3 hh
  obtain ⟨he, hb3⟩ := hh
  unfold ProtoAns at he
  rw [H2.out] at he
  obtain rfl := he
  have hB3 := below_step hB2 hb3
  have hD3 := hid (blk_below hD2 hb3)
  have hd0 := blk_cell hD3.out 0
  have hd1 := blk_cell hD3.out 1
  have hz := blk_lt hD3.out
  clear hb1 hB2 hD2 hb3
  go_wp2
  go_ret
  exact ⟨by simp, below_alloc hB3 _⟩

def exP : Pr := ⟨zTy, [⟨1, ⟨#[]⟩⟩, ⟨5, ⟨#[]⟩⟩, ⟨3, ⟨#[98]⟩⟩]⟩
def exQ : Pr := ⟨⟨1, ⟨#[]⟩⟩, [⟨2, ⟨#[]⟩⟩, ⟨1, ⟨#[]⟩⟩]⟩
theorem exP_read : protoL [40, 73, 91, 74, 76, 98, 59, 41, 86] = some exP := by rfl
theorem exQ_read : protoL [40, 74, 73, 41, 73] = some exQ := by rfl
theorem exP_text : tx (protoText exP) = ⟨#[40, 73, 91, 74, 76, 98, 59, 41, 86]⟩ := by rfl

theorem ProtoAns.ok {l : List UInt8} {p : Pr} {w : World} {e : Ending} {w' : World} (h : protoL l = some p) (k : ProtoAns l w e w') : ∃ A c, e = .returned (.tuple #[.agg #[.int .i64 p.ret.k, .string p.ret.n, .slice A p.args.length c], .int .i64 0]) ∧ p.args.length ≤ c ∧ Kd.C kTy w' A p.args.length p.args := by
  unfold ProtoAns at k
  rw [h] at k
  obtain ⟨v, he, hr⟩ := k
  obtain ⟨A, c, rfl, h1, h2⟩ := Kd.R_reads hr
  exact ⟨A, c, he, h1, h2⟩
/-- .. and where its row lies. -/
theorem ProtoAns.row {l : List UInt8} {p : Pr} {w : World} {e : Ending} {w' : World} (h : protoL l = some p) (hp : 0 < p.args.length) (k : ProtoAns l w e w') : ∃ g c, e = .returned (.tuple #[.agg #[.int .i64 p.ret.k, .string p.ret.n, .slice (some ⟨g, 0, none⟩) p.args.length c], .int .i64 0]) ∧ Kd.C kTy w' (some ⟨g, 0, none⟩) p.args.length p.args := by
  unfold ProtoAns at k
  rw [h] at k
  obtain ⟨v, he, hr⟩ := k
  obtain ⟨g, cap, rfl, _⟩ := Kd.R_form hr hp
  obtain ⟨A, c, h0, h1, h2⟩ := Kd.R_reads hr
  simp only [Value.slice.injEq] at h0
  obtain ⟨rfl, _, rfl⟩ := h0
  exact ⟨g, cap, he, h2⟩

theorem at_Ty0 {w : World} {g n : Nat} {xs : List Ty} (h : Kd.C kTy w (some ⟨g, 0, none⟩) n xs) (i : Nat) (h1 : i < n) : w.cell? ⟨g, i * 2, none⟩ = some (.int .i64 (xs.getD i zTy).k) ∧ w.cell? ⟨g, i * 2 + 1, none⟩ = some (.string (xs.getD i zTy).n) := by
  obtain ⟨ad, he, h2, h3⟩ := at_Ty h i h1
  obtain rfl := Option.some.inj he
  rw [add_plain] at h2 h3
  exact ⟨h2, h3⟩

set_option maxHeartbeats 4000000 in
set_option maxRecDepth 100000 in
theorem works_true (w : World) (hS : Sg w) :
    Calls Tryd.prog 19 #[] w fun e w' => e = .returned (.bool true) ∧ Below w.heap.size w w' := by
  have HS := hid hS
  have h0 := hS.lt
  clear hS
  go_enter Tryd.func19, Tryd.ntmps19
  go_wp2_with fail
  refine (proto_any [40, 73, 91, 74, 76, 98, 59, 41, 86] w HS.out (by simp)).mono ?_
  intro e w1 hh
  obtain ⟨ha, hb1⟩ := hh
  obtain ⟨g, c, he, hr1⟩ := ha.row exP_read (by decide)
  obtain rfl : e = .returned (.tuple #[.agg #[.int .i64 0, .string ⟨#[]⟩, .slice (some ⟨g, 0, none⟩) 3 c], .int .i64 0]) := he
  have HR1 := hid hr1
  clear ha hr1
  go_wp2_with fail
  have hB2 := below_alloc hb1 (.cells #[.int .i64 0, .string ⟨#[]⟩, .slice (some ⟨g, 0, none⟩) 3 c] 29)
  have hA2 := blk_new w1 (.cells #[.int .i64 0, .string ⟨#[]⟩, .slice (some ⟨g, 0, none⟩) 3 c] 29)
  have hC2 := Kd.C_alloc HR1.out (.cells #[.int .i64 0, .string ⟨#[]⟩, .slice (some ⟨g, 0, none⟩) 3 c] 29)
  generalize w1.heap.size = p1 at *
  generalize w1.alloc (.cells #[.int .i64 0, .string ⟨#[]⟩, .slice (some ⟨g, 0, none⟩) 3 c] 29) = W2 at *
  refine (writeProto_yes zTy (some ⟨g, 0, none⟩) exP.args c W2 (HS.out.below h0 hB2) hC2 (by decide) (by rfl) (by rfl)).mono ?_
  intro e w3 hh
  obtain ⟨he, hb3⟩ := hh
  obtain rfl : e = .returned (.tuple #[.string ⟨#[40, 73, 91, 74, 76, 98, 59, 41, 86]⟩, .int .i64 0]) := he
  have hB3 := below_step hB2 hb3
  have hA3 := hid (blk_below hA2 hb3)
  have hC3 := hid (Kd.C_below hC2 hb3)
  clear hb1 HR1 hB2 hA2 hC2 hb3 W2 w1
  go_wp2_with fail
  refine (proto_any [40, 74, 73, 41, 73] w3 (HS.out.below h0 hB3) (by simp)).mono ?_
  intro e w4 hh
  obtain ⟨ha, hb4⟩ := hh
  obtain ⟨g2, c2, he, hr4⟩ := ha.row exQ_read (by decide)
  obtain rfl : e = .returned (.tuple #[.agg #[.int .i64 1, .string ⟨#[]⟩, .slice (some ⟨g2, 0, none⟩) 2 c2], .int .i64 0]) := he
  have hB4 := below_step hB3 hb4
  have hA4 := hid (blk_below hA3.out hb4)
  have hC4 := hid (Kd.C_below hC3.out hb4)
  have HR4 := hid hr4
  clear hB3 hA3 hC3 hb4 ha hr4 w3
  go_wp2_with fail
  have hB5 := below_alloc hB4 (.cells #[.int .i64 1, .string ⟨#[]⟩, .slice (some ⟨g2, 0, none⟩) 2 c2] 29)
  have hA5 := hid (blk_alloc hA4.out (.cells #[.int .i64 1, .string ⟨#[]⟩, .slice (some ⟨g2, 0, none⟩) 2 c2] 29))
  have hC5 := hid (Kd.C_alloc hC4.out (.cells #[.int .i64 1, .string ⟨#[]⟩, .slice (some ⟨g2, 0, none⟩) 2 c2] 29))
  have hD5 := hid (blk_new w4 (.cells #[.int .i64 1, .string ⟨#[]⟩, .slice (some ⟨g2, 0, none⟩) 2 c2] 29))
  have hE5 := hid (Kd.C_alloc HR4.out (.cells #[.int .i64 1, .string ⟨#[]⟩, .slice (some ⟨g2, 0, none⟩) 2 c2] 29))
  generalize w4.heap.size = p4 at *
  generalize w4.alloc (.cells #[.int .i64 1, .string ⟨#[]⟩, .slice (some ⟨g2, 0, none⟩) 2 c2] 29) = W5 at *
  clear hB4 hA4 hC4 HR4 w4
  refine (is_true [73] ⟨1, ⟨#[]⟩⟩ W5 (HS.out.below h0 hB5) (by simp) (by rfl) (by rfl) (by rfl)).mono ?_
  intro e w6 hh
  obtain ⟨rfl, hb6⟩ := hh
  have hB6 := below_step hB5 hb6
  have hA6 := hid (blk_below hA5.out hb6)
  have hC6 := hid (Kd.C_below hC5.out hb6)
  have hD6 := hid (blk_below hD5.out hb6)
  have hE6 := hid (Kd.C_below hE5.out hb6)
  clear hB5 hA5 hC5 hD5 hE5 hb6
  go_wp2_with fail
  refine (is_true [91, 76, 97, 59] ⟨6, ⟨#[97]⟩⟩ w6 (HS.out.below h0 hB6) (by simp) (by rfl) (by rfl) (by rfl)).mono ?_
  intro e w7 hh
  obtain ⟨rfl, hb7⟩ := hh
  have hB7 := below_step hB6 hb7
  have hA7 := hid (blk_below hA6.out hb7)
  have hC7 := hid (Kd.C_below hC6.out hb7)
  have hD7 := hid (blk_below hD6.out hb7)
  have hE7 := hid (Kd.C_below hE6.out hb7)
  clear hB6 hA6 hC6 hD6 hE6 hb7
  go_wp2_with fail
  refine (none_true [86] w7 (HS.out.below h0 hB7) (by simp) (by rfl) (by rfl)).mono ?_
  intro e w8 hh
  obtain ⟨rfl, hb8⟩ := hh
  have hB8 := below_step hB7 hb8
  have hA8 := hid (blk_below hA7.out hb8)
  have hC8 := hid (Kd.C_below hC7.out hb8)
  have hD8 := hid (blk_below hD7.out hb8)
  have hE8 := hid (Kd.C_below hE7.out hb8)
  clear hB7 hA7 hC7 hD7 hE7 hb8
  go_wp2_with fail
  refine (none_true [91, 91, 73] w8 (HS.out.below h0 hB8) (by simp) (by rfl) (by rfl)).mono ?_
  intro e w9 hh
  obtain ⟨rfl, hb9⟩ := hh
  have hB9 := below_step hB8 hb9
  have hA9 := hid (blk_below hA8.out hb9)
  have hC9 := hid (Kd.C_below hC8.out hb9)
  have hD9 := hid (blk_below hD8.out hb9)
  have hE9 := hid (Kd.C_below hE8.out hb9)
  clear hB8 hA8 hC8 hD8 hE8 hb9
  go_wp2_with fail
  refine (none_true [76, 59] w9 (HS.out.below h0 hB9) (by simp) (by rfl) (by rfl)).mono ?_
  intro e w10 hh
  obtain ⟨rfl, hb10⟩ := hh
  have hB10 := below_step hB9 hb10
  have hA10 := hid (blk_below hA9.out hb10)
  have hC10 := hid (Kd.C_below hC9.out hb10)
  have hD10 := hid (blk_below hD9.out hb10)
  have hE10 := hid (Kd.C_below hE9.out hb10)
  clear hB9 hA9 hC9 hD9 hE9 hb10
  go_wp2_with fail
  refine (none_true [73, 73] w10 (HS.out.below h0 hB10) (by simp) (by rfl) (by rfl)).mono ?_
  intro e w11 hh
  obtain ⟨rfl, hb11⟩ := hh
  have hB11 := below_step hB10 hb11
  have hA11 := hid (blk_below hA10.out hb11)
  have hC11 := hid (Kd.C_below hC10.out hb11)
  have hD11 := hid (blk_below hD10.out hb11)
  have hE11 := hid (Kd.C_below hE10.out hb11)
  clear hB10 hA10 hC10 hD10 hE10 hb11
  have hz1 := blk_lt hA11.out
  have ha0 := blk_cell hA11.out 0
  have ha1 := blk_cell hA11.out 1
  have ha2 := blk_cell hA11.out 2
  obtain ⟨qx0, qx1⟩ := at_Ty0 hC11.out 0 (by decide)
  obtain ⟨qy0, qy1⟩ := at_Ty0 hC11.out 1 (by decide)
  obtain ⟨qz0, qz1⟩ := at_Ty0 hC11.out 2 (by decide)
  have hx0 : w11.cell? ⟨g, 0, none⟩ = some (.int .i64 1) := qx0
  have hx1 : w11.cell? ⟨g, 1, none⟩ = some (.string ⟨#[]⟩) := qx1
  have hy0 : w11.cell? ⟨g, 2, none⟩ = some (.int .i64 5) := qy0
  have hy1 : w11.cell? ⟨g, 3, none⟩ = some (.string ⟨#[]⟩) := qy1
  have hw0 : w11.cell? ⟨g, 4, none⟩ = some (.int .i64 3) := qz0
  have hw1 : w11.cell? ⟨g, 5, none⟩ = some (.string ⟨#[98]⟩) := qz1
  clear qx0 qx1 qy0 qy1 qz0 qz1
  have hq0 := blk_cell hD11.out 0
  have hq1 := blk_cell hD11.out 1
  have hq2 := blk_cell hD11.out 2
  go_wp2_with fail
  refine (words_any 2 ⟨#[]⟩ w11 (HS.out.below h0 hB11)).mono ?_
  intro e w12 hh
  obtain ⟨he, hb12⟩ := hh
  obtain rfl : e = .returned (.int .i64 2) := he
  have hB12 := below_step hB11 hb12
  have hD12 := hid (blk_below hD11.out hb12)
  have hE12 := hid (Kd.C_below hE11.out hb12)
  clear hx0 hx1 hy0 hy1 hw0 hw1 ha0 ha1 ha2 hq0 hq1 hq2 hA11 hB11 hC11 hD11 hE11 hb12
  have hq0 := blk_cell hD12.out 0
  have hq1 := blk_cell hD12.out 1
  have hq2 := blk_cell hD12.out 2
  go_wp2_with fail
  refine (argWords_any ⟨1, ⟨#[]⟩⟩ (some ⟨g2, 0, none⟩) exQ.args c2 w12 (HS.out.below h0 hB12) hE12.out (by decide)).mono ?_
  intro e w13 hh
  obtain ⟨he, hb13⟩ := hh
  obtain rfl : e = .returned (.int .i64 3) := he
  have hB13 := below_step hB12 hb13
  clear hB12 hb13
  go_wp2_with fail
  refine (isName_any ⟨#[97, 36, 49]⟩ w13).mono ?_
  intro e w14 hh
  obtain ⟨he, hb14⟩ := hh
  obtain rfl : e = .returned (.bool true) := he
  have hB14 := below_step hB13 hb14
  clear hB13 hb14
  go_wp2_with fail
  refine (isName_any ⟨#[49, 97]⟩ w14).mono ?_
  intro e w15 hh
  obtain ⟨he, hb15⟩ := hh
  obtain rfl : e = .returned (.bool false) := he
  have hB15 := below_step hB14 hb15
  clear hB14 hb15
  go_wp2
  go_ret
  exact ⟨rfl, hB15⟩

end Go.Proofs.YtcaepnbamnicmaaDoor
