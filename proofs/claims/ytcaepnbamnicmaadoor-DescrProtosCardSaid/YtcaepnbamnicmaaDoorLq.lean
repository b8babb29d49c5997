/- The law DescrProtos: for every two protos the statement's function returns true, under the table of signs as the program lays it. -/
import Derived.Test.YtcaepnbamnicmaaDoorRl
import Derived.Test.YtcaepnbamnicmaaDoorOq
import Derived.Carry
import Derived.ShutString
import Derived.ChangeOld
import Derived.SizedLaws
import Derived.Test.YtcaepnbamnicmaaDoorDy
import Derived.Test.YtcaepnbamnicmaaDoorOr
import Derived.Test.YtcaepnbamnicmaaDoorPt
import Derived.Deep.RegionHeld3
namespace Go.Proofs.YtcaepnbamnicmaaDoor.descrProtos
open Go.ChangeShapes Go.WideShapes Go.ChangeAt Go.RowKit
open Go.ChangeMaps (open_string shut_string)
open Go.Proofs.YtcaepnbamnicmaaDoor Go.Proofs.YtcaepnbamnicmaaDoorW.PrintWords
open Go.Proofs.YtcaepnbamnicmaaDoorW.PrintMore

def wpL (p : Pr) : ByteArray × Int := if protoErr p = 0 then (tx (protoText p), 0) else (⟨#[]⟩, protoErr p)
theorem writeProto_any (r : Ty) (A : Option Addr) (args : List Ty) (c : Nat) (w : World) (hS : Sg w) (hr : Kd.C kTy w A args.length args) :
    Calls Tryd.prog 22 #[.agg #[.int .i64 r.k, .string r.n, .slice A args.length c]] w fun e w' => e = .returned (.tuple #[.string (wpL ⟨r, args⟩).1, .int .i64 (wpL ⟨r, args⟩).2]) ∧ Below w.heap.size w w' := by
  unfold wpL
  by_cases h : protoErr ⟨r, args⟩ = 0
  · rw [if_pos h]
    obtain ⟨h1, h2, h3⟩ := protoErr_ok.1 h
    exact writeProto_yes r A args c w hS hr h1 h3 h2
  · rw [if_neg h]
    exact writeProto_no r A args c w hS hr h
theorem refWriteProto_any (r : Ty) (A : Option Addr) (args : List Ty) (c : Nat) (w : World) (hr : Kd.C kTy w A args.length args) :
    Calls Tryd.prog 25 #[.agg #[.int .i64 r.k, .string r.n, .slice A args.length c]] w fun e w' => e = .returned (.tuple #[.string (wpL ⟨r, args⟩).1, .int .i64 (wpL ⟨r, args⟩).2]) ∧ Below w.heap.size w w' := by
  unfold wpL
  by_cases h : protoErr ⟨r, args⟩ = 0
  · rw [if_pos h]
    obtain ⟨h1, h2, h3⟩ := protoErr_ok.1 h
    exact refWriteProto_yes r A args c w hr h1 h3 h2
  · rw [if_neg h]
    exact refWriteProto_no r A args c w hr h

theorem rows_of {w : World} {A : Option Addr} {n : Nat} {xs : List Ty} (h : Kd.C kTy w A n xs) : ReadsRow (fun x cs => cs = [.int .i64 x.k, .string x.n]) 2 w A n xs :=
  ReadsRow.imp_ h (Below.refl _ _) (fun _ _ h => kTy_open h)
theorem held3 {W w1 w2 : World} {a0 a1 a2 : Addr} {v0 v1 v2 : Value}
    (h : Below W.heap.size W w1 ∧ w1.cell? a0 = some v0 ∧ w1.cell? a1 = some v1 ∧ w1.cell? a2 = some v2)
    (b : Below w1.heap.size w1 w2) : Below W.heap.size W w2 ∧ w2.cell? a0 = some v0 ∧ w2.cell? a1 = some v1 ∧ w2.cell? a2 = some v2 := by
  obtain ⟨h, h0, h1, h2⟩ := h
  exact ⟨below_step h b, cell_later' b h0, cell_later' b h1, cell_later' b h2⟩

theorem held9 {W w1 w2 : World} {a0 a1 a2 a3 a4 a5 a6 a7 a8 : Addr} {v0 v1 v2 v3 v4 v5 v6 v7 v8 : Value}
    (h : Below W.heap.size W w1 ∧ w1.cell? a0 = some v0 ∧ w1.cell? a1 = some v1 ∧ w1.cell? a2 = some v2 ∧ w1.cell? a3 = some v3 ∧ w1.cell? a4 = some v4 ∧ w1.cell? a5 = some v5 ∧ w1.cell? a6 = some v6 ∧ w1.cell? a7 = some v7 ∧ w1.cell? a8 = some v8)
    (b : Below w1.heap.size w1 w2) : Below W.heap.size W w2 ∧ w2.cell? a0 = some v0 ∧ w2.cell? a1 = some v1 ∧ w2.cell? a2 = some v2 ∧ w2.cell? a3 = some v3 ∧ w2.cell? a4 = some v4 ∧ w2.cell? a5 = some v5 ∧ w2.cell? a6 = some v6 ∧ w2.cell? a7 = some v7 ∧ w2.cell? a8 = some v8 := by
  obtain ⟨h, h0, h1, h2, h3, h4, h5, h6, h7, h8⟩ := h
  exact ⟨below_step h b, cell_later' b h0, cell_later' b h1, cell_later' b h2, cell_later' b h3, cell_later' b h4, cell_later' b h5, cell_later' b h6, cell_later' b h7, cell_later' b h8⟩
theorem rowC {w : World} {B : Nat} {ok : Nat → Prop} {A : Option Addr} {c : Nat} {xs : List Ty} (h : Kd.R kTy 23 w B ok (.slice A xs.length c) xs) : Kd.C kTy w A xs.length xs := by
  obtain ⟨A', c', h0, _, h2⟩ := Kd.R_reads h
  simp only [Value.slice.injEq] at h0
  obtain ⟨rfl, _, rfl⟩ := h0
  exact h2
theorem heldOf {W w1 : World} {a0 a1 a2 : Addr} {v0 v1 v2 : Value} (h0 : W.cell? a0 = some v0) (h1 : W.cell? a1 = some v1) (h2 : W.cell? a2 = some v2)
    (b : Below W.heap.size W w1) : Below W.heap.size W w1 ∧ w1.cell? a0 = some v0 ∧ w1.cell? a1 = some v1 ∧ w1.cell? a2 = some v2 :=
  ⟨b, cell_later' b h0, cell_later' b h1, cell_later' b h2⟩

set_option maxHeartbeats 4000000 in
theorem walk (x : Pr) (A : Option Addr) (c : Nat) (y : Pr) (B : Option Addr) (d : Nat) (w : World) (hS : Sg w) (_ : x.args.length ≤ c) (hx : Kd.C kTy w A x.args.length x.args) (gx : gPr x) (_ : y.args.length ≤ d) (hy : Kd.C kTy w B y.args.length y.args) (gy : gPr y) :
    Calls Tryd.prog 7 #[.agg #[.int .i64 x.ret.k, .string x.ret.n, .slice A x.args.length c], .agg #[.int .i64 y.ret.k, .string y.ret.n, .slice B y.args.length d]] w fun e w' => e = .returned (.bool true) ∧ Below w.heap.size w w' := by
  have HS := hid hS
  have h0 := hS.lt
  obtain ⟨r, xs⟩ := x
  obtain ⟨q, ys⟩ := y
  have hlx := tys_len gx.2
  have hly := tys_len gy.2
  have HX := hid hx
  have HY := hid hy
  simp only at *
  obtain ⟨⟨wx, we⟩, hwp⟩ : ∃ p, wpL ⟨r, xs⟩ = p := ⟨_, rfl⟩
  have HWP := hid hwp
  obtain ⟨pe, hpe⟩ : ∃ p, protoErr ⟨r, xs⟩ = p := ⟨_, rfl⟩
  have HPE := hid hpe
  obtain ⟨ws, hws⟩ : ∃ p, wordsSum xs = p := ⟨_, rfl⟩
  have HWS := hid hws
  obtain ⟨sb, hsb⟩ : ∃ p, (tyEq r q && tysEq xs ys) = p := ⟨_, rfl⟩
  have HSB := hid hsb
  have HQQ : Hid ((tyEq r r && tysEq xs xs) = true) := by
    show _ = _
    rw [tyEq_self, (tysEq_iff _ _).2 rfl]; rfl
  have hsx := strEq wx
  clear hS hx hy gx gy hwp hpe hws hsb
  go_enter Tryd.func7, Tryd.ntmps7
  go_wp2_with fail
  have hB1 := below_alloc (Below.refl w.heap.size w) (.cells #[.int .i64 r.k, .string r.n, .slice A xs.length c] 29)
  have hP := blk_new w (.cells #[.int .i64 r.k, .string r.n, .slice A xs.length c] 29)
  replace HX := Kd.C_alloc HX.out (.cells #[.int .i64 r.k, .string r.n, .slice A xs.length c] 29)
  replace HY := Kd.C_alloc HY.out (.cells #[.int .i64 r.k, .string r.n, .slice A xs.length c] 29)
  have hs1 := size_alloc w (.cells #[.int .i64 r.k, .string r.n, .slice A xs.length c] 29)
  generalize w.alloc (.cells #[.int .i64 r.k, .string r.n, .slice A xs.length c] 29) = W1 at *
  have hB2 := below_alloc hB1 (.cells #[.int .i64 q.k, .string q.n, .slice B ys.length d] 29)
  have hQ := blk_new W1 (.cells #[.int .i64 q.k, .string q.n, .slice B ys.length d] 29)
  rw [hs1] at hQ
  replace HX := Kd.C_alloc HX (.cells #[.int .i64 q.k, .string q.n, .slice B ys.length d] 29)
  replace HY := Kd.C_alloc HY (.cells #[.int .i64 q.k, .string q.n, .slice B ys.length d] 29)
  replace hP := blk_alloc hP (.cells #[.int .i64 q.k, .string q.n, .slice B ys.length d] 29)
  have hs2 := size_alloc W1 (.cells #[.int .i64 q.k, .string q.n, .slice B ys.length d] 29)
  generalize W1.alloc (.cells #[.int .i64 q.k, .string q.n, .slice B ys.length d] 29) = W2 at *
  have s0 := blk_cell hP 0
  have s1 := blk_cell hP 1
  have s2 := blk_cell hP 2
  clear hs1 hs2
  go_region_held3 (fun w' => Below W2.heap.size W2 w' ∧ w'.cell? ⟨w.heap.size, 0, none⟩ = some (.int .i64 r.k) ∧ w'.cell? ⟨w.heap.size, 1, none⟩ = some (.string r.n) ∧ w'.cell? ⟨w.heap.size, 2, none⟩ = some (.slice A xs.length c)) (first | exact ⟨below_drewN' (Below.refl _ _) 1, s0, s1, s2⟩ | exact heldOf s0 s1 s2 (by assumption) | exact heldOf s0 s1 s2 (below_alloc (by assumption) _) | exact heldOf s0 s1 s2 (below_alloc (below_drewN' (Below.refl _ _) 1) _) | exact heldOf s0 s1 s2 (below_set (below_set (below_set (by assumption) (Nat.le_refl _)) (Nat.le_refl _)) (Nat.le_refl _)) | exact held3 (by assumption) (by assumption) | exact held3 (by assumption) (below_alloc (Below.refl _ _) _)) (first | (refine Kd.R_append_rows_step kTy (Rr := fun x cs => cs = [.int .i64 x.k, .string x.n]) (w0 := W2) W2.heap.size (by rfl) (.const (.slice none 0 0)) (.tmp 13) 27 23 (.agg #[.int .i64 0, .string ⟨#[]⟩]) 24 rfl Tryd.underlying27 infoTy rfl (by decide) (by omega) (.slice none 0 0) [] xs A xs.length c (fun _ => True) (fun _ => False) rfl (by first | (go_simp; done) | (go_simp; rfl)) ?aO ?aR ?aK (fun _ hk => hk.elim) (fun _ _ => trivial) ?aB ?aS ?aL ?_; (case aO => exact Kd.R_nil _ _ _ _ _); (case aR => exact rows_of (Kd.C_below HX (And.left (by assumption)))); (case aK => exact fun x cs h => by rw [h]; exact kTy_mkM _ _ _ x); (case aB => exact And.left (by assumption)); (case aS => exact Below.size (And.left (by assumption))); (case aL => simp only [List.length_nil]; omega); intro v1 w1 ho hb hg hat; obtain ⟨A1, c1, rfl⟩ := Kd.R_slice ho; have HO1 := hid ho; (first | (have hN : w1.heap[W2.heap.size]? = some (.cells #[.int .i64 0, .string ⟨#[]⟩, .slice none 0 0] 29 (0, 0)) := blk_grown (blk_new W2.drew (.cells #[.int .i64 0, .string ⟨#[]⟩, .slice none 0 0] 29)) hg (by simp [Value.ownBlock]); have n0 : w1.cell? ⟨W2.heap.size, 0, none⟩ = some (.int .i64 0) := blk_cell hN 0; have n1 : w1.cell? ⟨W2.heap.size, 1, none⟩ = some (.string ⟨#[]⟩) := blk_cell hN 1; have n2 : w1.cell? ⟨W2.heap.size, 2, none⟩ = some (.slice none 0 0) := blk_cell hN 2; have zN := blk_lt hN; have m0 := blk_frozen hN 0; have m1 := blk_frozen hN 1; have m2 := blk_frozen hN 2) | skip); clear ho hg hat))
  · have hb3 := below_alloc hb (.cells #[.int .i64 r.k, .string r.n, .slice A1 xs.length c1] 29)
    have hN3 := hid (blk_new w1 (.cells #[.int .i64 r.k, .string r.n, .slice A1 xs.length c1] 29))
    have hZ3 := hid (Kd.C_alloc (rowC HO1.out) (.cells #[.int .i64 r.k, .string r.n, .slice A1 xs.length c1] 29))
    clear s0 s1 s2
    generalize w1.heap.size = pN at *
    generalize w1.alloc (.cells #[.int .i64 r.k, .string r.n, .slice A1 xs.length c1] 29) = W3 at *
    have hB3 := below_step hB2 hb3
    have HXr3 := hid (Kd.C_below HX hb3)
    have HYr3 := hid (Kd.C_below HY hb3)
    have hPr3 := hid (blk_below hP hb3)
    have hQr3 := hid (blk_below hQ hb3)
    have cP0 := blk_cell hPr3.out 0
    have cP1 := blk_cell hPr3.out 1
    have cP2 := blk_cell hPr3.out 2
    have zP := blk_lt hPr3.out
    have cQ0 := blk_cell hQr3.out 0
    have cQ1 := blk_cell hQr3.out 1
    have cQ2 := blk_cell hQr3.out 2
    have zQ := blk_lt hQr3.out
    have cN0 := blk_cell hN3.out 0
    have cN1 := blk_cell hN3.out 1
    have cN2 := blk_cell hN3.out 2
    have zN := blk_lt hN3.out
    go_wp2_with fail
    clear cP0 cP1 cP2 zP cQ0 cQ1 cQ2 zQ cN0 cN1 cN2 zN
    refine (writeProto_any r A1 xs c1 W3 (HS.out.below h0 hB3) hZ3.out).mono ?_
    intro e w4 hh
    obtain ⟨he, hb⟩ := hh
    obtain rfl : e = .returned (.tuple #[.string wx, .int .i64 we]) := he.trans (by rw [HWP.out])
    clear he
    have hB4 := below_step hB3 hb
    replace HXr3 := hid (Kd.C_below HXr3.out hb)
    replace HYr3 := hid (Kd.C_below HYr3.out hb)
    replace hPr3 := hid (blk_below hPr3.out hb)
    replace hQr3 := hid (blk_below hQr3.out hb)
    replace hN3 := hid (blk_below hN3.out hb)
    replace hZ3 := hid (Kd.C_below hZ3.out hb)
    replace hb3 := below_step hb3 hb
    clear hb hB3
    have cP0 := blk_cell hPr3.out 0
    have cP1 := blk_cell hPr3.out 1
    have cP2 := blk_cell hPr3.out 2
    have zP := blk_lt hPr3.out
    have cQ0 := blk_cell hQr3.out 0
    have cQ1 := blk_cell hQr3.out 1
    have cQ2 := blk_cell hQr3.out 2
    have zQ := blk_lt hQr3.out
    have cN0 := blk_cell hN3.out 0
    have cN1 := blk_cell hN3.out 1
    have cN2 := blk_cell hN3.out 2
    have zN := blk_lt hN3.out
    go_wp2_with fail
    clear cP0 cP1 cP2 zP cQ0 cQ1 cQ2 zQ cN0 cN1 cN2 zN
    refine (refWriteProto_any r A xs c w4 HXr3.out).mono ?_
    intro e w5 hh
    obtain ⟨he, hb⟩ := hh
    obtain rfl : e = .returned (.tuple #[.string wx, .int .i64 we]) := he.trans (by rw [HWP.out])
    clear he
    have hB5 := below_step hB4 hb
    replace HXr3 := hid (Kd.C_below HXr3.out hb)
    replace HYr3 := hid (Kd.C_below HYr3.out hb)
    replace hPr3 := hid (blk_below hPr3.out hb)
    replace hQr3 := hid (blk_below hQr3.out hb)
    replace hN3 := hid (blk_below hN3.out hb)
    replace hZ3 := hid (Kd.C_below hZ3.out hb)
    replace hb3 := below_step hb3 hb
    clear hb hB4
    have cP0 := blk_cell hPr3.out 0
    have cP1 := blk_cell hPr3.out 1
    have cP2 := blk_cell hPr3.out 2
    have zP := blk_lt hPr3.out
    have cQ0 := blk_cell hQr3.out 0
    have cQ1 := blk_cell hQr3.out 1
    have cQ2 := blk_cell hQr3.out 2
    have zQ := blk_lt hQr3.out
    have cN0 := blk_cell hN3.out 0
    have cN1 := blk_cell hN3.out 1
    have cN2 := blk_cell hN3.out 2
    have zN := blk_lt hN3.out
    go_wp2_with fail
    clear cP0 cP1 cP2 zP cQ0 cQ1 cQ2 zQ cN0 cN1 cN2 zN
    have s0 := blk_cell hPr3.out 0
    have s1 := blk_cell hPr3.out 1
    have s2 := blk_cell hPr3.out 2
    have s3 := blk_cell hQr3.out 0
    have s4 := blk_cell hQr3.out 1
    have s5 := blk_cell hQr3.out 2
    have s6 := blk_cell hN3.out 0
    have s7 := blk_cell hN3.out 1
    have s8 := blk_cell hN3.out 2
    go_region_held3 (fun w' => Below w5.heap.size w5 w' ∧ w'.cell? ⟨w.heap.size, 0, none⟩ = some (.int .i64 r.k) ∧ w'.cell? ⟨w.heap.size, 1, none⟩ = some (.string r.n) ∧ w'.cell? ⟨w.heap.size, 2, none⟩ = some (.slice A xs.length c) ∧ w'.cell? ⟨w.heap.size + 1, 0, none⟩ = some (.int .i64 q.k) ∧ w'.cell? ⟨w.heap.size + 1, 1, none⟩ = some (.string q.n) ∧ w'.cell? ⟨w.heap.size + 1, 2, none⟩ = some (.slice B ys.length d) ∧ w'.cell? ⟨pN, 0, none⟩ = some (.int .i64 r.k) ∧ w'.cell? ⟨pN, 1, none⟩ = some (.string r.n) ∧ w'.cell? ⟨pN, 2, none⟩ = some (.slice A1 xs.length c1)) (first | exact ⟨below_drewN' (Below.refl _ _) 1, s0, s1, s2, s3, s4, s5, s6, s7, s8⟩ | exact held9 (by assumption) (by assumption)) (first | (go_at_call 23; refine (checkProto_any r A1 xs c1 _ (HS.out.below h0 (below_step hB5 (And.left (by assumption)))) (Kd.C_below hZ3.out (And.left (by assumption)))).mono ?_; rintro e w' ⟨he, hb⟩; obtain rfl : e = .returned (.int .i64 pe) := he.trans (by rw [HPE.out]); clear he) | (go_at_call 26; refine (refCheckProto_any r A xs c _ (Kd.C_below HXr3.out (And.left (by assumption)))).mono ?_; rintro e w' ⟨he, hb⟩; obtain rfl : e = .returned (.int .i64 pe) := he.trans (by rw [HPE.out]); clear he) | (go_at_call 27; refine (argWords_any r A1 xs c1 _ (HS.out.below h0 (below_step hB5 (And.left (by assumption)))) (Kd.C_below hZ3.out (And.left (by assumption))) (by omega)).mono ?_; rintro e w' ⟨he, hb⟩; obtain rfl : e = .returned (.int .i64 ws) := he.trans (by rw [HWS.out]); clear he) | (go_at_call 28; refine (refArgWords_any r A xs c _ (Kd.C_below HXr3.out (And.left (by assumption))) (by omega)).mono ?_; rintro e w' ⟨he, hb⟩; obtain rfl : e = .returned (.int .i64 ws) := he.trans (by rw [HWS.out]); clear he) | (go_at_call 29; refine (sameProto_any r q A1 B xs ys c1 d _ (Kd.C_below hZ3.out (And.left (by assumption))) (Kd.C_below HYr3.out (And.left (by assumption)))).mono ?_; rintro e w' ⟨he, hb⟩; obtain rfl : e = .returned (.bool sb) := he.trans (by rw [HSB.out]); clear he) | (go_at_call 16; refine (refSame_any _ _ _ _ _ _ _ _ _ ?hx ?hy).mono ?_; (case hx => first | exact Kd.C_below HXr3.out (And.left (by assumption)) | exact Kd.C_below hZ3.out (And.left (by assumption))); (case hy => first | exact Kd.C_below HYr3.out (And.left (by assumption)) | exact Kd.C_below HXr3.out (And.left (by assumption))); rintro e w' ⟨he, hb⟩; (first | rw [HSB.out] at he | rw [HQQ.out] at he); subst he) | (go_at_call 19; refine (works_true _ (HS.out.below h0 (below_step hB5 (And.left (by assumption))))).mono ?_; rintro e w' ⟨rfl, hb⟩))
    go_wp2
    go_ret
    exact ⟨rfl, below_step hB5 (And.left (by assumption))⟩
  · have hb3 : Below W2.heap.size W2 (((w1.setCell ⟨W2.heap.size, 0, none⟩ (.int .i64 r.k)).setCell ⟨W2.heap.size, 1, none⟩ (.string r.n)).setCell ⟨W2.heap.size, 2, none⟩ (.slice A1 xs.length c1)) := below_set (below_set (below_set hb (Nat.le_refl _)) (Nat.le_refl _)) (Nat.le_refl _)
    have hN3 := hid (blk_put (blk_put (blk_put hN 0 (.int .i64 r.k) rfl) 1 (.string r.n) rfl) 2 (.slice A1 xs.length c1) rfl)
    have hZ3 := hid (rowC (Kd.R_mono (Kd.R_far (p := ⟨W2.heap.size, 2, none⟩) (Kd.R_far (p := ⟨W2.heap.size, 1, none⟩) (Kd.R_far (p := ⟨W2.heap.size, 0, none⟩) (Kd.R_types HO1.out hN (by decide)) (fun _ hk => hk.2) (.int .i64 r.k)) (fun _ hk => hk.2) (.string r.n)) (fun _ hk => hk.2) (.slice A1 xs.length c1)) (fun _ _ => trivial)))
    clear s0 s1 s2 n0 n1 n2 m0 m1 m2 zN hN HO1
    generalize ((w1.setCell ⟨W2.heap.size, 0, none⟩ (.int .i64 r.k)).setCell ⟨W2.heap.size, 1, none⟩ (.string r.n)).setCell ⟨W2.heap.size, 2, none⟩ (.slice A1 xs.length c1) = W3 at *
    obtain ⟨pN, hpN⟩ : ∃ pN, pN = W2.heap.size := ⟨_, rfl⟩
    rw [← hpN] at hN3 ⊢
    clear hpN
    have hB6 := below_step hB2 hb3
    have HXr6 := hid (Kd.C_below HX hb3)
    have HYr6 := hid (Kd.C_below HY hb3)
    have hPr6 := hid (blk_below hP hb3)
    have hQr6 := hid (blk_below hQ hb3)
    have cP0 := blk_cell hPr6.out 0
    have cP1 := blk_cell hPr6.out 1
    have cP2 := blk_cell hPr6.out 2
    have zP := blk_lt hPr6.out
    have cQ0 := blk_cell hQr6.out 0
    have cQ1 := blk_cell hQr6.out 1
    have cQ2 := blk_cell hQr6.out 2
    have zQ := blk_lt hQr6.out
    have cN0 := blk_cell hN3.out 0
    have cN1 := blk_cell hN3.out 1
    have cN2 := blk_cell hN3.out 2
    have zN := blk_lt hN3.out
    go_wp2_with fail
    clear cP0 cP1 cP2 zP cQ0 cQ1 cQ2 zQ cN0 cN1 cN2 zN
    refine (writeProto_any r A1 xs c1 W3 (HS.out.below h0 hB6) hZ3.out).mono ?_
    intro e w7 hh
    obtain ⟨he, hb⟩ := hh
    obtain rfl : e = .returned (.tuple #[.string wx, .int .i64 we]) := he.trans (by rw [HWP.out])
    clear he
    have hB7 := below_step hB6 hb
    replace HXr6 := hid (Kd.C_below HXr6.out hb)
    replace HYr6 := hid (Kd.C_below HYr6.out hb)
    replace hPr6 := hid (blk_below hPr6.out hb)
    replace hQr6 := hid (blk_below hQr6.out hb)
    replace hN3 := hid (blk_below hN3.out hb)
    replace hZ3 := hid (Kd.C_below hZ3.out hb)
    replace hb3 := below_step hb3 hb
    clear hb hB6
    have cP0 := blk_cell hPr6.out 0
    have cP1 := blk_cell hPr6.out 1
    have cP2 := blk_cell hPr6.out 2
    have zP := blk_lt hPr6.out
    have cQ0 := blk_cell hQr6.out 0
    have cQ1 := blk_cell hQr6.out 1
    have cQ2 := blk_cell hQr6.out 2
    have zQ := blk_lt hQr6.out
    have cN0 := blk_cell hN3.out 0
    have cN1 := blk_cell hN3.out 1
    have cN2 := blk_cell hN3.out 2
    have zN := blk_lt hN3.out
    go_wp2_with fail
    clear cP0 cP1 cP2 zP cQ0 cQ1 cQ2 zQ cN0 cN1 cN2 zN
    refine (refWriteProto_any r A xs c w7 HXr6.out).mono ?_
    intro e w8 hh
    obtain ⟨he, hb⟩ := hh
    obtain rfl : e = .returned (.tuple #[.string wx, .int .i64 we]) := he.trans (by rw [HWP.out])
    clear he
    have hB8 := below_step hB7 hb
    replace HXr6 := hid (Kd.C_below HXr6.out hb)
    replace HYr6 := hid (Kd.C_below HYr6.out hb)
    replace hPr6 := hid (blk_below hPr6.out hb)
    replace hQr6 := hid (blk_below hQr6.out hb)
    replace hN3 := hid (blk_below hN3.out hb)
    replace hZ3 := hid (Kd.C_below hZ3.out hb)
    replace hb3 := below_step hb3 hb
    clear hb hB7
    have cP0 := blk_cell hPr6.out 0
    have cP1 := blk_cell hPr6.out 1
    have cP2 := blk_cell hPr6.out 2
    have zP := blk_lt hPr6.out
    have cQ0 := blk_cell hQr6.out 0
    have cQ1 := blk_cell hQr6.out 1
    have cQ2 := blk_cell hQr6.out 2
    have zQ := blk_lt hQr6.out
    have cN0 := blk_cell hN3.out 0
    have cN1 := blk_cell hN3.out 1
    have cN2 := blk_cell hN3.out 2
    have zN := blk_lt hN3.out
    go_wp2_with fail
    clear cP0 cP1 cP2 zP cQ0 cQ1 cQ2 zQ cN0 cN1 cN2 zN
    have s0 := blk_cell hPr6.out 0
    have s1 := blk_cell hPr6.out 1
    have s2 := blk_cell hPr6.out 2
    have s3 := blk_cell hQr6.out 0
    have s4 := blk_cell hQr6.out 1
    have s5 := blk_cell hQr6.out 2
    have s6 := blk_cell hN3.out 0
    have s7 := blk_cell hN3.out 1
    have s8 := blk_cell hN3.out 2
    go_region_held3 (fun w' => Below w8.heap.size w8 w' ∧ w'.cell? ⟨w.heap.size, 0, none⟩ = some (.int .i64 r.k) ∧ w'.cell? ⟨w.heap.size, 1, none⟩ = some (.string r.n) ∧ w'.cell? ⟨w.heap.size, 2, none⟩ = some (.slice A xs.length c) ∧ w'.cell? ⟨w.heap.size + 1, 0, none⟩ = some (.int .i64 q.k) ∧ w'.cell? ⟨w.heap.size + 1, 1, none⟩ = some (.string q.n) ∧ w'.cell? ⟨w.heap.size + 1, 2, none⟩ = some (.slice B ys.length d) ∧ w'.cell? ⟨pN, 0, none⟩ = some (.int .i64 r.k) ∧ w'.cell? ⟨pN, 1, none⟩ = some (.string r.n) ∧ w'.cell? ⟨pN, 2, none⟩ = some (.slice A1 xs.length c1)) (first | exact ⟨below_drewN' (Below.refl _ _) 1, s0, s1, s2, s3, s4, s5, s6, s7, s8⟩ | exact held9 (by assumption) (by assumption)) (first | (go_at_call 23; refine (checkProto_any r A1 xs c1 _ (HS.out.below h0 (below_step hB8 (And.left (by assumption)))) (Kd.C_below hZ3.out (And.left (by assumption)))).mono ?_; rintro e w' ⟨he, hb⟩; obtain rfl : e = .returned (.int .i64 pe) := he.trans (by rw [HPE.out]); clear he) | (go_at_call 26; refine (refCheckProto_any r A xs c _ (Kd.C_below HXr6.out (And.left (by assumption)))).mono ?_; rintro e w' ⟨he, hb⟩; obtain rfl : e = .returned (.int .i64 pe) := he.trans (by rw [HPE.out]); clear he) | (go_at_call 27; refine (argWords_any r A1 xs c1 _ (HS.out.below h0 (below_step hB8 (And.left (by assumption)))) (Kd.C_below hZ3.out (And.left (by assumption))) (by omega)).mono ?_; rintro e w' ⟨he, hb⟩; obtain rfl : e = .returned (.int .i64 ws) := he.trans (by rw [HWS.out]); clear he) | (go_at_call 28; refine (refArgWords_any r A xs c _ (Kd.C_below HXr6.out (And.left (by assumption))) (by omega)).mono ?_; rintro e w' ⟨he, hb⟩; obtain rfl : e = .returned (.int .i64 ws) := he.trans (by rw [HWS.out]); clear he) | (go_at_call 29; refine (sameProto_any r q A1 B xs ys c1 d _ (Kd.C_below hZ3.out (And.left (by assumption))) (Kd.C_below HYr6.out (And.left (by assumption)))).mono ?_; rintro e w' ⟨he, hb⟩; obtain rfl : e = .returned (.bool sb) := he.trans (by rw [HSB.out]); clear he) | (go_at_call 16; refine (refSame_any _ _ _ _ _ _ _ _ _ ?hx ?hy).mono ?_; (case hx => first | exact Kd.C_below HXr6.out (And.left (by assumption)) | exact Kd.C_below hZ3.out (And.left (by assumption))); (case hy => first | exact Kd.C_below HYr6.out (And.left (by assumption)) | exact Kd.C_below HXr6.out (And.left (by assumption))); rintro e w' ⟨he, hb⟩; (first | rw [HSB.out] at he | rw [HQQ.out] at he); subst he) | (go_at_call 19; refine (works_true _ (HS.out.below h0 (below_step hB8 (And.left (by assumption))))).mono ?_; rintro e w' ⟨rfl, hb⟩))
    go_wp2
    go_ret
    exact ⟨rfl, below_step hB8 (And.left (by assumption))⟩
set_option maxRecDepth 100000 in
theorem lifted (os : Os) (started : os.Started) (H : Type) (enc : TypeId × Value → H) :
    ReturnsInHanded {} Tryd.checked os 7 .any (fun w args => (Rows.descrProtosSpec.pre enc Tryd.prog Tryd.f7 [] false w args ∧ laidMetH Tryd.prog [("warpbeam/descr.signs", Rows.laid_warpbeam_descr_signs)] w) ∧ sizedMet enc Tryd.prog Tryd.f7 (OpenSpec.ofChange Rows.descrProtosSpec) false w args)
      (Rows.descrProtosSpec.post enc Tryd.prog Tryd.f7 false true false false) := by
  refine returnsInHanded_of_change_and (C := Tryd.checked) (X := fun w _ => laidMetH Tryd.prog [("warpbeam/descr.signs", Rows.laid_warpbeam_descr_signs)] w) (fun _ _ _ hh h => h.of_heap hh) own started (by kernel_rfl) Tryd.func7
    (ChangeSpec.witness_shaped (enc := enc) (C := Tryd.checked) (os := os) (X := fun w _ => laidMetH Tryd.prog [("warpbeam/descr.signs", Rows.laid_warpbeam_descr_signs)] w) false (World.doorLaid Tryd.prog 400 os) #[.agg #[.int .i64 0, .string ByteArray.empty, .slice none 0 0], .agg #[.int .i64 0, .string ByteArray.empty, .slice none 0 0]] 8 rfl (World.shaped_of_RefB (by kernel_rfl) (by kernel_rfl)) (by kernel_rfl) (by kernel_rfl) (by kernel_rfl) (door_met os _)) ?_
  intro W base args ds gs before hval0 hW hcnd hsz0 hL _
  have hval : ∀ (j : Nat) t v, Tryd.f7.params[j]? = some t → args[j]? = some v → Value.okWide Tryd.prog W .any base t v := hval0
  have hsz : (DataW.weightsEach Tryd.prog (Tryd.f7.params.toList ++ Rows.descrProtosSpec.plain.varTypes Tryd.prog) (ds ++ gs)).all (· ≤ reachBytes) = true := hsz0
  have hW' := hW
  obtain ⟨p, q, hA0, hV, rfl, hfz, hnd⟩ := hW
  have hA : DataW.TrodAll enc Tryd.prog W 0 (fun _ => true) true Tryd.f7.params.toList args.toList ds p := hA0
  rw [Tryd.params7] at hA hval hsz
  obtain ⟨v0, vs0, d0, ds0, p0, q0, hargs, rfl, rfl, h0, r0⟩ := trodAll_cons hA
  obtain ⟨v1, vs1, d1, ds1, p1, q1, rfl, rfl, rfl, h1, r1⟩ := trodAll_cons r0
  obtain ⟨rfl, rfl, rfl⟩ := trodAll_nil r1
  obtain rfl : args = #[v0, v1] := by cases args; simp_all
  obtain ⟨rfl, rfl⟩ := trodVars_none hV
  have y0 := h0
  obtain ⟨x0, A0, c0, rfl, k0, C0, g0⟩ := openPr (hval 0 29 v0 rfl rfl) h0 (Op.weights_of hsz (j := 0) rfl rfl)
  have y1 := h1
  obtain ⟨x1, A1, c1, rfl, k1, C1, g1⟩ := openPr (hval 1 29 v1 rfl rfl) h1 (Op.weights_of hsz (j := 1) rfl rfl)
  have hS := sg_of_laid hL
  clear hA0 hval0 hsz0 hsz
  refine (walk x0 A0 c0 x1 A1 c1 W hS k0 C0 g0 k1 C1 g1).mono fun e W' ⟨he, bel⟩ => ?_
  subst he
  exact ⟨_, rfl, _, _, _, [], _, [], hW', trodAll_mk1 (shut_bool Tryd.underlying4 _), (trodAll_cons_mk (Below.trod laidOut (by kernel_rfl) (of_decide_eq_true (by kernel_rfl)) y0 bel (Op.trod_places y0)) (trodAll_cons_mk (Below.trod laidOut (by kernel_rfl) (of_decide_eq_true (by kernel_rfl)) y1 bel (Op.trod_places y1)) trodAll_mk0)), rfl, bel.frame _, fun h => by cases h⟩

theorem over : Rows.DescrProtosSaid :=
  OpenClaim.holds_of_wide 7 Tryd.f7 rfl rfl rfl rfl rfl rfl rfl ⟨rfl, rfl, rfl, rfl, rfl⟩ rfl rfl rfl rfl rfl (by kernel_rfl) Tryd.func7 (by kernel_rfl)
    (of_decide_eq_true (by kernel_rfl)) (by unfold Func.isWrapper; first | (rw [if_pos (by decide +kernel)]; kernel_rfl) | (rw [if_neg (by decide +kernel)]; exact ⟨rfl, rfl⟩))
    (fun os started H enc _ => lifted os started H enc)

end Go.Proofs.YtcaepnbamnicmaaDoor.descrProtos
