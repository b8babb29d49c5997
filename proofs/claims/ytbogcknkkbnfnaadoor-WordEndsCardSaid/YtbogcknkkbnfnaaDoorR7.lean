/- Texts laid as one: Nk Nm No Np. -/
import Derived.Test.YtbogcknkkbnfnaaDoorNi
import Derived.Test.YtbogcknkkbnfnaaDoorR6
/- What both News answer; the row that the law spoils. -/
namespace Go.Proofs.YtbogcknkkbnfnaaDoor
open Go.RowKit Go.Proofs.YtbogcknkkbnfnaaDoorW.PrintWords Go.Maps Go.WideMaps

theorem newErr_none {L : List Cl} (h : newErr L = none) : dupErr L = none ∧ joinErr L = none ∧ firstNo L (upFit L (supsL L L.length)) = none ∧ firstNo L (facesP L (facesL L L.length)) = none ∧ firstNo L (ringP (supsL L L.length) (facesL L L.length)) = none := by
  unfold newErr at h
  cases h1 : dupErr L with
  | some s => rw [h1] at h; cases h
  | none =>
    rw [h1] at h
    cases h2 : joinErr L with
    | some s => rw [h2] at h; cases h
    | none =>
      rw [h2] at h
      cases h3 : firstNo L (upFit L (supsL L L.length)) with
      | some s => rw [h3] at h; cases h
      | none =>
        rw [h3] at h
        cases h4 : firstNo L (facesP L (facesL L L.length)) with
        | some s => rw [h4] at h; cases h
        | none =>
          rw [h4] at h
          cases h5 : firstNo L (ringP (supsL L L.length) (facesL L L.length)) with
          | some s => rw [h5] at h; cases h
          | none => exact ⟨rfl, rfl, rfl, rfl, rfl⟩
section
variable {A : Option Addr} {c n : Nat} {l : List Cl} {wl w : World}
theorem refNew_5 (hn : l.length = n) (hC : kCl.C wl A n l) (hBl : Below wl.heap.size wl w) (hbig : n ≤ 9223372036854775807) (hok : ∀ x ∈ l, clOk x) (h64 : 64 < n) :
    Calls Tryd.prog 47 #[.slice A n c] w fun e w' => e = .returned (.tuple #[.pointer none, .string ⟨#[]⟩, .int .i64 5]) ∧ Below w.heap.size w w' := by
  subst hn
  refine (refNew_any A c l wl w hC hBl hbig hok).mono ?_
  rintro e w' ⟨hB, h⟩
  rw [if_pos h64] at h
  exact ⟨h, hB⟩
theorem refNew_err (hn : l.length = n) (hC : kCl.C wl A n l) (hBl : Below wl.heap.size wl w) (hbig : n ≤ 9223372036854775807) (hok : ∀ x ∈ l, clOk x) (h64 : ¬ 64 < n) {r : List Cl} {s : ByteArray} {x : Int} (hs : Srtd r (l.map headOf)) (he : newErr (builtL ++ r) = some (s, x)) :
    Calls Tryd.prog 47 #[.slice A n c] w fun e w' => e = .returned (.tuple #[.pointer none, .string s, .int .i64 x]) ∧ Below w.heap.size w w' := by
  subst hn
  refine (refNew_any A c l wl w hC hBl hbig hok).mono ?_
  rintro e w' ⟨hB, h⟩
  rw [if_neg h64] at h
  obtain ⟨r', hs', h⟩ := h
  rw [← (news_same hs hs').1, he] at h
  exact ⟨h, hB⟩
theorem refNew_ok (hn : l.length = n) (hC : kCl.C wl A n l) (hBl : Below wl.heap.size wl w) (hbig : n ≤ 9223372036854775807) (hok : ∀ x ∈ l, clOk x) (h64 : ¬ 64 < n) {r : List Cl} (hs : Srtd r (l.map headOf)) (he : newErr (builtL ++ r) = none) :
    Calls Tryd.prog 47 #[.slice A n c] w fun e w' => ∃ p r', e = .returned (.tuple #[.pointer (some ⟨p, 0, none⟩), .string ⟨#[]⟩, .int .i64 0]) ∧ RSet wl w.heap.size p r' w' ∧ builtL ++ r = (builtL ++ r').map headOf ∧ newErr (builtL ++ r') = none ∧ Below w.heap.size w w' := by
  subst hn
  refine (refNew_any A c l wl w hC hBl hbig hok).mono ?_
  rintro e w' ⟨hB, h⟩
  rw [if_neg h64] at h
  obtain ⟨r', hs', h⟩ := h
  obtain ⟨h1, h2⟩ := news_same hs hs'
  rw [h1] at he
  rw [he] at h
  obtain ⟨p, h3, h4⟩ := h
  exact ⟨p, r', h3, h4, h2 he, he, hB⟩
end
/-- Both sets, of the same classes. -/
theorem both_of {wl w : World} {B B' p p' : Nat} {r r' : List Cl} (hS : IsSet B p (builtL ++ r) w) (hR : RSet wl B' p' r' w) (hB : Below wl.heap.size wl w) (he : builtL ++ r = (builtL ++ r').map headOf) (hn : newErr (builtL ++ r') = none) : ∃ g c N S F, PV B p N (builtL ++ r) S F w ∧ GV p' g c r' N S F w := by
  obtain ⟨g, c, hM⟩ := hR.mv hB
  obtain ⟨h1, h2, h3, h4, h5⟩ := newErr_none hn
  have h8 := len_built r'
  refine ⟨g, c, (builtL ++ r').length, supsL (builtL ++ r') (builtL ++ r').length, facesL (builtL ++ r') (builtL ++ r').length, ⟨hS, by rw [he, List.length_map], by rw [he, List.length_map, supsL_heads], by rw [he, List.length_map, facesL_heads]⟩, hM, rfl, rfl, rfl, h2, goodSet_of (by omega) h3 h4 h5⟩
/-- A row of ints that is written. -/
def Ib (g n : Nat) (w : World) : Prop := ∃ cs, w.heap[g]? = some (.cells cs 3 (0, 0)) ∧ n ≤ cs.size
theorem Ib.cell {g n : Nat} {w : World} (h : Ib g n w) {j : Nat} (hj : j < n) : ∃ v, w.cell? ⟨g, j, none⟩ = some v := by
  obtain ⟨cs, h1, h2⟩ := h
  rw [blk_cell h1 j]
  exact ⟨cs[j]'(by omega), Array.getElem?_eq_getElem _⟩
theorem Ib.froz {g n : Nat} {w : World} (h : Ib g n w) (j : Nat) : w.frozen? ⟨g, j, none⟩ = false := by
  obtain ⟨cs, h1, _⟩ := h
  exact blk_frozen h1 j
theorem Ib.put {g n : Nat} {w : World} (h : Ib g n w) (j : Nat) (v : Value) : Ib g n (w.setCell ⟨g, j, none⟩ v) := by
  obtain ⟨cs, h1, h2⟩ := h
  exact ⟨_, blk_put h1 j v rfl, by simpa using h2⟩
theorem Ib.step {g n : Nat} {w w' : World} (h : Ib g n w) (hb : Below w.heap.size w w') : Ib g n w' := by
  obtain ⟨cs, h1, h2⟩ := h
  exact ⟨cs, blk_below h1 hb, h2⟩
theorem Ib.of {w : World} {base : Nat} {A : Option Addr} {n c : Nat} {xs : List Int} (h : kI.R 3 w base (fun _ => True) (.slice A n c) xs) (hn : xs.length = n) (h0 : 0 < n) : ∃ g, A = some ⟨g, 0, none⟩ ∧ base ≤ g ∧ Ib g n w := by
  obtain ⟨g, cap, e, hb, _, cs, hc⟩ := Kd.R_form h (by omega)
  injection e with e1 e2 e3
  subst e1
  refine ⟨g, rfl, hb, cs, hc, ?_⟩
  have hC := (Kd.R_reads' h).2.2
  have := C_scalar (h1 := fun _ => rfl) hC 0 (n - 1) (by omega)
  rw [Nat.zero_add, blk_cell hc] at this
  have h2 := (Array.getElem?_eq_some_iff.1 this).1
  omega
end Go.Proofs.YtbogcknkkbnfnaaDoor

/- Class, of both sides. Printed by mknm.py. -/
namespace Go.Proofs.YtbogcknkkbnfnaaDoor
open Go.RowKit Go.Proofs.YtbogcknkkbnfnaaDoorW.PrintWords Go.Maps Go.WideMaps

set_option maxRecDepth 100000 in
set_option maxHeartbeats 4000000 in
theorem sClass_in {B p : Nat} {L : List Cl} {w : World} (h : IsSet B p L w) {i : Nat} (h8 : 8 ≤ i) (hi : i < L.length) : Calls Tryd.prog 22 #[.pointer (some ⟨p, 0, none⟩), .int .i64 i] w fun r w' => ∃ A c, r = .returned (.tuple #[.agg #[.slice (L.getD i zCl).pool.a (L.getD i zCl).pool.n (L.getD i zCl).pool.c, .string (L.getD i zCl).name, .string (L.getD i zCl).super, .bool (L.getD i zCl).face, .slice A (L.getD i zCl).faces.length c, .slice (L.getD i zCl).fields.a (L.getD i zCl).fields.n (L.getD i zCl).fields.c, .slice (L.getD i zCl).methods.a (L.getD i zCl).methods.n (L.getD i zCl).methods.c], .bool true]) ∧ Kd.string.R 9 w' w.heap.size (fun _ => True) (.slice A (L.getD i zCl).faces.length c) (L.getD i zCl).faces ∧ Below w.heap.size w w' := by
  have HA := hid (below_alloc (Below.refl w.heap.size w) (.cells #[.slice none 0 0, .string ⟨#[]⟩, .string ⟨#[]⟩, .bool false, .slice none 0 0, .slice none 0 0, .slice none 0 0] 57))
  have HH := hid (hasIn (h.step HA.out) hi)
  have k0 := blk_new w (.cells #[.slice none 0 0, .string ⟨#[]⟩, .string ⟨#[]⟩, .bool false, .slice none 0 0, .slice none 0 0, .slice none 0 0] 57)
  obtain ⟨g, cap, m, gs, cs, gf, cf, ga, ca, hV, _⟩ := (h.step HA.out).sv
  have hn := hV.big
  have a0 := blk_cell hV.blk 0
  obtain ⟨e, hE, c0, c1, c2, c3, c4, c5, c6⟩ := el_at hV.row i hi
  have hok := h.ok _ (getD_mem hi)
  have li : (i : Int) < L.length := by omega
  have HE := hid hE
  have HCO := hid (copied_any e (L.getD i zCl) _ hE (by have := hok.2.2.1; omega))
  generalize hx : L.getD i zCl = x at *
  clear hV hE hok h hx
  generalize L.length = N at *
  go_enter Tryd.func22, Tryd.ntmps22
  go_upto_region 1 with fail
  have K0 := hid k0
  have hsz : (w.alloc (.cells #[.slice none 0 0, .string ⟨#[]⟩, .string ⟨#[]⟩, .bool false, .slice none 0 0, .slice none 0 0, .slice none 0 0] 57)).heap.size = w.heap.size + 1 := World.size_alloc _ _
  clear k0
  generalize w.alloc (.cells #[.slice none 0 0, .string ⟨#[]⟩, .string ⟨#[]⟩, .bool false, .slice none 0 0, .slice none 0 0, .slice none 0 0] 57) = wA at *
  go_wp2_with (first
    | (go_at_call 64; refine HH.out.mono ?_; rintro e' w' ⟨rfl, hw⟩; obtain rfl := hw.symm)
    | (go_at_call 65; refine HCO.out.mono ?_; rintro e' w3 ⟨A3, c3, rfl, hR3, hB3⟩; have HR3 := hid hR3; have HB3 := hid (below_weaken HA.out HA.out.size hB3); have HBX := hid hB3; clear hR3 hB3; have K3 := hid (blk_below K0.out HBX.out); have d0 := blk_cell K3.out 0; have d1 := blk_cell K3.out 1; have d2 := blk_cell K3.out 2; have d3 := blk_cell K3.out 3; have d4 := blk_cell K3.out 4; have d5 := blk_cell K3.out 5; have d6 := blk_cell K3.out 6; have f0 := blk_frozen K3.out 0; have f1 := blk_frozen K3.out 1; have f2 := blk_frozen K3.out 2; have f3 := blk_frozen K3.out 3; have f4 := blk_frozen K3.out 4; have f5 := blk_frozen K3.out 5; have f6 := blk_frozen K3.out 6))
  refine bodyPost_ret (results_list (rs := [.cell 4 57, .tmp 5]) rfl (by simp) (.cell w.heap.size 57 #[.slice e.p.a e.p.n e.p.c, .string e.n, .string e.s, .bool e.b, .slice A3 x.faces.length c3, .slice e.l.a e.l.n e.l.c, .slice e.m.a e.m.n e.m.c] (0, 0) _ rfl (blk_put (blk_put (blk_put (blk_put (blk_put (blk_put (blk_put K3.out 0 _ rfl) 1 _ rfl) 2 _ rfl) 3 _ rfl) 4 _ rfl) 5 _ rfl) 6 _ rfl) Tryd.underlying57 rfl (by kernel_rfl) (.tmp .nil))) rfl ?_
  refine ⟨A3, c3, by rw [HE.out.p, HE.out.n, HE.out.s, HE.out.b, HE.out.l, HE.out.m]; rfl, Kd.R_lower (R_old (R_old (R_old (R_old (R_old (R_old (R_old HR3.out (by show w.heap.size < _; omega) _) (by show w.heap.size < _; omega) _) (by show w.heap.size < _; omega) _) (by show w.heap.size < _; omega) _) (by show w.heap.size < _; omega) _) (by show w.heap.size < _; omega) _) (by show w.heap.size < _; omega) _) (by omega), (((((((HB3.out.setCell (Nat.le_refl _) _).setCell (Nat.le_refl _) _).setCell (Nat.le_refl _) _).setCell (Nat.le_refl _) _).setCell (Nat.le_refl _) _).setCell (Nat.le_refl _) _).setCell (Nat.le_refl _) _)⟩
set_option maxRecDepth 100000 in
set_option maxHeartbeats 4000000 in
theorem sClass_out {B p : Nat} {L : List Cl} {w : World} (h : IsSet B p L w) {i : Int} (hi : ¬ (8 ≤ i ∧ i < L.length)) : Calls Tryd.prog 22 #[.pointer (some ⟨p, 0, none⟩), .int .i64 i] w fun r w' => r = .returned (.tuple #[.agg #[.slice none 0 0, .string ⟨#[]⟩, .string ⟨#[]⟩, .bool false, .slice none 0 0, .slice none 0 0, .slice none 0 0], .bool false]) ∧ Below w.heap.size w w' := by
  have HA := hid (below_alloc (Below.refl w.heap.size w) (.cells #[.slice none 0 0, .string ⟨#[]⟩, .string ⟨#[]⟩, .bool false, .slice none 0 0, .slice none 0 0, .slice none 0 0] 57))
  have k0 := blk_new w (.cells #[.slice none 0 0, .string ⟨#[]⟩, .string ⟨#[]⟩, .bool false, .slice none 0 0, .slice none 0 0, .slice none 0 0] 57)
  by_cases h8 : i < 8
  · clear h hi
    go_enter Tryd.func22, Tryd.ntmps22
    go_upto_region 1 with fail
    have K0 := hid k0
    clear k0
    generalize w.alloc (.cells #[.slice none 0 0, .string ⟨#[]⟩, .string ⟨#[]⟩, .bool false, .slice none 0 0, .slice none 0 0, .slice none 0 0] 57) = wA at *
    have d0 := blk_cell K0.out 0
    have d1 := blk_cell K0.out 1
    have d2 := blk_cell K0.out 2
    have d3 := blk_cell K0.out 3
    have d4 := blk_cell K0.out 4
    have d5 := blk_cell K0.out 5
    have d6 := blk_cell K0.out 6
    have f0 := blk_frozen K0.out 0
    have f1 := blk_frozen K0.out 1
    have f2 := blk_frozen K0.out 2
    have f3 := blk_frozen K0.out 3
    have f4 := blk_frozen K0.out 4
    have f5 := blk_frozen K0.out 5
    have f6 := blk_frozen K0.out 6
    go_wp2_with fail
    refine bodyPost_ret (results_list (rs := [.cell 4 57, .tmp 5]) rfl (by simp) (.cell w.heap.size 57 #[.slice none 0 0, .string ⟨#[]⟩, .string ⟨#[]⟩, .bool false, .slice none 0 0, .slice none 0 0, .slice none 0 0] (0, 0) _ rfl (blk_put (blk_put (blk_put (blk_put (blk_put (blk_put (blk_put K0.out 0 _ rfl) 1 _ rfl) 2 _ rfl) 3 _ rfl) 4 _ rfl) 5 _ rfl) 6 _ rfl) Tryd.underlying57 rfl (by kernel_rfl) (.tmp .nil))) rfl ?_
    exact ⟨rfl, (((((((HA.out.setCell (Nat.le_refl _) _).setCell (Nat.le_refl _) _).setCell (Nat.le_refl _) _).setCell (Nat.le_refl _) _).setCell (Nat.le_refl _) _).setCell (Nat.le_refl _) _).setCell (Nat.le_refl _) _)⟩
  · have HH := hid (hasOut (h.step HA.out) (i := i) (fun hh => hi ⟨by omega, hh.2⟩))
    clear h hi
    go_enter Tryd.func22, Tryd.ntmps22
    go_upto_region 1 with fail
    have K0 := hid k0
    clear k0
    generalize w.alloc (.cells #[.slice none 0 0, .string ⟨#[]⟩, .string ⟨#[]⟩, .bool false, .slice none 0 0, .slice none 0 0, .slice none 0 0] 57) = wA at *
    have d0 := blk_cell K0.out 0
    have d1 := blk_cell K0.out 1
    have d2 := blk_cell K0.out 2
    have d3 := blk_cell K0.out 3
    have d4 := blk_cell K0.out 4
    have d5 := blk_cell K0.out 5
    have d6 := blk_cell K0.out 6
    have f0 := blk_frozen K0.out 0
    have f1 := blk_frozen K0.out 1
    have f2 := blk_frozen K0.out 2
    have f3 := blk_frozen K0.out 3
    have f4 := blk_frozen K0.out 4
    have f5 := blk_frozen K0.out 5
    have f6 := blk_frozen K0.out 6
    go_wp2_with (go_at_call 64; refine HH.out.mono ?_; rintro e' w' ⟨rfl, hw⟩; obtain rfl := hw.symm)
    refine bodyPost_ret (results_list (rs := [.cell 4 57, .tmp 5]) rfl (by simp) (.cell w.heap.size 57 #[.slice none 0 0, .string ⟨#[]⟩, .string ⟨#[]⟩, .bool false, .slice none 0 0, .slice none 0 0, .slice none 0 0] (0, 0) _ rfl (blk_put (blk_put (blk_put (blk_put (blk_put (blk_put (blk_put K0.out 0 _ rfl) 1 _ rfl) 2 _ rfl) 3 _ rfl) 4 _ rfl) 5 _ rfl) 6 _ rfl) Tryd.underlying57 rfl (by kernel_rfl) (.tmp .nil))) rfl ?_
    exact ⟨rfl, (((((((HA.out.setCell (Nat.le_refl _) _).setCell (Nat.le_refl _) _).setCell (Nat.le_refl _) _).setCell (Nat.le_refl _) _).setCell (Nat.le_refl _) _).setCell (Nat.le_refl _) _).setCell (Nat.le_refl _) _)⟩
set_option maxRecDepth 100000 in
set_option maxHeartbeats 4000000 in
theorem rClass_in {p g c : Nat} {r : List Cl} {w : World} (h : MV p g c r w) {i : Nat} (h8 : 8 ≤ i) (hi : i < (refB ++ r).length) : Calls Tryd.prog 90 #[.pointer (some ⟨p, 0, none⟩), .int .i64 i] w fun q w' => ∃ e : El, e.n = ((builtL ++ r).getD i zCl).name ∧ e.s = ((builtL ++ r).getD i zCl).super ∧ q = .returned (.tuple #[.agg #[.slice e.p.a e.p.n e.p.c, .string e.n, .string e.s, .bool e.b, .slice e.f.a e.f.n e.f.c, .slice e.l.a e.l.n e.l.c, .slice e.m.a e.m.n e.m.c], .bool true]) ∧ Below w.heap.size w w' := by
  have HA := hid (below_alloc (Below.refl w.heap.size w) (.cells #[.slice none 0 0, .string ⟨#[]⟩, .string ⟨#[]⟩, .bool false, .slice none 0 0, .slice none 0 0, .slice none 0 0] 57))
  have HH := hid (rHas_any (h.step HA.out) i true (inR hi))
  have k0 := blk_new w (.cells #[.slice none 0 0, .string ⟨#[]⟩, .string ⟨#[]⟩, .bool false, .slice none 0 0, .slice none 0 0, .slice none 0 0] 57)
  have hn := h.big
  have a0 := blk_cell (h.step HA.out).blk 0
  obtain ⟨e, hE, c0, c1, c2, c3, c4, c5, c6⟩ := el_at (h.step HA.out).row i hi
  have li : (i : Int) < (refB ++ r).length := by omega
  have HN := hid (show e.n = ((builtL ++ r).getD i zCl).name by rw [hE.n, ref_at r (by omega)])
  have HS := hid (show e.s = ((builtL ++ r).getD i zCl).super by rw [hE.s, ref_at r (by omega)])
  clear h hE
  generalize (refB ++ r).length = N at *
  go_enter Tryd.func90, Tryd.ntmps90
  go_upto_region 1 with fail
  have K0 := hid k0
  clear k0
  generalize w.alloc (.cells #[.slice none 0 0, .string ⟨#[]⟩, .string ⟨#[]⟩, .bool false, .slice none 0 0, .slice none 0 0, .slice none 0 0] 57) = wA at *
  have d0 := blk_cell K0.out 0
  have d1 := blk_cell K0.out 1
  have d2 := blk_cell K0.out 2
  have d3 := blk_cell K0.out 3
  have d4 := blk_cell K0.out 4
  have d5 := blk_cell K0.out 5
  have d6 := blk_cell K0.out 6
  have f0 := blk_frozen K0.out 0
  have f1 := blk_frozen K0.out 1
  have f2 := blk_frozen K0.out 2
  have f3 := blk_frozen K0.out 3
  have f4 := blk_frozen K0.out 4
  have f5 := blk_frozen K0.out 5
  have f6 := blk_frozen K0.out 6
  go_wp2_with (go_at_call 129; refine HH.out.mono ?_; rintro e' w' ⟨rfl, hw⟩; obtain rfl := hw.symm)
  refine bodyPost_ret (results_list (rs := [.cell 4 57, .tmp 5]) rfl (by simp) (.cell w.heap.size 57 #[.slice e.p.a e.p.n e.p.c, .string e.n, .string e.s, .bool e.b, .slice e.f.a e.f.n e.f.c, .slice e.l.a e.l.n e.l.c, .slice e.m.a e.m.n e.m.c] (0, 0) _ rfl (blk_put (blk_put (blk_put (blk_put (blk_put (blk_put (blk_put K0.out 0 _ rfl) 1 _ rfl) 2 _ rfl) 3 _ rfl) 4 _ rfl) 5 _ rfl) 6 _ rfl) Tryd.underlying57 rfl (by kernel_rfl) (.tmp .nil))) rfl ?_
  exact ⟨e, HN.out, HS.out, rfl, (((((((HA.out.setCell (Nat.le_refl _) _).setCell (Nat.le_refl _) _).setCell (Nat.le_refl _) _).setCell (Nat.le_refl _) _).setCell (Nat.le_refl _) _).setCell (Nat.le_refl _) _).setCell (Nat.le_refl _) _)⟩
set_option maxRecDepth 100000 in
set_option maxHeartbeats 4000000 in
theorem rClass_out {p g c : Nat} {r : List Cl} {w : World} (h : MV p g c r w) {i : Int} (hi : ¬ (8 ≤ i ∧ i < (refB ++ r).length)) : Calls Tryd.prog 90 #[.pointer (some ⟨p, 0, none⟩), .int .i64 i] w fun q w' => q = .returned (.tuple #[.agg #[.slice none 0 0, .string ⟨#[]⟩, .string ⟨#[]⟩, .bool false, .slice none 0 0, .slice none 0 0, .slice none 0 0], .bool false]) ∧ Below w.heap.size w w' := by
  have HA := hid (below_alloc (Below.refl w.heap.size w) (.cells #[.slice none 0 0, .string ⟨#[]⟩, .string ⟨#[]⟩, .bool false, .slice none 0 0, .slice none 0 0, .slice none 0 0] 57))
  have k0 := blk_new w (.cells #[.slice none 0 0, .string ⟨#[]⟩, .string ⟨#[]⟩, .bool false, .slice none 0 0, .slice none 0 0, .slice none 0 0] 57)
  by_cases h8 : i < 8
  · clear h hi
    go_enter Tryd.func90, Tryd.ntmps90
    go_upto_region 1 with fail
    have K0 := hid k0
    clear k0
    generalize w.alloc (.cells #[.slice none 0 0, .string ⟨#[]⟩, .string ⟨#[]⟩, .bool false, .slice none 0 0, .slice none 0 0, .slice none 0 0] 57) = wA at *
    have d0 := blk_cell K0.out 0
    have d1 := blk_cell K0.out 1
    have d2 := blk_cell K0.out 2
    have d3 := blk_cell K0.out 3
    have d4 := blk_cell K0.out 4
    have d5 := blk_cell K0.out 5
    have d6 := blk_cell K0.out 6
    have f0 := blk_frozen K0.out 0
    have f1 := blk_frozen K0.out 1
    have f2 := blk_frozen K0.out 2
    have f3 := blk_frozen K0.out 3
    have f4 := blk_frozen K0.out 4
    have f5 := blk_frozen K0.out 5
    have f6 := blk_frozen K0.out 6
    go_wp2_with fail
    refine bodyPost_ret (results_list (rs := [.cell 4 57, .tmp 5]) rfl (by simp) (.cell w.heap.size 57 #[.slice none 0 0, .string ⟨#[]⟩, .string ⟨#[]⟩, .bool false, .slice none 0 0, .slice none 0 0, .slice none 0 0] (0, 0) _ rfl (blk_put (blk_put (blk_put (blk_put (blk_put (blk_put (blk_put K0.out 0 _ rfl) 1 _ rfl) 2 _ rfl) 3 _ rfl) 4 _ rfl) 5 _ rfl) 6 _ rfl) Tryd.underlying57 rfl (by kernel_rfl) (.tmp .nil))) rfl ?_
    exact ⟨rfl, (((((((HA.out.setCell (Nat.le_refl _) _).setCell (Nat.le_refl _) _).setCell (Nat.le_refl _) _).setCell (Nat.le_refl _) _).setCell (Nat.le_refl _) _).setCell (Nat.le_refl _) _).setCell (Nat.le_refl _) _)⟩
  · have HH := hid (rHas_any (h.step HA.out) i false (decide_eq_false (fun hh => hi ⟨by omega, hh.2⟩)))
    clear h hi
    go_enter Tryd.func90, Tryd.ntmps90
    go_upto_region 1 with fail
    have K0 := hid k0
    clear k0
    generalize w.alloc (.cells #[.slice none 0 0, .string ⟨#[]⟩, .string ⟨#[]⟩, .bool false, .slice none 0 0, .slice none 0 0, .slice none 0 0] 57) = wA at *
    have d0 := blk_cell K0.out 0
    have d1 := blk_cell K0.out 1
    have d2 := blk_cell K0.out 2
    have d3 := blk_cell K0.out 3
    have d4 := blk_cell K0.out 4
    have d5 := blk_cell K0.out 5
    have d6 := blk_cell K0.out 6
    have f0 := blk_frozen K0.out 0
    have f1 := blk_frozen K0.out 1
    have f2 := blk_frozen K0.out 2
    have f3 := blk_frozen K0.out 3
    have f4 := blk_frozen K0.out 4
    have f5 := blk_frozen K0.out 5
    have f6 := blk_frozen K0.out 6
    go_wp2_with (go_at_call 129; refine HH.out.mono ?_; rintro e' w' ⟨rfl, hw⟩; obtain rfl := hw.symm)
    refine bodyPost_ret (results_list (rs := [.cell 4 57, .tmp 5]) rfl (by simp) (.cell w.heap.size 57 #[.slice none 0 0, .string ⟨#[]⟩, .string ⟨#[]⟩, .bool false, .slice none 0 0, .slice none 0 0, .slice none 0 0] (0, 0) _ rfl (blk_put (blk_put (blk_put (blk_put (blk_put (blk_put (blk_put K0.out 0 _ rfl) 1 _ rfl) 2 _ rfl) 3 _ rfl) 4 _ rfl) 5 _ rfl) 6 _ rfl) Tryd.underlying57 rfl (by kernel_rfl) (.tmp .nil))) rfl ?_
    exact ⟨rfl, (((((((HA.out.setCell (Nat.le_refl _) _).setCell (Nat.le_refl _) _).setCell (Nat.le_refl _) _).setCell (Nat.le_refl _) _).setCell (Nat.le_refl _) _).setCell (Nat.le_refl _) _).setCell (Nat.le_refl _) _)⟩
end Go.Proofs.YtbogcknkkbnfnaaDoor

/- Both sides' answers at any number: Name, Super, Interfaces, IsInterface, Class, Number. -/
namespace Go.Proofs.YtbogcknkkbnfnaaDoor
open Go.RowKit Go.Proofs.YtbogcknkkbnfnaaDoorW.PrintWords Go.Maps Go.WideMaps

section
variable {B p : Nat} {L : List Cl} {w : World}
set_option maxRecDepth 100000 in
set_option maxHeartbeats 4000000 in
theorem is_in (h : IsSet B p L w) {i : Nat} (hi : i < L.length) : Calls Tryd.prog 25 #[.pointer (some ⟨p, 0, none⟩), .int .i64 i] w fun e w' => e = .returned (.bool (L.getD i zCl).face) ∧ w' = w := by
  have HH := hid (hasIn h hi)
  obtain ⟨g, cap, m, gs, cs, gf, cf, ga, ca, hV, hA⟩ := h.sv
  have hn := hV.big
  have c0 := blk_cell hV.blk 0
  have d1 := hV.faceBit i hi
  have li : (i : Int) < L.length := by omega
  clear h hV hA
  generalize (L.getD i zCl).face = b at *
  generalize L.length = N at *
  go_enter Tryd.func25, Tryd.ntmps25
  go_wp2_with (go_at_call 64; refine HH.out.mono ?_; rintro e w' ⟨rfl, rfl⟩)
  go_ret
  exact ⟨rfl, rfl⟩
set_option maxRecDepth 100000 in
set_option maxHeartbeats 4000000 in
theorem is_out (h : IsSet B p L w) {i : Int} (hi : ¬ (0 ≤ i ∧ i < L.length)) : Calls Tryd.prog 25 #[.pointer (some ⟨p, 0, none⟩), .int .i64 i] w fun e w' => e = .returned (.bool false) ∧ w' = w := by
  have HH := hid (hasOut h hi)
  clear h hi
  go_enter Tryd.func25, Tryd.ntmps25
  go_wp2_with (go_at_call 64; refine HH.out.mono ?_; rintro e w' ⟨rfl, rfl⟩)
  go_ret
  exact ⟨rfl, rfl⟩
end
def nmZ (N : Nat) (L : List Cl) (x : Int) : ByteArray := if 0 ≤ x ∧ x < N then (L.getD x.toNat zCl).name else ⟨#[]⟩
def suZ (N : Nat) (S : List Int) (x : Int) : Int := if 0 ≤ x ∧ x < N then supF S x.toNat else -1
def ifZ (N : Nat) (F : List (List Int)) (x : Int) : List Int := if 0 ≤ x ∧ x < N then F.getD x.toNat [] else []
def isZ (N : Nat) (L : List Cl) (x : Int) : Bool := if 0 ≤ x ∧ x < N then (L.getD x.toNat zCl).face else false
def c1Z (N : Nat) (L : List Cl) (x : Int) : ByteArray := if 8 ≤ x ∧ x < N then (L.getD x.toNat zCl).name else ⟨#[]⟩
def c2Z (N : Nat) (L : List Cl) (x : Int) : ByteArray := if 8 ≤ x ∧ x < N then (L.getD x.toNat zCl).super else ⟨#[]⟩
def c3Z (N : Nat) (x : Int) : Bool := decide (8 ≤ x ∧ x < N)
/-- What Class answers. -/
def ClPost (n s : ByteArray) (b : Bool) (w : World) (q : Ending) (w' : World) : Prop :=
  ∃ e : El, e.n = n ∧ e.s = s ∧ q = .returned (.tuple #[.agg #[.slice e.p.a e.p.n e.p.c, .string e.n, .string e.s, .bool e.b, .slice e.f.a e.f.n e.f.c, .slice e.l.a e.l.n e.l.c, .slice e.m.a e.m.n e.m.c], .bool b]) ∧ Below w.heap.size w w'
section
variable {B p N : Nat} {L L1 : List Cl} {S : List Int} {F : List (List Int)} {w : World}
theorem sNameZ (h : PV B p N L1 S F w) (hE : L1 = L.map headOf) (x : Int) : Calls Tryd.prog 37 #[.pointer (some ⟨p, 0, none⟩), .int .i64 x] w fun e w' => e = .returned (.string (nmZ N L x)) ∧ w' = w := by
  by_cases hx : 0 ≤ x ∧ x < N
  · obtain ⟨i, rfl⟩ := Int.eq_ofNat_of_zero_le hx.1
    have := name_in h.st (i := i) (by rw [h.hN]; omega)
    rw [hE, headsD] at this
    unfold nmZ
    rw [if_pos hx]
    exact this
  · have := name_out h.st (i := x) (by rw [h.hN]; exact hx)
    unfold nmZ
    rw [if_neg hx]
    exact this
theorem sSuperZ (h : PV B p N L1 S F w) (x : Int) : Calls Tryd.prog 24 #[.pointer (some ⟨p, 0, none⟩), .int .i64 x] w fun e w' => e = .returned (.int .i64 (suZ N S x)) ∧ w' = w := by
  by_cases hx : 0 ≤ x ∧ x < N
  · obtain ⟨i, rfl⟩ := Int.eq_ofNat_of_zero_le hx.1
    have := super_in h.st (i := i) (by rw [h.hN]; omega)
    rw [h.hS] at this
    unfold suZ
    rw [if_pos hx]
    exact this
  · have := super_out h.st (i := x) (by rw [h.hN]; exact hx)
    unfold suZ
    rw [if_neg hx]
    exact this
theorem sIfacesZ (h : PV B p N L1 S F w) (x : Int) : Calls Tryd.prog 36 #[.pointer (some ⟨p, 0, none⟩), .int .i64 x] w fun e w' => ∃ A c, e = .returned (.slice A (ifZ N F x).length c) ∧ kI.C w' A (ifZ N F x).length (ifZ N F x) ∧ Below w.heap.size w w' := by
  by_cases hx : 0 ≤ x ∧ x < N
  · obtain ⟨i, rfl⟩ := Int.eq_ofNat_of_zero_le hx.1
    have e : ifZ N F i = F.getD i [] := by unfold ifZ; rw [if_pos hx, Int.toNat_natCast]
    rw [e]
    have := ifaces_in h.st (i := i) (by rw [h.hN]; omega)
    rw [h.hF] at this
    refine this.mono ?_
    rintro e' w' ⟨v, rfl, hR, hB⟩
    obtain ⟨A', c', rfl⟩ := Kd.R_slice hR
    exact ⟨A', c', rfl, (Kd.R_reads' hR).2.2, hB⟩
  · have e : ifZ N F x = [] := by unfold ifZ; rw [if_neg hx]
    rw [e]
    refine (ifaces_out h.st (by rw [h.hN]; exact hx)).mono ?_
    rintro e' w' ⟨rfl, rfl⟩
    exact ⟨none, 0, rfl, (Kd.R_reads' (Kd.R_nil kI 3 w' w'.heap.size (fun _ => True))).2.2, Below.refl _ _⟩
theorem sIsZ (h : PV B p N L1 S F w) (hE : L1 = L.map headOf) (x : Int) : Calls Tryd.prog 25 #[.pointer (some ⟨p, 0, none⟩), .int .i64 x] w fun e w' => e = .returned (.bool (isZ N L x)) ∧ w' = w := by
  by_cases hx : 0 ≤ x ∧ x < N
  · obtain ⟨i, rfl⟩ := Int.eq_ofNat_of_zero_le hx.1
    have := is_in h.st (i := i) (by rw [h.hN]; omega)
    rw [hE, headsD] at this
    unfold isZ
    rw [if_pos hx]
    exact this
  · have := is_out h.st (i := x) (by rw [h.hN]; exact hx)
    unfold isZ
    rw [if_neg hx]
    exact this
theorem sClassZ (h : PV B p N L1 S F w) (hE : L1 = L.map headOf) (x : Int) : Calls Tryd.prog 22 #[.pointer (some ⟨p, 0, none⟩), .int .i64 x] w (ClPost (c1Z N L x) (c2Z N L x) (c3Z N x) w) := by
  by_cases hx : 8 ≤ x ∧ x < N
  · obtain ⟨i, rfl⟩ := Int.eq_ofNat_of_zero_le (show 0 ≤ x by omega)
    have := sClass_in h.st (i := i) (by omega) (by rw [h.hN]; omega)
    rw [hE, headsD] at this
    unfold c1Z c2Z c3Z
    rw [if_pos hx, if_pos hx, decide_eq_true hx]
    refine this.mono ?_
    rintro e' w' ⟨A, c, rfl, _, hB⟩
    exact ⟨⟨(headOf (L.getD i zCl)).pool, (headOf (L.getD i zCl)).name, (headOf (L.getD i zCl)).super, (headOf (L.getD i zCl)).face, ⟨A, _, c⟩, (headOf (L.getD i zCl)).fields, (headOf (L.getD i zCl)).methods⟩, rfl, rfl, rfl, hB⟩
  · have := sClass_out h.st (i := x) (by rw [h.hN]; exact hx)
    unfold c1Z c2Z c3Z
    rw [if_neg hx, if_neg hx, decide_eq_false hx]
    refine this.mono ?_
    rintro e' w' ⟨rfl, hB⟩
    exact ⟨zEl, rfl, rfl, rfl, hB⟩
end
section
variable {p g c N : Nat} {r : List Cl} {S : List Int} {F : List (List Int)} {w : World}
theorem gNameZ (h : GV p g c r N S F w) (x : Int) : Calls Tryd.prog 91 #[.pointer (some ⟨p, 0, none⟩), .int .i64 x] w fun e w' => e = .returned (.string (nmZ N (builtL ++ r) x)) ∧ w' = w := by
  by_cases hx : 0 ≤ x ∧ x < N
  · obtain ⟨i, rfl⟩ := Int.eq_ofNat_of_zero_le hx.1
    unfold nmZ
    rw [if_pos hx]
    exact rName_in h.mv (by rw [h.len.1]; omega)
  · unfold nmZ
    rw [if_neg hx]
    exact rName_out h.mv (by rw [h.len.1]; exact hx)
theorem gSuperZ (h : GV p g c r N S F w) (x : Int) : Calls Tryd.prog 92 #[.pointer (some ⟨p, 0, none⟩), .int .i64 x] w fun e w' => e = .returned (.int .i64 (suZ N S x)) ∧ Below w.heap.size w w' := by
  by_cases hx : 0 ≤ x ∧ x < N
  · obtain ⟨i, rfl⟩ := Int.eq_ofNat_of_zero_le hx.1
    unfold suZ
    rw [if_pos hx]
    exact gSuper h (by omega)
  · unfold suZ
    rw [if_neg hx]
    exact rSuper_out h.mv (by rw [h.len.1]; omega)
theorem gIfacesZ (h : GV p g c r N S F w) (x : Int) : Calls Tryd.prog 94 #[.pointer (some ⟨p, 0, none⟩), .int .i64 x] w fun e w' => ∃ A c, e = .returned (.slice A (ifZ N F x).length c) ∧ kI.C w' A (ifZ N F x).length (ifZ N F x) ∧ Below w.heap.size w w' := by
  by_cases hx : 0 ≤ x ∧ x < N
  · obtain ⟨i, rfl⟩ := Int.eq_ofNat_of_zero_le hx.1
    have e : ifZ N F i = F.getD i [] := by unfold ifZ; rw [if_pos hx, Int.toNat_natCast]
    rw [e]
    refine (gIfaces h (by omega)).mono ?_
    rintro e' w' ⟨A, c, rfl, hR, hB⟩
    exact ⟨A, c, rfl, (Kd.R_reads' hR).2.2, hB⟩
  · have e : ifZ N F x = [] := by unfold ifZ; rw [if_neg hx]
    rw [e]
    refine (rIfaces_out h.mv (by rw [h.len.1]; exact hx)).mono ?_
    rintro e' w' ⟨rfl, rfl⟩
    exact ⟨none, 0, rfl, (Kd.R_reads' (Kd.R_nil kI 3 w' w'.heap.size (fun _ => True))).2.2, Below.refl _ _⟩
theorem gIsZ (h : GV p g c r N S F w) (x : Int) : Calls Tryd.prog 95 #[.pointer (some ⟨p, 0, none⟩), .int .i64 x] w fun e w' => e = .returned (.bool (isZ N (builtL ++ r) x)) ∧ w' = w := by
  by_cases hx : 0 ≤ x ∧ x < N
  · obtain ⟨i, rfl⟩ := Int.eq_ofNat_of_zero_le hx.1
    unfold isZ
    rw [if_pos hx]
    exact rIs_in h.mv (by rw [h.len.1]; omega)
  · unfold isZ
    rw [if_neg hx]
    exact rIs_out h.mv (by rw [h.len.1]; exact hx)
theorem gClassZ (h : GV p g c r N S F w) (x : Int) : Calls Tryd.prog 90 #[.pointer (some ⟨p, 0, none⟩), .int .i64 x] w (ClPost (c1Z N (builtL ++ r) x) (c2Z N (builtL ++ r) x) (c3Z N x) w) := by
  by_cases hx : 8 ≤ x ∧ x < N
  · obtain ⟨i, rfl⟩ := Int.eq_ofNat_of_zero_le (show 0 ≤ x by omega)
    unfold c1Z c2Z c3Z
    rw [if_pos hx, if_pos hx, decide_eq_true hx]
    refine (rClass_in h.mv (i := i) (by omega) (by rw [h.len.1]; omega)).mono ?_
    rintro e' w' ⟨e, h1, h2, rfl, hB⟩
    exact ⟨e, h1, h2, rfl, hB⟩
  · unfold c1Z c2Z c3Z
    rw [if_neg hx, if_neg hx, decide_eq_false hx]
    refine (rClass_out h.mv (i := x) (by rw [h.len.1]; exact hx)).mono ?_
    rintro e' w' ⟨rfl, hB⟩
    exact ⟨zEl, rfl, rfl, rfl, hB⟩
end
end Go.Proofs.YtbogcknkkbnfnaaDoor

/- The heads that the law spoils. -/
namespace Go.Proofs.YtbogcknkkbnfnaaDoor
open Go.RowKit Go.Proofs.YtbogcknkkbnfnaaDoorW.PrintWords Go.Maps Go.WideMaps

/-- A row of texts that is written. -/
def Sb (q m : Nat) (w : World) : Prop := ∃ cs, w.heap[q]? = some (.cells cs 9 (0, 0)) ∧ m ≤ cs.size
theorem Sb.cell {q m : Nat} {w : World} (h : Sb q m w) {j : Nat} (hj : j < m) : ∃ v, w.cell? ⟨q, j, none⟩ = some v := by
  obtain ⟨cs, h1, h2⟩ := h
  rw [blk_cell h1 j]
  exact ⟨cs[j]'(by omega), Array.getElem?_eq_getElem _⟩
theorem Sb.froz {q m : Nat} {w : World} (h : Sb q m w) (j : Nat) : w.frozen? ⟨q, j, none⟩ = false := by
  obtain ⟨cs, h1, _⟩ := h
  exact blk_frozen h1 j
theorem Sb.put {q m : Nat} {w : World} (h : Sb q m w) (q' j : Nat) (v : Value) : Sb q m (w.setCell ⟨q', j, none⟩ v) := by
  obtain ⟨cs, h1, h2⟩ := h
  by_cases e : q' = q
  · subst e
    exact ⟨_, blk_put h1 j v rfl, by simpa using h2⟩
  · exact ⟨cs, blk_far h1 (fun e' => e e'.symm) _, h2⟩
theorem Sb.move {q m : Nat} {w w' : World} (h : Sb q m w) (hm : ∀ k, k < w.heap.size → w'.heap[k]? = w.heap[k]?) : Sb q m w' := by
  obtain ⟨cs, h1, h2⟩ := h
  exact ⟨cs, (hm q (blk_lt h1)).trans h1, h2⟩
/-- Class j of the heads, as it lies while they are spoilt. -/
def InC (S0 S1 : Nat) (x : Cl) (cs : Array Value) (j : Nat) (w : World) : Prop :=
  ∃ (A : Option Addr) (cf : Nat) (b : Bool), cs[j * 7 + 1]? = some (.string x.name) ∧ cs[j * 7 + 2]? = some (.string x.super) ∧ cs[j * 7 + 3]? = some (.bool b) ∧ cs[j * 7 + 4]? = some (.slice A x.faces.length cf) ∧
    (0 < x.faces.length → ∃ q, A = some ⟨q, 0, none⟩ ∧ S0 ≤ q ∧ q < S1 ∧ Sb q x.faces.length w)
/-- The heads, while they are spoilt. -/
structure Inn (S0 S1 g n : Nat) (l : List Cl) (w : World) : Prop where
  lo : S0 ≤ g
  hi : g < S1
  blk : ∃ cs, w.heap[g]? = some (.cells cs 57 (0, 0)) ∧ ∀ j, j < n → InC S0 S1 (l.getD j zCl) cs j w
section
variable {S0 S1 g n : Nat} {l : List Cl} {w w' : World}
theorem Inn.move (h : Inn S0 S1 g n l w) (hm : ∀ k, k < w.heap.size → w'.heap[k]? = w.heap[k]?) : Inn S0 S1 g n l w' := by
  obtain ⟨cs, h1, h2⟩ := h.blk
  refine ⟨h.lo, h.hi, cs, (hm g (blk_lt h1)).trans h1, fun j hj => ?_⟩
  obtain ⟨A, cf, b, c1, c2, c3, c4, c5⟩ := h2 j hj
  exact ⟨A, cf, b, c1, c2, c3, c4, fun h0 => by obtain ⟨q, e1, e2, e3, e4⟩ := c5 h0; exact ⟨q, e1, e2, e3, e4.move hm⟩⟩
theorem Inn.putB (h : Inn S0 S1 g n l w) (i : Nat) (b : Bool) : Inn S0 S1 g n l (w.setCell ⟨g, i * 7 + 3, none⟩ (.bool b)) := by
  obtain ⟨cs, h1, h2⟩ := h.blk
  refine ⟨h.lo, h.hi, _, blk_put h1 (i * 7 + 3) _ rfl, fun j hj => ?_⟩
  obtain ⟨A, cf, b', c1, c2, c3, c4, c5⟩ := h2 j hj
  have key : ∀ q, q ≠ i * 7 + 3 → (cs.setIfInBounds (i * 7 + 3) (.bool b))[q]? = cs[q]? := fun q hq => by
    rw [Array.getElem?_setIfInBounds]
    rw [if_neg (fun e => hq e.symm)]
  by_cases e : j = i
  · subst e
    refine ⟨A, cf, b, ?_, ?_, ?_, ?_, fun h0 => ?_⟩
    · rw [key _ (by omega)]; exact c1
    · rw [key _ (by omega)]; exact c2
    · rw [Array.getElem?_setIfInBounds, if_pos rfl]
      have := (Array.getElem?_eq_some_iff.1 c3).1
      rw [if_pos this]
    · rw [key _ (by omega)]; exact c4
    · obtain ⟨q, e1, e2, e3, e4⟩ := c5 h0
      exact ⟨q, e1, e2, e3, e4.put _ _ _⟩
  · refine ⟨A, cf, b', ?_, ?_, ?_, ?_, fun h0 => ?_⟩
    · rw [key _ (by omega)]; exact c1
    · rw [key _ (by omega)]; exact c2
    · rw [key _ (by omega)]; exact c3
    · rw [key _ (by omega)]; exact c4
    · obtain ⟨q, e1, e2, e3, e4⟩ := c5 h0
      exact ⟨q, e1, e2, e3, e4.put _ _ _⟩
theorem Inn.putS (h : Inn S0 S1 g n l w) {q m : Nat} (hq : Sb q m w) (j : Nat) (v : Value) : Inn S0 S1 g n l (w.setCell ⟨q, j, none⟩ v) := by
  obtain ⟨cs, h1, h2⟩ := h.blk
  obtain ⟨cq, k1, _⟩ := hq
  refine ⟨h.lo, h.hi, cs, blk_far h1 (blk_ne h1 k1 (by decide)) _, fun j hj => ?_⟩
  obtain ⟨A, cf, b', c1, c2, c3, c4, c5⟩ := h2 j hj
  exact ⟨A, cf, b', c1, c2, c3, c4, fun h0 => by obtain ⟨q, e1, e2, e3, e4⟩ := c5 h0; exact ⟨q, e1, e2, e3, e4.put _ _ _⟩⟩
end
/-- heads makes such a row. -/
theorem Inn.of {w : World} {S0 : Nat} {A : Option Addr} {n c : Nat} {l : List Cl} (h : kCl.R 57 w S0 (fun _ => True) (.slice A n c) (l.map headOf)) (hn : l.length = n) (h0 : 0 < n) : ∃ g, A = some ⟨g, 0, none⟩ ∧ Inn S0 w.heap.size g n l w := by
  have hl : (l.map headOf).length = n := by rw [List.length_map, hn]
  obtain ⟨g, cap, e, hb, hlt, cs, hc⟩ := Kd.R_form h (by omega)
  injection e with e1 e2 e3
  subst e1 e2
  refine ⟨g, rfl, hb, hlt, cs, hc, fun j hj => ?_⟩
  obtain ⟨cj, hcl, hM, hcell, _⟩ := Kd.R_elem h zCl (j : Int) (by omega) (by omega)
  rw [Int.toNat_natCast, show zCl = headOf zCl from rfl] at hM
  rw [Int.toNat_natCast] at hcell
  have hd : (l.map headOf).getD j (headOf zCl) = headOf (l.getD j zCl) := headsD l j
  rw [hd] at hM
  obtain ⟨_, _, rfl, rfl, _, _, rfl, rfl, _, _, rfl, rfl, _, _, rfl, rfl, _, _, rfl, ⟨v, rfl, hR⟩, _, _, rfl, rfl, rfl⟩ := hM
  obtain ⟨Av, cv, rfl⟩ := Kd.R_slice hR
  have key : ∀ q u, ([Value.slice (headOf (l.getD j zCl)).pool.a (headOf (l.getD j zCl)).pool.n (headOf (l.getD j zCl)).pool.c, .string (headOf (l.getD j zCl)).name, .string (headOf (l.getD j zCl)).super, .bool (headOf (l.getD j zCl)).face, .slice Av (headOf (l.getD j zCl)).faces.length cv, .slice (headOf (l.getD j zCl)).fields.a (headOf (l.getD j zCl)).fields.n (headOf (l.getD j zCl)).fields.c, .slice (headOf (l.getD j zCl)).methods.a (headOf (l.getD j zCl)).methods.n (headOf (l.getD j zCl)).methods.c] : List Value)[q]? = some u → cs[j * 7 + q]? = some u := fun q u hu => by
    have := hcell q u hu
    rw [blk_cell hc] at this
    exact this
  refine ⟨Av, cv, (l.getD j zCl).face, key 1 _ rfl, key 2 _ rfl, key 3 _ rfl, key 4 _ rfl, fun hf => ?_⟩
  obtain ⟨q, cq, e, hbq, hltq, cq', hcq⟩ := Kd.R_form hR hf
  injection e with e1 e2 e3
  subst e1
  refine ⟨q, rfl, hbq, hltq, cq', hcq, ?_⟩
  have hC := (Kd.R_reads' hR).2.2
  have := C_scalar (h1 := fun _ => rfl) hC ⟨#[]⟩ ((l.getD j zCl).faces.length - 1) (by show _ < (l.getD j zCl).faces.length; omega)
  rw [Nat.zero_add, blk_cell hcq] at this
  have h2 := (Array.getElem?_eq_some_iff.1 this).1
  omega
/-- What the spoiling leaves. -/
structure Spo (w w1 w3 wr : World) : Prop where
  below : Below w.heap.size w wr
  size : w3.heap.size ≤ wr.heap.size
  keep : ∀ k, w1.heap.size ≤ k → k < w3.heap.size → wr.heap[k]? = w3.heap[k]?
section
variable {w w1 w3 wr wr' : World}
theorem Spo.refl (h : Below w.heap.size w w3) : Spo w w1 w3 w3 := ⟨h, Nat.le_refl _, fun _ _ _ => rfl⟩
theorem Spo.step (h : Spo w w1 w3 wr) (hb : Below wr.heap.size wr wr') : Spo w w1 w3 wr' := by
  have hs := h.size
  exact ⟨below_weaken h.below h.below.size hb, Nat.le_trans hs hb.size, fun k h1 h2 => (hb.block k (by omega)).trans (h.keep k h1 h2)⟩
theorem Spo.put (h : Spo w w1 w3 wr) {b j : Nat} {v : Value} (h1 : w.heap.size ≤ b) (h2 : b < w1.heap.size) : Spo w w1 w3 (wr.setCell ⟨b, j, none⟩ v) :=
  ⟨h.below.setCell h1 _, by have := h.size; simpa [World.setCell] using this, fun k hk1 hk2 => (Below.heap_setCell wr ⟨b, j, none⟩ v k (by show k ≠ b; omega)).trans (h.keep k hk1 hk2)⟩
end
end Go.Proofs.YtbogcknkkbnfnaaDoor

