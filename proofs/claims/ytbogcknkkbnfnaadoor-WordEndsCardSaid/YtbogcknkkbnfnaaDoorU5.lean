/- Texts laid as one: Sb Sc Sf Sd. -/
import Derived.Test.YtbogcknkkbnfnaaDoorR7
import Derived.Test.YtbogcknkkbnfnaaDoorQp
import Derived.Test.YtbogcknkkbnfnaaDoorOf
import Derived.Test.YtbogcknkkbnfnaaDoorSa
import Derived.Test.YtbogcknkkbnfnaaDoorR4
import Derived.Test.YtbogcknkkbnfnaaDoorU2
import Derived.ChangeSame
import Derived.Test.YtbogcknkkbnfnaaDoorU4
import Derived.Deep.RegionHeld3
/- Of classes: what both News come to, in one; the sets of the laws on words. -/
namespace Go.Proofs.YtbogcknkkbnfnaaDoor
open Go.RowKit Go.Proofs.YtbogcknkkbnfnaaDoorW.PrintWords Go.Maps Go.WideMaps

theorem RSet.lower {wl : World} {B B' p : Nat} {r : List Cl} {w : World} (h : RSet wl B p r w) (hb : B' ≤ B) : RSet wl B' p r w := by
  obtain ⟨v, R, h1, h2, h3, h4⟩ := h.ex
  exact ⟨⟨v, R, h1, Kd.R_lower h2 hb, h3, h4⟩, by have := h.base; omega, h.big, h.ok⟩
theorem newD (A : Option Addr) (c n : Nat) (l : List Cl) (hn : l.length = n) (w : World) (hBi : Bi w) (hC : kCl.C w A n l) (hbig : n ≤ 9223372036854775807) (hok : ∀ x ∈ l, clOk x) :
    Calls Tryd.prog 41 #[.slice A n c] w fun e w' => Below w.heap.size w w' ∧ ((64 < n ∧ e = .returned (.tuple #[.pointer none, .string ⟨#[]⟩, .int .i64 5])) ∨ (¬ 64 < n ∧ ∃ r, Srtd r l ∧
      ((∃ s x, newErr (builtL ++ r) = some (s, x) ∧ e = .returned (.tuple #[.pointer none, .string s, .int .i64 x])) ∨ ∃ p, newErr (builtL ++ r) = none ∧ e = .returned (.tuple #[.pointer (some ⟨p, 0, none⟩), .string ⟨#[]⟩, .int .i64 0]) ∧ IsSet w.heap.size p (builtL ++ r) w'))) := by
  subst hn
  refine (new_any A c l w hBi hC hbig hok).mono ?_
  rintro e w' ⟨hB, h⟩
  refine ⟨hB, ?_⟩
  split at h
  · rename_i h64
    exact .inl ⟨h64, h⟩
  · rename_i h64
    obtain ⟨r, hs, h⟩ := h
    refine .inr ⟨h64, r, hs, ?_⟩
    split at h
    · rename_i s x he
      exact .inl ⟨s, x, he, h⟩
    · rename_i he
      obtain ⟨p, h1, h2⟩ := h
      exact .inr ⟨p, he, h1, h2⟩
section
variable {A : Option Addr} {c n : Nat} {l : List Cl} {wl w : World}
theorem refD_err (hn : l.length = n) (hC : kCl.C wl A n l) (hBl : Below wl.heap.size wl w) (hbig : n ≤ 9223372036854775807) (hok : ∀ x ∈ l, clOk x) (h64 : ¬ 64 < n) {r : List Cl} {s : ByteArray} {x : Int} (hs : Srtd r l) (he : newErr (builtL ++ r) = some (s, x)) :
    Calls Tryd.prog 47 #[.slice A n c] w fun e w' => e = .returned (.tuple #[.pointer none, .string s, .int .i64 x]) ∧ Below w.heap.size w w' := by
  subst hn
  refine (refNew_any A c l wl w hC hBl hbig hok).mono ?_
  rintro e w' ⟨hB, h⟩
  rw [if_neg h64] at h
  obtain ⟨r', hs', h⟩ := h
  rw [← (newErr_unique hs hs').1, he] at h
  exact ⟨h, hB⟩
theorem refD_ok (hn : l.length = n) (hC : kCl.C wl A n l) (hBl : Below wl.heap.size wl w) (hbig : n ≤ 9223372036854775807) (hok : ∀ x ∈ l, clOk x) (h64 : ¬ 64 < n) {r : List Cl} (hs : Srtd r l) (he : newErr (builtL ++ r) = none) :
    Calls Tryd.prog 47 #[.slice A n c] w fun e w' => ∃ p, e = .returned (.tuple #[.pointer (some ⟨p, 0, none⟩), .string ⟨#[]⟩, .int .i64 0]) ∧ RSet wl w.heap.size p r w' ∧ Below w.heap.size w w' := by
  subst hn
  refine (refNew_any A c l wl w hC hBl hbig hok).mono ?_
  rintro e w' ⟨hB, h⟩
  rw [if_neg h64] at h
  obtain ⟨r', hs', h⟩ := h
  obtain ⟨h1, h2⟩ := newErr_unique hs hs'
  obtain rfl := h2 (newErr_none he).1
  rw [he] at h
  obtain ⟨p, h3, h4⟩ := h
  exact ⟨p, h3, h4, hB⟩
end
/-- What sets answers. -/
def SetsPost (l : List Cl) (w : World) (e : Ending) (w' : World) : Prop :=
  Below w.heap.size w w' ∧ (((64 < l.length ∨ ∃ r s x, Srtd r l ∧ newErr (builtL ++ r) = some (s, x)) ∧ e = .returned (.tuple #[.pointer none, .pointer none])) ∨
    ∃ r p pm, Srtd r l ∧ newErr (builtL ++ r) = none ∧ l.length ≤ 64 ∧ e = .returned (.tuple #[.pointer (some ⟨p, 0, none⟩), .pointer (some ⟨pm, 0, none⟩)]) ∧ IsSet w.heap.size p (builtL ++ r) w' ∧ RSet w w.heap.size pm r w')
set_option maxRecDepth 100000 in
set_option maxHeartbeats 8000000 in
theorem sets_any (A : Option Addr) (c n : Nat) (l : List Cl) (hn : l.length = n) (w : World) (hBi : Bi w) (hC : kCl.C w A n l) (hbig : n ≤ 9223372036854775807) (hok : ∀ x ∈ l, clOk x) :
    Calls Tryd.prog 10 #[.slice A n c] w (SetsPost l w) := by
  have HN := hid (newD A c n l hn w hBi hC hbig hok)
  have HLN := hid hn
  have HC := hid hC
  have HOK := hid hok
  have HP := hid (show ∀ e w', Below w.heap.size w w' → (((64 < l.length ∨ ∃ r s x, Srtd r l ∧ newErr (builtL ++ r) = some (s, x)) ∧ e = .returned (.tuple #[.pointer none, .pointer none])) ∨
    ∃ r p pm, Srtd r l ∧ newErr (builtL ++ r) = none ∧ l.length ≤ 64 ∧ e = .returned (.tuple #[.pointer (some ⟨p, 0, none⟩), .pointer (some ⟨pm, 0, none⟩)]) ∧ IsSet w.heap.size p (builtL ++ r) w' ∧ RSet w w.heap.size pm r w') → SetsPost l w e w' from fun e w' h1 h2 => ⟨h1, h2⟩)
  clear hn hBi hC hok
  go_enter Tryd.func10, Tryd.ntmps10
  go_upto_region 2 with (go_at_call 41; refine HN.out.mono ?_; rintro e w1 ⟨hB1, hE⟩; have HB1 := hid hB1; clear hB1; rcases hE with ⟨h64, rfl⟩ | ⟨h64, r, hs, ⟨s, x, hne, rfl⟩ | ⟨p, hne, rfl, hS⟩⟩)
  · have HR := hid (refNew_5 (c := c) HLN.out HC.out HB1.out hbig HOK.out h64)
    have H64 := hid h64
    clear h64
    go_wp2_with (go_at_call 47; refine HR.out.mono ?_; rintro e w2 ⟨rfl, hB2⟩; have HB2 := hid (below_weaken HB1.out HB1.out.size hB2); clear hB2)
    go_ret2
    exact HP.out _ _ HB2.out (.inl ⟨.inl (by rw [HLN.out]; exact H64.out), rfl⟩)
  · have HR := hid (refD_err (c := c) HLN.out HC.out HB1.out hbig HOK.out h64 hs hne)
    have hx0 := newErr_ne hne
    have q1 : (x != 0) = true := by simp [hx0]
    have HE := hid hne
    have HSR := hid hs
    clear h64 hs hne hx0
    go_wp2_with (go_at_call 47; refine HR.out.mono ?_; rintro e w2 ⟨rfl, hB2⟩; have HB2 := hid (below_weaken HB1.out HB1.out.size hB2); clear hB2)
    go_ret2
    exact HP.out _ _ HB2.out (.inl ⟨.inr ⟨r, s, x, HSR.out, HE.out⟩, rfl⟩)
  · have HR := hid (refD_ok (c := c) HLN.out HC.out HB1.out hbig HOK.out h64 hs hne)
    have HE := hid hne
    have HSR := hid hs
    have HS := hid hS
    have H64 := hid h64
    clear h64 hs hne hS
    go_wp2_with (go_at_call 47; refine HR.out.mono ?_; rintro e w2 ⟨pm, rfl, hRS, hB2⟩; have HS2 := hid (HS.out.step hB2); have HRS := hid (hRS.lower HB1.out.size); have HB2 := hid (below_weaken HB1.out HB1.out.size hB2); clear hB2 hRS)
    go_ret2
    exact HP.out _ _ HB2.out (.inr ⟨r, p, pm, HSR.out, HE.out, by rw [HLN.out]; have := H64.out; omega, rfl, HS2.out, HRS.out⟩)
end Go.Proofs.YtbogcknkkbnfnaaDoor

/- The chapter's classes of the laws on words; closed values. -/
namespace Go.Proofs.YtbogcknkkbnfnaaDoor
open Go.RowKit Go.Proofs.YtbogcknkkbnfnaaDoorW.PrintWords Go.Maps Go.WideMaps

def sC : ByteArray := ⟨#[67]⟩
def wchF : Nat → Cl
  | 0 => ⟨zSl, sA, bn 0, false, [], zSl, zSl⟩
  | 1 => ⟨zSl, sB, sA, false, [sI], zSl, zSl⟩
  | 2 => ⟨zSl, sC, sA, false, [], zSl, zSl⟩
  | _ => ⟨zSl, sI, bn 0, true, [], zSl, zSl⟩
def wchL : List Cl := [⟨zSl, sA, bn 0, false, [], zSl, zSl⟩, ⟨zSl, sB, sA, false, [sI], zSl, zSl⟩, ⟨zSl, sC, sA, false, [], zSl, zSl⟩, ⟨zSl, sI, bn 0, true, [], zSl, zSl⟩]
theorem wch_srtd : Srtd wchL wchL := by
  refine ⟨.refl _, ?_⟩
  simp only [less_eq]
  show List.Pairwise (fun x y : Cl => lessD y.name x.name = false) [wchF 0, wchF 1, wchF 2, wchF 3]
  decide +kernel
theorem wch_nodup : (wchL.map (·.name)).Nodup := by decide +kernel
theorem wch_new : newErr (builtL ++ wchL) = none := by
  unfold newErr
  rw [show dupErr (builtL ++ wchL) = none by decide +kernel, show joinErr (builtL ++ wchL) = none by decide +kernel, show firstNo (builtL ++ wchL) (upFit (builtL ++ wchL) (supsL (builtL ++ wchL) (builtL ++ wchL).length)) = none by decide +kernel, show firstNo (builtL ++ wchL) (facesP (builtL ++ wchL) (facesL (builtL ++ wchL) (builtL ++ wchL).length)) = none by decide +kernel]
  have hl : (builtL ++ wchL).length = 12 := by decide +kernel
  rw [firstNo_none (L := builtL ++ wchL) (fun j hj => ringP_yes (no_ring (fun i => [0, 1, 2, 2, 2, 2, 2, 2, 1, 2, 2, 1].getD i 0) 12 (by decide +kernel) j (by rw [hl] at hj; exact hj)))]
theorem wch_only {r : List Cl} (h : Srtd r wchL) : r = wchL := srtd_unique (.refl _) wch_nodup h wch_srtd
theorem wch_ok : ∀ x ∈ wchL, clOk x := by
  intro x hx
  simp only [wchL, List.mem_cons, List.not_mem_nil, or_false] at hx
  rcases hx with rfl | rfl | rfl | rfl <;> (unfold clOk; decide +kernel)
abbrev wchCs (b : Nat) : List Value := [.slice none 0 0, .string ⟨#[65]⟩, .string ⟨#[79, 98, 106, 101, 99, 116]⟩, .bool false, .slice none 0 0, .slice none 0 0, .slice none 0 0, .slice none 0 0, .string ⟨#[66]⟩, .string ⟨#[65]⟩, .bool false, .slice (some ⟨b, 0, none⟩) 1 1, .slice none 0 0, .slice none 0 0, .slice none 0 0, .string ⟨#[67]⟩, .string ⟨#[65]⟩, .bool false, .slice none 0 0, .slice none 0 0, .slice none 0 0, .slice none 0 0, .string ⟨#[73]⟩, .string ⟨#[79, 98, 106, 101, 99, 116]⟩, .bool true, .slice none 0 0, .slice none 0 0, .slice none 0 0]
set_option maxRecDepth 100000 in
set_option maxHeartbeats 4000000 in
theorem wchapter_any (w : World) : Calls Tryd.prog 48 #[] w fun e w' => ∃ g, e = .returned (.slice (some ⟨g, 0, none⟩) 4 4) ∧ kCl.C w' (some ⟨g, 0, none⟩) 4 wchL ∧ Below w.heap.size w w' := by
  go_enter Tryd.func48, Tryd.ntmps48
  go_wp2
  go_ret
  have k1 := blk_alloc (blk_new w (.cells #[.string ⟨#[73]⟩] 9)) (.cells (wchCs w.heap.size).toArray 57)
  have k2 := blk_new (w.alloc (.cells #[.string ⟨#[73]⟩] 9)) (.cells (wchCs w.heap.size).toArray 57)
  simp only [World.size_alloc] at k2
  refine ⟨_, rfl, C_reps (xs := wchL) (cs := (wchCs w.heap.size)) k2 ⟨rfl, fun j p hp => ?_⟩ (by decide), below_alloc (below_alloc (Below.refl _ _) _) _⟩
  match j, hp with
  | 0, hp => cases hp; exact kCl_lit0 _ sA (bn 0) false
  | 1, hp => cases hp; exact kCl_litN _ sB sA false _ [sI] k1 (by decide)
  | 2, hp => cases hp; exact kCl_lit0 _ sC sA false
  | 3, hp => cases hp; exact kCl_lit0 _ sI (bn 0) true
  | j + 4, hp => cases hp
theorem wchNew (g : Nat) (w : World) (hBi : Bi w) (hC : kCl.C w (some ⟨g, 0, none⟩) 4 wchL) : Calls Tryd.prog 41 #[.slice (some ⟨g, 0, none⟩) 4 4] w fun e w' => ∃ p, e = .returned (.tuple #[.pointer (some ⟨p, 0, none⟩), .string ⟨#[]⟩, .int .i64 0]) ∧ IsSet w.heap.size p (builtL ++ wchL) w' ∧ Below w.heap.size w w' := by
  refine (new_any (some ⟨g, 0, none⟩) 4 wchL w hBi hC (by decide) wch_ok).mono ?_
  rintro e w' ⟨hB, h⟩
  rw [if_neg (by decide)] at h
  obtain ⟨r, hs, h⟩ := h
  rw [wch_only hs, wch_new] at h
  obtain ⟨p, he, hS⟩ := h
  exact ⟨p, he, hS, hB⟩
abbrev wS : List Cl := builtL ++ wchL
theorem wm1 : mrgW wS ⟨5, 3, sB⟩ ⟨5, 3, sC⟩ = ⟨5, 3, sA⟩ := wdEq_iff.1 (by decide +kernel)
theorem wm2 : mrgW wS ⟨5, 3, sB⟩ ⟨4, 0, ⟨#[]⟩⟩ = ⟨5, 3, sB⟩ := wdEq_iff.1 (by decide +kernel)
theorem wm3 : mrgW wS ⟨5, 3, sB⟩ ⟨5, 3, sI⟩ = ⟨5, 3, bn 0⟩ := wdEq_iff.1 (by decide +kernel)
theorem wm4 : mrgW wS ⟨5, 6, sB⟩ ⟨5, 6, sC⟩ = ⟨5, 6, sA⟩ := wdEq_iff.1 (by decide +kernel)
theorem wm5 : mrgW wS ⟨5, 6, sB⟩ ⟨5, 4, ⟨#[]⟩⟩ = ⟨5, 3, bn 0⟩ := wdEq_iff.1 (by decide +kernel)
theorem wm6 : mrgW wS ⟨1, 0, ⟨#[]⟩⟩ ⟨4, 0, ⟨#[]⟩⟩ = ⟨0, 0, ⟨#[]⟩⟩ := wdEq_iff.1 (by decide +kernel)
theorem wf1 : fitsW wS ⟨5, 3, sB⟩ 3 sI = true := by decide +kernel
theorem wf2 : fitsW wS ⟨5, 3, bn 0⟩ 3 sI = false := by decide +kernel
theorem wf3 : fitsW wS ⟨4, 0, ⟨#[]⟩⟩ 3 sI = true := by decide +kernel
end Go.Proofs.YtbogcknkkbnfnaaDoor

/- Listed variables, one of several; the type above all words lies in its block. -/
namespace Go.Proofs.YtbogcknkkbnfnaaDoor
open Go.ChangeShapes Go.WideShapes Go.ChangeAt Go.WideMaps Go.WideElems Go.RowKit Go.Proofs.YtbogcknkkbnfnaaDoor.Op Go.Proofs.YtbogcknkkbnfnaaDoorW.PrintWords

theorem vars_one {P : Program} {w : World} {x : String × DataW Unit} : ∀ (laid : List (String × DataW Unit)) (ps : List MemPlace), DataW.LaidVars P w laid ps → x ∈ laid → ∃ qs, DataW.LaidVars P w [x] qs ∧ qs.Sublist ps
  | [], _, _, hx => by cases hx
  | (n, d) :: r, ps, h, hx => by
    obtain ⟨g, t, cs, fuel, p, q, h1, h2, h3, h4, h5, rfl⟩ := h
    rcases List.mem_cons.1 hx with rfl | hx
    · exact ⟨MemPlace.row ⟨g, 0, none⟩ cs.size ++ p, ⟨g, t, cs, fuel, p, [], h1, h2, h3, h4, rfl, by simp⟩, List.sublist_append_left _ _⟩
    · obtain ⟨qs, k1, k2⟩ := vars_one r q h5 hx
      exact ⟨qs, k1, k2.trans (List.sublist_append_right _ _)⟩
theorem met_one {P : Program} {w : World} {laid : List (String × DataW Unit)} (hp : (laid.all fun x => x.2.handleName?.isNone) = true) (h : laidMetH P laid w) {x : String × DataW Unit} (hx : x ∈ laid) : laidMetH P [x] w := by
  rw [MakeChecks.laidMetH_plain _ _ _ hp] at h
  rw [MakeChecks.laidMetH_plain _ _ _ (by have := List.all_eq_true.1 hp x hx; simp only [List.all_cons, List.all_nil, Bool.and_true]; exact this)]
  obtain ⟨ps, h1, h2, h3⟩ := h
  obtain ⟨qs, k1, k2⟩ := vars_one laid ps h1 hx
  exact ⟨qs, k1, h2.sublist k2, fun b off hm => h3 b off (k2.subset hm)⟩
theorem gObj : Tryd.prog.globalNamed "warpbeam/word.object" = some 1 := by kernel_rfl
theorem tObj : (Tryd.prog.globals[1]?).map (·.type) = some 24 := by kernel_rfl
set_option maxRecDepth 100000 in
theorem wob_of_laid {W : World} (h : laidMetH Tryd.prog [("warpbeam/word.object", Rows.laid_warpbeam_word_object)] W) : Wob W := by
  rw [MakeChecks.laidMetH_plain _ _ _ (by kernel_rfl)] at h
  obtain ⟨ps, ⟨g0, t0, cs0, f0, p0, q0, hg0, ht0, hv0, hd0, _⟩, _, _⟩ := h
  obtain rfl := Option.some.inj (gObj.symm.trans hg0)
  obtain rfl := Option.some.inj (tObj.symm.trans ht0)
  obtain ⟨y0, y1, n, hx, hl, e0, e1⟩ := Go.ChangeShapes.trod_struct2 Tryd.underlying24 hd0
  have c0 : Tryd.prog.cellsOf 3 = 1 := by kernel_rfl
  have c1 : Tryd.prog.cellsOf 9 = 1 := by kernel_rfl
  have c2 : Tryd.prog.cellsOf 24 = 2 := by kernel_rfl
  rw [c2] at hl
  unfold Rows.laid_warpbeam_word_object at hx
  simp only [Prod.mk.injEq, DataW.agg.injEq, List.cons.injEq, and_true] at hx
  obtain ⟨⟨x0, x1⟩, _⟩ := hx
  obtain ⟨m0, d0, z0, _⟩ := DataW.trod_int Tryd.underlying3 e0
  obtain ⟨s1, d1, z1, _⟩ := DataW.trod_string Tryd.underlying9 e1
  rw [z0] at x0
  rw [z1] at x1
  simp only [DataW.lit.injEq, Lit.int.injEq, Lit.string.injEq, true_and] at x0 x1
  subst x0
  rw [bytes_of x1.symm] at d1
  simp only [c0, c1] at d0 d1
  have hc : cs0 = #[.int .i64 3, .string ⟨#[79, 98, 106, 101, 99, 116]⟩] := by
    apply Array.ext'
    generalize cs0.toList = l at *
    match l, hl with
    | [a, b], _ =>
      simp at d0 d1
      subst d0 d1
      rfl
  subst hc
  simp only [World.var?, gObj, Option.bind_some] at hv0
  split at hv0
  · rename_i c t fr hh
    simp only [Option.some.injEq] at hv0
    subst hv0
    exact ⟨_, _, hh⟩
  · cases hv0
theorem bw_of_laid {W : World} (h : laidMetH Tryd.prog [("warpbeam/link.builtIn", Rows.laid_warpbeam_link_builtIn), ("warpbeam/word.object", Rows.laid_warpbeam_word_object)] W) : Bi W ∧ Wob W :=
  ⟨bi_of_laid (met_one (by kernel_rfl) h (by simp)), wob_of_laid (met_one (by kernel_rfl) h (by simp))⟩
theorem door_met2 (os : Os) (args : Array Value) : laidMetH Tryd.prog [("warpbeam/link.builtIn", Rows.laid_warpbeam_link_builtIn), ("warpbeam/word.object", Rows.laid_warpbeam_word_object)] ((World.doorLaid Tryd.prog 400 os).forCall (fun _ _ => 0) ⟨#[], args, []⟩).memory :=
  laidMetH_of_parts3 (fuel := 8) (laidMet_of_run' 8 (by kernel_rfl) (by kernel_rfl)) (by kernel_rfl) (by kernel_rfl)
end Go.Proofs.YtbogcknkkbnfnaaDoor

/- The chapter's examples of words. -/
namespace Go.Proofs.YtbogcknkkbnfnaaDoor
open Go.RowKit Go.Proofs.YtbogcknkkbnfnaaDoorW.PrintWords Go.Maps Go.WideMaps

set_option maxRecDepth 100000 in
set_option maxHeartbeats 4000000 in
theorem ref12_any (k : Int) (n : ByteArray) (w : World) : Calls Tryd.prog 50 #[.int .i64 k, .string n] w fun e w' => e = .returned (.agg #[.int .i64 5, .int .i64 k, .string n]) ∧ Below w.heap.size w w' := by
  have HB := hid (below_alloc (Below.refl w.heap.size w) (.cells #[.int .i64 0, .int .i64 0, .string ⟨#[]⟩] 35))
  have k1 := blk_new w (.cells #[.int .i64 0, .int .i64 0, .string ⟨#[]⟩] 35)
  go_enter Tryd.func50, Tryd.ntmps50
  go_upto_region 1 with fail
  generalize w.alloc (.cells #[.int .i64 0, .int .i64 0, .string ⟨#[]⟩] 35) = w1 at *
  have K1 := hid k1
  have c0 := blk_cell k1 0
  have c1 := blk_cell k1 1
  have c2 := blk_cell k1 2
  have f0 := blk_frozen k1 0
  have f1 := blk_frozen k1 1
  have f2 := blk_frozen k1 2
  clear k1
  go_wp2
  refine bodyPost_ret (results_single rfl (.cell w.heap.size 35 #[.int .i64 5, .int .i64 k, .string n] (0, 0) _ rfl (blk_put (blk_put (blk_put K1.out 0 _ rfl) 1 _ rfl) 2 _ rfl) Tryd.underlying35 rfl (by kernel_rfl) .nil)) rfl ?_
  exact ⟨rfl, ((HB.out.setCell (Nat.le_refl _) _).setCell (Nat.le_refl _) _).setCell (Nat.le_refl _) _⟩
/-- What words come to, in the chapter's set. -/
def MQ (a b c : Wd) : Prop := (a = ⟨5, 3, ⟨#[66]⟩⟩ ∧ b = ⟨5, 3, ⟨#[67]⟩⟩ ∧ c = ⟨5, 3, ⟨#[65]⟩⟩) ∨ (a = ⟨5, 3, ⟨#[66]⟩⟩ ∧ b = ⟨4, 0, ⟨#[]⟩⟩ ∧ c = ⟨5, 3, ⟨#[66]⟩⟩) ∨ (a = ⟨5, 3, ⟨#[66]⟩⟩ ∧ b = ⟨5, 3, ⟨#[73]⟩⟩ ∧ c = ⟨5, 3, ⟨#[79, 98, 106, 101, 99, 116]⟩⟩) ∨ (a = ⟨5, 6, ⟨#[66]⟩⟩ ∧ b = ⟨5, 6, ⟨#[67]⟩⟩ ∧ c = ⟨5, 6, ⟨#[65]⟩⟩) ∨ (a = ⟨5, 6, ⟨#[66]⟩⟩ ∧ b = ⟨5, 4, ⟨#[]⟩⟩ ∧ c = ⟨5, 3, ⟨#[79, 98, 106, 101, 99, 116]⟩⟩) ∨ (a = ⟨1, 0, ⟨#[]⟩⟩ ∧ b = ⟨4, 0, ⟨#[]⟩⟩ ∧ c = ⟨0, 0, ⟨#[]⟩⟩)
theorem MQ.eq {a b c : Wd} (h : MQ a b c) : mrgW wS a b = c ∧ a.tn.size ≤ 9223372036854775807 ∧ b.tn.size ≤ 9223372036854775807 := by
  rcases h with ⟨rfl, rfl, rfl⟩ | ⟨rfl, rfl, rfl⟩ | ⟨rfl, rfl, rfl⟩ | ⟨rfl, rfl, rfl⟩ | ⟨rfl, rfl, rfl⟩ | ⟨rfl, rfl, rfl⟩
  · exact ⟨wm1, by decide +kernel, by decide +kernel⟩
  · exact ⟨wm2, by decide +kernel, by decide +kernel⟩
  · exact ⟨wm3, by decide +kernel, by decide +kernel⟩
  · exact ⟨wm4, by decide +kernel, by decide +kernel⟩
  · exact ⟨wm5, by decide +kernel, by decide +kernel⟩
  · exact ⟨wm6, by decide +kernel, by decide +kernel⟩
theorem wm_any {B p : Nat} {w : World} (h : IsSet B p wS w) (hO : Wob w) (a b c : Wd) (q : MQ a b c) : Calls Tryd.prog 49 #[.pointer (some ⟨p, 0, none⟩), .agg #[.int .i64 a.k, .int .i64 a.tk, .string a.tn], .agg #[.int .i64 b.k, .int .i64 b.tk, .string b.tn]] w fun e w' => e = .returned (.agg #[.int .i64 c.k, .int .i64 c.tk, .string c.tn]) ∧ Below w.heap.size w w' := by
  obtain ⟨h1, h2, h3⟩ := q.eq
  have := merge_any h hO a b h2 h3
  rw [h1] at this
  exact this
end Go.Proofs.YtbogcknkkbnfnaaDoor

