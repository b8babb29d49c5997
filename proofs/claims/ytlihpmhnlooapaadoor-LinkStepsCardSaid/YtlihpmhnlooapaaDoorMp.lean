/- Number; fails; awake. -/
import Derived.Test.YtlihpmhnlooapaaDoorMo
namespace Go.Proofs.YtlihpmhnlooapaaDoor
open Go.RowKit Go.Proofs.YtlihpmhnlooapaaDoorW.PrintWords Go.Maps Go.WideMaps

set_option maxRecDepth 100000 in
set_option maxHeartbeats 4000000 in
theorem number_any {B p : Nat} {L : List Cl} {w : World} (h : IsSet B p L w) (s : ByteArray) (hs : s.size ≤ 9223372036854775807) : Calls Tryd.prog 30 #[.pointer (some ⟨p, 0, none⟩), .string s] w fun e w' => e = .returned (.tuple #[.int .i64 (numI L s), .bool (numOf L s).isSome]) ∧ w' = w := by
  obtain ⟨g, cap, m, gs, cs, gf, cf, ga, ca, hV, hA⟩ := h.sv
  have c1 := blk_cell hV.blk 1
  have hl := hV.map.look s hs
  clear h hV hA
  go_enter Tryd.func30, Tryd.ntmps30
  go_wp2
  go_ret2
  exact ⟨rfl, rfl⟩
set_option maxRecDepth 100000 in
set_option maxHeartbeats 4000000 in
theorem fails_true (nm : ByteArray) (x : Int) (A : Option Addr) (c : Nat) (l : List Cl) (w : World) (hBi : Bi w) (hC : kCl.C w A l.length l) (hl : l.length ≤ 64) (hok : ∀ y ∈ l, clOk y) (hx : ∀ r, Srtd r l → newErr (builtL ++ r) = some (nm, x)) :
    Calls Tryd.prog 41 #[.string nm, .int .i64 x, .slice A l.length c] w fun e w' => e = .returned (.bool true) ∧ Below w.heap.size w w' := by
  have HN := hid (show Calls Tryd.prog 14 #[.slice A l.length c] w (fun e w' => e = .returned (.tuple #[.pointer none, .string nm, .int .i64 x]) ∧ Below w.heap.size w w') from by
    refine (new_any A c l w hBi hC (by omega) hok).mono ?_
    rintro e w' ⟨hB, h⟩
    rw [if_neg (by omega)] at h
    obtain ⟨r, hs, h⟩ := h
    rw [hx r hs] at h
    exact ⟨h, hB⟩)
  have q1 : (nm.toList == nm.toList) = true := by simp
  clear hBi hC hok hx
  generalize l.length = n at *
  go_enter Tryd.func41, Tryd.ntmps41
  go_wp2_with (go_at_call 14; refine HN.out.mono ?_; rintro e w' ⟨rfl, hB⟩; have HB := hid hB; clear hB)
  go_ret
  exact ⟨rfl, HB.out⟩
theorem C_ints {w : World} {g : Nat} {xs : List Int} (hg : w.heap[g]? = some (.cells (xs.map (Value.int .i64)).toArray 3 (0, 0))) (hn : xs.length ≤ 9223372036854775807) : kI.C w (some ⟨g, 0, none⟩) xs.length xs :=
  C_reps (d := kI) hg (Kd.reps_scalar xs) hn
abbrev ringCs : List Value := [.slice none 0 0, .string ⟨#[65]⟩, .string ⟨#[66]⟩, .bool false, .slice none 0 0, .slice none 0 0, .slice none 0 0, .slice none 0 0, .string ⟨#[66]⟩, .string ⟨#[65]⟩, .bool false, .slice none 0 0, .slice none 0 0, .slice none 0 0]
theorem C_ring {w : World} {g : Nat} (hg : w.heap[g]? = some (.cells ringCs.toArray 41 (0, 0))) : kCl.C w (some ⟨g, 0, none⟩) 2 ringLs := by
  refine C_reps (xs := ringLs) (cs := ringCs) hg ⟨rfl, fun j p hp => ?_⟩ (by decide)
  match j, hp with
  | 0, hp => cases hp; exact kCl_lit0 _ sA sB false
  | 1, hp => cases hp; exact kCl_lit0 _ sB sA false
  | j + 2, hp => cases hp
theorem bel_tr {a b c : World} (h : Below a.heap.size a b) (k : Below b.heap.size b c) : Below a.heap.size a c := below_weaken h h.size k
theorem chapNew (g : Nat) (w : World) (hBi : Bi w) (hC : kCl.C w (some ⟨g, 0, none⟩) 4 chapL) : Calls Tryd.prog 14 #[.slice (some ⟨g, 0, none⟩) 4 4] w fun e w' => ∃ p, e = .returned (.tuple #[.pointer (some ⟨p, 0, none⟩), .string ⟨#[]⟩, .int .i64 0]) ∧ IsSet w.heap.size p (builtL ++ chapR) w' ∧ Below w.heap.size w w' := by
  refine (new_any (some ⟨g, 0, none⟩) 4 chapL w hBi hC (by decide) chap_ok).mono ?_
  rintro e w' ⟨hB, h⟩
  rw [if_neg (by decide)] at h
  obtain ⟨r, hs, h⟩ := h
  rw [chap_only hs, chap_new] at h
  obtain ⟨p, he, hS⟩ := h
  exact ⟨p, he, hS, hB⟩
set_option maxRecDepth 100000 in
set_option maxHeartbeats 8000000 in
theorem awake_any (w : World) (hBi : Bi w) : Calls Tryd.prog 16 #[] w fun e w' => e = .returned (.bool true) ∧ Below w.heap.size w w' := by
  have HBI := hid hBi
  clear hBi
  go_enter Tryd.func16, Tryd.ntmps16
  go_upto_region 2 with (first | (go_at_call 44; refine (chapter_any w).mono ?_; rintro e w1 ⟨g, rfl, hC, hB⟩; have HC := hid hC; have HB := hid hB; clear hC hB) | (go_at_call 14; refine (chapNew g w1 (HBI.out.below HBI.out.lt (HB.out.mono (by have := HBI.out.lt; omega))) HC.out).mono ?_; rintro e w2 ⟨p, rfl, hS, hB2⟩; have HS := hid hS; have HB2 := hid (below_weaken HB.out HB.out.size hB2); clear hS hB2))
  have HLEN := hid (show Calls Tryd.prog 18 #[.pointer (some ⟨p, 0, none⟩)] w2 fun e w' => e = .returned (.int .i64 12) ∧ w' = w2 from by have := len_any HS.out; rw [chap_len] at this; exact this)
  have HNUM := hid (fun (s : ByteArray) (n : Int) (h : (s = ⟨#[65]⟩ ∧ n = 8) ∨ (s = ⟨#[74]⟩ ∧ n = 11)) => (show Calls Tryd.prog 30 #[.pointer (some ⟨p, 0, none⟩), .string s] w2 fun e w' => e = .returned (.tuple #[.int .i64 n, .bool true]) ∧ w' = w2 from by
    rcases h with ⟨rfl, rfl⟩ | ⟨rfl, rfl⟩
    · have := number_any HS.out sA (by decide)
      unfold numI at this
      rw [chap_A] at this
      exact this
    · have := number_any HS.out sJ (by decide)
      unfold numI at this
      rw [chap_J] at this
      exact this))
  have HNAME := hid (show Calls Tryd.prog 22 #[.pointer (some ⟨p, 0, none⟩), .int .i64 9] w2 fun e w' => e = .returned (.string ⟨#[66]⟩) ∧ w' = w2 from by
    have := name_in HS.out (i := 9) (by rw [chap_len]; omega)
    rw [chap_9] at this
    exact this)
  have HAB := hid (fun (i : Int) (l : List Int) (W : World) (h : (i = 9 ∧ l = [9, 8, 0, 10]) ∨ (i = 11 ∧ l = [11, 0, 10])) (hW : Below w2.heap.size w2 W) => (show Calls Tryd.prog 24 #[.pointer (some ⟨p, 0, none⟩), .int .i64 i] W fun e w' => ∃ A c, e = .returned (.slice A l.length c) ∧ kI.C w' A l.length l ∧ Below W.heap.size W w' from by
    have key : ∀ k : Nat, k < 12 → i = k → ints (aboveOf (builtL ++ chapR) k) = l → Calls Tryd.prog 24 #[.pointer (some ⟨p, 0, none⟩), .int .i64 i] W fun e w' => ∃ A c, e = .returned (.slice A l.length c) ∧ kI.C w' A l.length l ∧ Below W.heap.size W w' := by
      intro k hk hik hl
      rw [hik]
      refine (above_in (HS.out.step hW) (i := k) (by rw [chap_len]; omega)).mono ?_
      rintro e w' ⟨v, rfl, hR, hB⟩
      rw [hl] at hR
      obtain ⟨A', c', rfl⟩ := Kd.R_slice hR
      exact ⟨A', c', rfl, (Kd.R_reads' hR).2.2, hB⟩
    rcases h with ⟨rfl, rfl⟩ | ⟨rfl, rfl⟩
    · exact key 9 (by omega) rfl (by rw [chap_above9]; rfl)
    · exact key 11 (by omega) rfl (by rw [chap_above11]; rfl)))
  have HCO := hid (fun (i j c : Int) (W : World) (h : (i = 9 ∧ j = 8 ∧ c = 8) ∨ (i = 9 ∧ j = 11 ∧ c = 0)) (hW : Below w2.heap.size w2 W) => (show Calls Tryd.prog 28 #[.pointer (some ⟨p, 0, none⟩), .int .i64 i, .int .i64 j] W fun e w' => e = .returned (.int .i64 c) ∧ Below W.heap.size W w' from by
    rcases h with ⟨rfl, rfl, rfl⟩ | ⟨rfl, rfl, rfl⟩
    · have := common_in (HS.out.step hW) (a := 9) (b := 8) (by rw [chap_len]; omega) (by rw [chap_len]; omega)
      rw [chap_common1] at this
      exact this
    · have := common_in (HS.out.step hW) (a := 9) (b := 11) (by rw [chap_len]; omega) (by rw [chap_len]; omega)
      rw [chap_common2] at this
      exact this))
  have HBE := hid (fun (i j : Int) (b : Bool) (W : World) (h : (i = 9 ∧ j = 10 ∧ b = true) ∨ (i = 10 ∧ j = 9 ∧ b = false)) (hW : Below w2.heap.size w2 W) => (show Calls Tryd.prog 21 #[.pointer (some ⟨p, 0, none⟩), .int .i64 i, .int .i64 j] W fun e w' => e = .returned (.bool b) ∧ w' = W from by
    rcases h with ⟨rfl, rfl, rfl⟩ | ⟨rfl, rfl, rfl⟩
    · have := below_in (HS.out.step hW) (a := 9) (b := 10) (by rw [chap_len]; omega) (by rw [chap_len]; omega)
      rw [chap_above9] at this
      exact this
    · have := below_in (HS.out.step hW) (a := 10) (b := 9) (by rw [chap_len]; omega) (by rw [chap_len]; omega)
      rw [chap_above10] at this
      exact this))
  have HFA := hid (fun (W : World) (g : Nat) (hW : Below w2.heap.size w2 W) (hg : W.heap[g]? = some (.cells ringCs.toArray 41 (0, 0))) => (show Calls Tryd.prog 41 #[.string ⟨#[65]⟩, .int .i64 91, .slice (some ⟨g, 0, none⟩) 2 2] W fun e w' => e = .returned (.bool true) ∧ Below W.heap.size W w' from
    fails_true sA 91 (some ⟨g, 0, none⟩) 2 ringLs W (HBI.out.below HBI.out.lt ((below_weaken HB2.out HB2.out.size hW).mono (by have := HBI.out.lt; omega))) (C_ring hg) (by decide) ring_ok (fun r hs => by rw [ring_only hs]; exact ring_new)))
  have HB0 := hid (Below.refl w2.heap.size w2)
  go_upto_region 7 with (first | (go_at_call 18; refine HLEN.out.mono ?_; rintro e w' ⟨rfl, rfl⟩) | (go_at_call 30; refine (HNUM.out _ _ (by first | exact .inl ⟨rfl, rfl⟩ | exact .inr ⟨rfl, rfl⟩)).mono ?_; rintro e w' ⟨rfl, rfl⟩) | (go_at_call 22; refine HNAME.out.mono ?_; rintro e w' ⟨rfl, rfl⟩))
  obtain ⟨w2, rfl⟩ : ∃ x, x = w' := ⟨_, rfl⟩
  have HEQ := hid (fun (l : List Int) (n : Nat) (A : Option Addr) (c g : Nat) (W : World) (hC : kI.C W A l.length l) (hn : l.length = n) (h4 : n ≤ 4) (hg : W.heap[g]? = some (.cells (l.map (Value.int .i64)).toArray 3 (0, 0))) => (show Calls Tryd.prog 23 #[.slice A n c, .slice (some ⟨g, 0, none⟩) n n] W fun e w' => e = .returned (.bool true) ∧ Below W.heap.size W w' from by
    subst hn
    have := eqInts_any A (some ⟨g, 0, none⟩) c l.length l l W hC (C_ints hg (by omega)) (by omega) (by omega)
    rw [show (l == l) = true by simp] at this
    exact this))
  go_wp2_with (first
    | (go_at_call 24; refine (HAB.out _ _ _ (by first | exact .inl ⟨rfl, rfl⟩ | exact .inr ⟨rfl, rfl⟩) (by first | exact HB0.out | assumption | exact Below.alloc (by first | exact HB0.out | assumption) (Below.size (by first | exact HB0.out | assumption)) _)).mono ?_; rintro e wa ⟨Aa, ca, rfl, hCa, hBa⟩; have hba := bel_tr (a := w2) (by first | exact HB0.out | assumption | exact Below.alloc (by first | exact HB0.out | assumption) (Below.size (by first | exact HB0.out | assumption)) _) hBa)
    | (go_at_call 23; refine (HEQ.out _ _ _ _ _ _ (Kd.C_alloc (by assumption) _) (by rfl) (by decide) (by exact blk_new _ _)).mono ?_; rintro e we ⟨rfl, hBe⟩; have hbe := bel_tr (a := w2) (by first | exact HB0.out | assumption | exact Below.alloc (by first | exact HB0.out | assumption) (Below.size (by first | exact HB0.out | assumption)) _) hBe)
    | (go_at_call 28; refine (HCO.out _ _ _ _ (by first | exact .inl ⟨rfl, rfl, rfl⟩ | exact .inr ⟨rfl, rfl, rfl⟩) (by first | exact HB0.out | assumption | exact Below.alloc (by first | exact HB0.out | assumption) (Below.size (by first | exact HB0.out | assumption)) _)).mono ?_; rintro e wc ⟨rfl, hBc⟩; have hbc := bel_tr (a := w2) (by first | exact HB0.out | assumption | exact Below.alloc (by first | exact HB0.out | assumption) (Below.size (by first | exact HB0.out | assumption)) _) hBc)
    | (go_at_call 21; refine (HBE.out _ _ _ _ (by first | exact .inl ⟨rfl, rfl, rfl⟩ | exact .inr ⟨rfl, rfl, rfl⟩) (by first | exact HB0.out | assumption | exact Below.alloc (by first | exact HB0.out | assumption) (Below.size (by first | exact HB0.out | assumption)) _)).mono ?_; rintro e w' ⟨rfl, rfl⟩)
    | (go_at_call 41; refine (HFA.out _ _ (by first | exact HB0.out | assumption | exact Below.alloc (by first | exact HB0.out | assumption) (Below.size (by first | exact HB0.out | assumption)) _) (blk_new _ _)).mono ?_; rintro e wf ⟨rfl, hBf⟩; have hbf := bel_tr (a := w2) (by first | exact HB0.out | assumption | exact Below.alloc (by first | exact HB0.out | assumption) (Below.size (by first | exact HB0.out | assumption)) _) hBf))
  go_ret
  exact ⟨rfl, bel_tr HB2.out hbf⟩
end Go.Proofs.YtlihpmhnlooapaaDoor
