/- Texts laid as one: Mo Mp Mq Mr. -/
import Derived.Test.YtbogcknkkbnfnaaDoorMi
import Derived.Test.YtbogcknkkbnfnaaDoorR3
import Derived.Laws.Strings
import Derived.Test.YtbogcknkkbnfnaaDoorRows
import Derived.Test.YtbogcknkkbnfnaaDoorKb
import Derived.ProofKit
import Derived.LaidMore
import Derived.OpenShut
import Derived.Stop.Joined
import Derived.BigQuiet
/- Classes in closed form: their order, no rings, what New answers. -/
namespace Go.Proofs.YtbogcknkkbnfnaaDoor
open Go.RowKit Go.Proofs.YtbogcknkkbnfnaaDoorW.PrintWords Go.Maps Go.WideMaps

theorem nm_of_less {a b : ByteArray} (h : less a b = false) (h' : less b a = false) : a = b := by
  have := less_total a.toList b.toList h h'
  rw [ByteArray.toList_eq, ByteArray.toList_eq] at this
  exact Go.WideShapes.bytes_inj this
theorem same_name {l : List Cl} (hn : (l.map (·.name)).Nodup) {a b : Cl} (ha : a ∈ l) (hb : b ∈ l) (e : a.name = b.name) : a = b := by
  induction l with
  | nil => cases ha
  | cons c l ih =>
    rw [List.map_cons, List.nodup_cons] at hn
    rcases List.mem_cons.1 ha with rfl | ha
    · rcases List.mem_cons.1 hb with rfl | hb
      · rfl
      · exact absurd (List.mem_map.2 ⟨b, hb, e.symm⟩) hn.1
    · rcases List.mem_cons.1 hb with hb | hb
      · exact absurd (List.mem_map.2 ⟨a, ha, by rw [e, hb]⟩) hn.1
      · exact ih hn.2 ha hb
/-- Of classes of different names there is one order. -/
theorem srtd_unique {l l' r r' : List Cl} (hp : l.Perm l') (hn : (l.map (·.name)).Nodup) (h : Srtd r l) (h' : Srtd r' l') : r = r' := by
  have hr : r.Perm r' := h.1.trans (hp.trans h'.1.symm)
  refine List.Perm.eq_of_pairwise (le := fun x y : Cl => less y.name x.name = false) (fun a b ha hb h1 h2 => ?_) h.2 h'.2 hr
  have e := nm_of_less h2 h1
  have ha' := h.1.mem_iff.1 ha
  have hb' := hp.mem_iff.2 (h'.1.mem_iff.1 hb)
  exact same_name hn ha' hb' e
def lessD (a b : ByteArray) : Bool := Op.bytesLess a.data.toList b.data.toList
theorem less_eq (a b : ByteArray) : less a b = lessD a b := by unfold less lessD; rw [ByteArray.toList_eq, ByteArray.toList_eq]
/-- No ring, by a rank that falls at each step. -/
theorem no_ring {S : List Int} {F : List (List Int)} (rk : Nat → Nat) (n : Nat) (h : ∀ i, i < n → ∀ u ∈ succI S F i, u = -1 ∨ (0 ≤ u ∧ u < n ∧ rk u.toNat < rk i)) : ∀ i, i < n → ¬ Rch S F i i := by
  have key : ∀ a j, Rch S F a j → a < n → j < n ∧ rk j < rk a := by
    intro a j hr
    induction hr with
    | one hu =>
      intro ha
      rcases h _ ha _ hu with e | ⟨_, e1, e2⟩
      · omega
      · exact ⟨by omega, by simpa using e2⟩
    | more hu _ ih =>
      intro ha
      rcases h _ ha _ hu with e | ⟨_, e1, e2⟩
      · omega
      · have := ih (by omega)
        rw [Int.toNat_natCast] at e2
        exact ⟨this.1, by omega⟩
  intro i hi hr
  have := key i i hr hi
  omega
open Classical in
theorem ringP_yes {S : List Int} {F : List (List Int)} {i : Nat} (h : ¬ Rch S F i i) : ringP S F i = true := by
  unfold ringP ringB
  rw [decide_eq_false h]
  rfl
open Classical in
theorem ringP_no {S : List Int} {F : List (List Int)} {i : Nat} (h : Rch S F i i) : ringP S F i = false := by
  unfold ringP ringB
  rw [decide_eq_true h]
  rfl
def chapF : Nat → Cl
  | 0 => ⟨zSl, sJ, bn 0, true, [sI], zSl, zSl⟩
  | 1 => ⟨zSl, sB, sA, false, [sI], zSl, zSl⟩
  | 2 => ⟨zSl, sA, bn 0, false, [], zSl, zSl⟩
  | _ => ⟨zSl, sI, bn 0, true, [], zSl, zSl⟩
def chapR : List Cl := [2, 1, 3, 0].map chapF
theorem chap_srtd : Srtd chapR chapL := by
  refine ⟨?_, ?_⟩
  · exact List.Perm.map chapF (show [2, 1, 3, 0].Perm [0, 1, 2, 3] by decide)
  · simp only [less_eq]
    show List.Pairwise (fun x y : Cl => lessD y.name x.name = false) [chapF 2, chapF 1, chapF 3, chapF 0]
    decide +kernel
theorem chap_nodup : (chapL.map (·.name)).Nodup := by decide +kernel
theorem chap_new : newErr (builtL ++ chapR) = none := by
  unfold newErr
  rw [show dupErr (builtL ++ chapR) = none by decide +kernel, show joinErr (builtL ++ chapR) = none by decide +kernel, show firstNo (builtL ++ chapR) (upFit (builtL ++ chapR) (supsL (builtL ++ chapR) (builtL ++ chapR).length)) = none by decide +kernel, show firstNo (builtL ++ chapR) (facesP (builtL ++ chapR) (facesL (builtL ++ chapR) (builtL ++ chapR).length)) = none by decide +kernel]
  have hl : (builtL ++ chapR).length = 12 := by decide +kernel
  rw [firstNo_none (L := builtL ++ chapR) (fun j hj => ringP_yes (no_ring (fun i => [0, 1, 2, 2, 2, 2, 2, 2, 1, 2, 1, 2].getD i 0) 12 (by decide +kernel) j (by rw [hl] at hj; exact hj)))]
theorem chap_only {r : List Cl} (h : Srtd r chapL) : r = chapR := srtd_unique (.refl _) chap_nodup h chap_srtd
theorem chap_above9 : aboveOf (builtL ++ chapR) 9 = [9, 8, 0, 10] := by decide +kernel
theorem chap_above11 : aboveOf (builtL ++ chapR) 11 = [11, 0, 10] := by decide +kernel
theorem chap_above10 : aboveOf (builtL ++ chapR) 10 = [10, 0] := by decide +kernel
theorem chap_common1 : commonOf (builtL ++ chapR) 9 8 = 8 := by decide +kernel
theorem chap_common2 : commonOf (builtL ++ chapR) 9 11 = 0 := by decide +kernel
theorem chap_len : (builtL ++ chapR).length = 12 := by decide +kernel
theorem chap_A : numOf (builtL ++ chapR) sA = some 8 := by decide +kernel
theorem chap_J : numOf (builtL ++ chapR) sJ = some 11 := by decide +kernel
theorem chap_9 : ((builtL ++ chapR).getD 9 zCl).name = sB := by decide +kernel
theorem chap_ok : ∀ x ∈ chapL, clOk x := by
  intro x hx
  simp only [chapL, List.mem_cons, List.not_mem_nil, or_false] at hx
  rcases hx with rfl | rfl | rfl | rfl <;> (unfold clOk; decide +kernel)
/-- Two that stand below each other. -/
def ringLs : List Cl := [⟨zSl, sA, sB, false, [], zSl, zSl⟩, ⟨zSl, sB, sA, false, [], zSl, zSl⟩]
theorem ring_srtd : Srtd ringLs ringLs := by
  refine ⟨.refl _, ?_⟩
  simp only [less_eq]
  show List.Pairwise (fun x y : Cl => lessD y.name x.name = false) [⟨zSl, sA, sB, false, [], zSl, zSl⟩, ⟨zSl, sB, sA, false, [], zSl, zSl⟩]
  decide +kernel
theorem ring_only {r : List Cl} (h : Srtd r ringLs) : r = ringLs := srtd_unique (.refl _) (by decide +kernel) h ring_srtd
theorem ring_new : newErr (builtL ++ ringLs) = some (sA, 91) := by
  unfold newErr
  rw [show dupErr (builtL ++ ringLs) = none by decide +kernel, show joinErr (builtL ++ ringLs) = none by decide +kernel, show firstNo (builtL ++ ringLs) (upFit (builtL ++ ringLs) (supsL (builtL ++ ringLs) (builtL ++ ringLs).length)) = none by decide +kernel, show firstNo (builtL ++ ringLs) (facesP (builtL ++ ringLs) (facesL (builtL ++ ringLs) (builtL ++ ringLs).length)) = none by decide +kernel]
  rw [firstNo_some (k := 8) (fun j hj => ringP_yes (no_ring (fun i => [0, 1, 2, 2, 2, 2, 2, 2].getD i 0) 8 (by decide +kernel) j hj)) (by decide +kernel) (ringP_no (.more (u := 9) (by decide +kernel) (.one (by decide +kernel))))]
  rfl
theorem ring_ok : ∀ x ∈ ringLs, clOk x := by
  intro x hx
  simp only [ringLs, List.mem_cons, List.not_mem_nil, or_false] at hx
  rcases hx with rfl | rfl <;> (unfold clOk; decide +kernel)
end Go.Proofs.YtbogcknkkbnfnaaDoor

/- Number; fails; awake. -/
namespace Go.Proofs.YtbogcknkkbnfnaaDoor
open Go.RowKit Go.Proofs.YtbogcknkkbnfnaaDoorW.PrintWords Go.Maps Go.WideMaps

set_option maxRecDepth 100000 in
set_option maxHeartbeats 4000000 in
theorem number_any {B p : Nat} {L : List Cl} {w : World} (h : IsSet B p L w) (s : ByteArray) (hs : s.size ≤ 9223372036854775807) : Calls Tryd.prog 35 #[.pointer (some ⟨p, 0, none⟩), .string s] w fun e w' => e = .returned (.tuple #[.int .i64 (numI L s), .bool (numOf L s).isSome]) ∧ w' = w := by
  obtain ⟨g, cap, m, gs, cs, gf, cf, ga, ca, hV, hA⟩ := h.sv
  have c1 := blk_cell hV.blk 1
  have hl := hV.map.look s hs
  clear h hV hA
  go_enter Tryd.func35, Tryd.ntmps35
  go_wp2
  go_ret2
  exact ⟨rfl, rfl⟩
set_option maxRecDepth 100000 in
set_option maxHeartbeats 4000000 in
theorem fails_true (nm : ByteArray) (x : Int) (A : Option Addr) (c : Nat) (l : List Cl) (w : World) (hBi : Bi w) (hC : kCl.C w A l.length l) (hl : l.length ≤ 64) (hok : ∀ y ∈ l, clOk y) (hx : ∀ r, Srtd r l → newErr (builtL ++ r) = some (nm, x)) :
    Calls Tryd.prog 39 #[.string nm, .int .i64 x, .slice A l.length c] w fun e w' => e = .returned (.bool true) ∧ Below w.heap.size w w' := by
  have HN := hid (show Calls Tryd.prog 41 #[.slice A l.length c] w (fun e w' => e = .returned (.tuple #[.pointer none, .string nm, .int .i64 x]) ∧ Below w.heap.size w w') from by
    refine (new_any A c l w hBi hC (by omega) hok).mono ?_
    rintro e w' ⟨hB, h⟩
    rw [if_neg (by omega)] at h
    obtain ⟨r, hs, h⟩ := h
    rw [hx r hs] at h
    exact ⟨h, hB⟩)
  have q1 : (nm.toList == nm.toList) = true := by simp
  clear hBi hC hok hx
  generalize l.length = n at *
  go_enter Tryd.func39, Tryd.ntmps39
  go_wp2_with (go_at_call 41; refine HN.out.mono ?_; rintro e w' ⟨rfl, hB⟩; have HB := hid hB; clear hB)
  go_ret
  exact ⟨rfl, HB.out⟩
theorem C_ints {w : World} {g : Nat} {xs : List Int} (hg : w.heap[g]? = some (.cells (xs.map (Value.int .i64)).toArray 3 (0, 0))) (hn : xs.length ≤ 9223372036854775807) : kI.C w (some ⟨g, 0, none⟩) xs.length xs :=
  C_reps (d := kI) hg (Kd.reps_scalar xs) hn
abbrev ringCs : List Value := [.slice none 0 0, .string ⟨#[65]⟩, .string ⟨#[66]⟩, .bool false, .slice none 0 0, .slice none 0 0, .slice none 0 0, .slice none 0 0, .string ⟨#[66]⟩, .string ⟨#[65]⟩, .bool false, .slice none 0 0, .slice none 0 0, .slice none 0 0]
theorem C_ring {w : World} {g : Nat} (hg : w.heap[g]? = some (.cells ringCs.toArray 57 (0, 0))) : kCl.C w (some ⟨g, 0, none⟩) 2 ringLs := by
  refine C_reps (xs := ringLs) (cs := ringCs) hg ⟨rfl, fun j p hp => ?_⟩ (by decide)
  match j, hp with
  | 0, hp => cases hp; exact kCl_lit0 _ sA sB false
  | 1, hp => cases hp; exact kCl_lit0 _ sB sA false
  | j + 2, hp => cases hp
theorem bel_tr {a b c : World} (h : Below a.heap.size a b) (k : Below b.heap.size b c) : Below a.heap.size a c := below_weaken h h.size k
theorem chapNew (g : Nat) (w : World) (hBi : Bi w) (hC : kCl.C w (some ⟨g, 0, none⟩) 4 chapL) : Calls Tryd.prog 41 #[.slice (some ⟨g, 0, none⟩) 4 4] w fun e w' => ∃ p, e = .returned (.tuple #[.pointer (some ⟨p, 0, none⟩), .string ⟨#[]⟩, .int .i64 0]) ∧ IsSet w.heap.size p (builtL ++ chapR) w' ∧ Below w.heap.size w w' := by
  refine (new_any (some ⟨g, 0, none⟩) 4 chapL w hBi hC (by decide) chap_ok).mono ?_
  rintro e w' ⟨hB, h⟩
  rw [if_neg (by decide)] at h
  obtain ⟨r, hs, h⟩ := h
  rw [chap_only hs, chap_new] at h
  obtain ⟨p, he, hS⟩ := h
  exact ⟨p, he, hS, hB⟩
set_option maxRecDepth 100000 in
set_option maxHeartbeats 8000000 in
theorem awake_any (w : World) (hBi : Bi w) : Calls Tryd.prog 46 #[] w fun e w' => e = .returned (.bool true) ∧ Below w.heap.size w w' := by
  have HBI := hid hBi
  clear hBi
  go_enter Tryd.func46, Tryd.ntmps46
  go_upto_region 2 with (first | (go_at_call 43; refine (chapter_any w).mono ?_; rintro e w1 ⟨g, rfl, hC, hB⟩; have HC := hid hC; have HB := hid hB; clear hC hB) | (go_at_call 41; refine (chapNew g w1 (HBI.out.below HBI.out.lt (HB.out.mono (by have := HBI.out.lt; omega))) HC.out).mono ?_; rintro e w2 ⟨p, rfl, hS, hB2⟩; have HS := hid hS; have HB2 := hid (below_weaken HB.out HB.out.size hB2); clear hS hB2))
  have HLEN := hid (show Calls Tryd.prog 18 #[.pointer (some ⟨p, 0, none⟩)] w2 fun e w' => e = .returned (.int .i64 12) ∧ w' = w2 from by have := len_any HS.out; rw [chap_len] at this; exact this)
  have HNUM := hid (fun (s : ByteArray) (n : Int) (h : (s = ⟨#[65]⟩ ∧ n = 8) ∨ (s = ⟨#[74]⟩ ∧ n = 11)) => (show Calls Tryd.prog 35 #[.pointer (some ⟨p, 0, none⟩), .string s] w2 fun e w' => e = .returned (.tuple #[.int .i64 n, .bool true]) ∧ w' = w2 from by
    rcases h with ⟨rfl, rfl⟩ | ⟨rfl, rfl⟩
    · have := number_any HS.out sA (by decide)
      unfold numI at this
      rw [chap_A] at this
      exact this
    · have := number_any HS.out sJ (by decide)
      unfold numI at this
      rw [chap_J] at this
      exact this))
  have HNAME := hid (show Calls Tryd.prog 37 #[.pointer (some ⟨p, 0, none⟩), .int .i64 9] w2 fun e w' => e = .returned (.string ⟨#[66]⟩) ∧ w' = w2 from by
    have := name_in HS.out (i := 9) (by rw [chap_len]; omega)
    rw [chap_9] at this
    exact this)
  have HAB := hid (fun (i : Int) (l : List Int) (W : World) (h : (i = 9 ∧ l = [9, 8, 0, 10]) ∨ (i = 11 ∧ l = [11, 0, 10])) (hW : Below w2.heap.size w2 W) => (show Calls Tryd.prog 32 #[.pointer (some ⟨p, 0, none⟩), .int .i64 i] W fun e w' => ∃ A c, e = .returned (.slice A l.length c) ∧ kI.C w' A l.length l ∧ Below W.heap.size W w' from by
    have key : ∀ k : Nat, k < 12 → i = k → ints (aboveOf (builtL ++ chapR) k) = l → Calls Tryd.prog 32 #[.pointer (some ⟨p, 0, none⟩), .int .i64 i] W fun e w' => ∃ A c, e = .returned (.slice A l.length c) ∧ kI.C w' A l.length l ∧ Below W.heap.size W w' := by
      intro k hk hik hl
      rw [hik]
      refine (above_in (HS.out.step hW) (i := k) (by rw [chap_len]; omega)).mono ?_
      rintro e w' ⟨v, rfl, hR, hB⟩
      rw [hl] at hR
      obtain ⟨A', c', rfl⟩ := Kd.R_slice hR
      exact ⟨A', c', rfl, (Kd.R_reads' hR).2.2, hB⟩
    rcases h with ⟨rfl, rfl⟩ | ⟨rfl, rfl⟩
    · exact key 9 (by omega) rfl (by rw [chap_above9]; rfl)
    · exact key 11 (by omega) rfl (by rw [chap_above11]; rfl)))
  have HCO := hid (fun (i j c : Int) (W : World) (h : (i = 9 ∧ j = 8 ∧ c = 8) ∨ (i = 9 ∧ j = 11 ∧ c = 0)) (hW : Below w2.heap.size w2 W) => (show Calls Tryd.prog 38 #[.pointer (some ⟨p, 0, none⟩), .int .i64 i, .int .i64 j] W fun e w' => e = .returned (.int .i64 c) ∧ Below W.heap.size W w' from by
    rcases h with ⟨rfl, rfl, rfl⟩ | ⟨rfl, rfl, rfl⟩
    · have := common_in (HS.out.step hW) (a := 9) (b := 8) (by rw [chap_len]; omega) (by rw [chap_len]; omega)
      rw [chap_common1] at this
      exact this
    · have := common_in (HS.out.step hW) (a := 9) (b := 11) (by rw [chap_len]; omega) (by rw [chap_len]; omega)
      rw [chap_common2] at this
      exact this))
  have HBE := hid (fun (i j : Int) (b : Bool) (W : World) (h : (i = 9 ∧ j = 10 ∧ b = true) ∨ (i = 10 ∧ j = 9 ∧ b = false)) (hW : Below w2.heap.size w2 W) => (show Calls Tryd.prog 31 #[.pointer (some ⟨p, 0, none⟩), .int .i64 i, .int .i64 j] W fun e w' => e = .returned (.bool b) ∧ w' = W from by
    rcases h with ⟨rfl, rfl, rfl⟩ | ⟨rfl, rfl, rfl⟩
    · have := below_in (HS.out.step hW) (a := 9) (b := 10) (by rw [chap_len]; omega) (by rw [chap_len]; omega)
      rw [chap_above9] at this
      exact this
    · have := below_in (HS.out.step hW) (a := 10) (b := 9) (by rw [chap_len]; omega) (by rw [chap_len]; omega)
      rw [chap_above10] at this
      exact this))
  have HFA := hid (fun (W : World) (g : Nat) (hW : Below w2.heap.size w2 W) (hg : W.heap[g]? = some (.cells ringCs.toArray 57 (0, 0))) => (show Calls Tryd.prog 39 #[.string ⟨#[65]⟩, .int .i64 91, .slice (some ⟨g, 0, none⟩) 2 2] W fun e w' => e = .returned (.bool true) ∧ Below W.heap.size W w' from
    fails_true sA 91 (some ⟨g, 0, none⟩) 2 ringLs W (HBI.out.below HBI.out.lt ((below_weaken HB2.out HB2.out.size hW).mono (by have := HBI.out.lt; omega))) (C_ring hg) (by decide) ring_ok (fun r hs => by rw [ring_only hs]; exact ring_new)))
  have HB0 := hid (Below.refl w2.heap.size w2)
  go_upto_region 7 with (first | (go_at_call 18; refine HLEN.out.mono ?_; rintro e w' ⟨rfl, rfl⟩) | (go_at_call 35; refine (HNUM.out _ _ (by first | exact .inl ⟨rfl, rfl⟩ | exact .inr ⟨rfl, rfl⟩)).mono ?_; rintro e w' ⟨rfl, rfl⟩) | (go_at_call 37; refine HNAME.out.mono ?_; rintro e w' ⟨rfl, rfl⟩))
  obtain ⟨w2, rfl⟩ : ∃ x, x = w' := ⟨_, rfl⟩
  have HEQ := hid (fun (l : List Int) (n : Nat) (A : Option Addr) (c g : Nat) (W : World) (hC : kI.C W A l.length l) (hn : l.length = n) (h4 : n ≤ 4) (hg : W.heap[g]? = some (.cells (l.map (Value.int .i64)).toArray 3 (0, 0))) => (show Calls Tryd.prog 93 #[.slice A n c, .slice (some ⟨g, 0, none⟩) n n] W fun e w' => e = .returned (.bool true) ∧ Below W.heap.size W w' from by
    subst hn
    have := eqInts_any A (some ⟨g, 0, none⟩) c l.length l l W hC (C_ints hg (by omega)) (by omega) (by omega)
    rw [show (l == l) = true by simp] at this
    exact this))
  go_wp2_with (first
    | (go_at_call 32; refine (HAB.out _ _ _ (by first | exact .inl ⟨rfl, rfl⟩ | exact .inr ⟨rfl, rfl⟩) (by first | exact HB0.out | assumption | exact Below.alloc (by first | exact HB0.out | assumption) (Below.size (by first | exact HB0.out | assumption)) _)).mono ?_; rintro e wa ⟨Aa, ca, rfl, hCa, hBa⟩; have hba := bel_tr (a := w2) (by first | exact HB0.out | assumption | exact Below.alloc (by first | exact HB0.out | assumption) (Below.size (by first | exact HB0.out | assumption)) _) hBa)
    | (go_at_call 93; refine (HEQ.out _ _ _ _ _ _ (Kd.C_alloc (by assumption) _) (by rfl) (by decide) (by exact blk_new _ _)).mono ?_; rintro e we ⟨rfl, hBe⟩; have hbe := bel_tr (a := w2) (by first | exact HB0.out | assumption | exact Below.alloc (by first | exact HB0.out | assumption) (Below.size (by first | exact HB0.out | assumption)) _) hBe)
    | (go_at_call 38; refine (HCO.out _ _ _ _ (by first | exact .inl ⟨rfl, rfl, rfl⟩ | exact .inr ⟨rfl, rfl, rfl⟩) (by first | exact HB0.out | assumption | exact Below.alloc (by first | exact HB0.out | assumption) (Below.size (by first | exact HB0.out | assumption)) _)).mono ?_; rintro e wc ⟨rfl, hBc⟩; have hbc := bel_tr (a := w2) (by first | exact HB0.out | assumption | exact Below.alloc (by first | exact HB0.out | assumption) (Below.size (by first | exact HB0.out | assumption)) _) hBc)
    | (go_at_call 31; refine (HBE.out _ _ _ _ (by first | exact .inl ⟨rfl, rfl, rfl⟩ | exact .inr ⟨rfl, rfl, rfl⟩) (by first | exact HB0.out | assumption | exact Below.alloc (by first | exact HB0.out | assumption) (Below.size (by first | exact HB0.out | assumption)) _)).mono ?_; rintro e w' ⟨rfl, rfl⟩)
    | (go_at_call 39; refine (HFA.out _ _ (by first | exact HB0.out | assumption | exact Below.alloc (by first | exact HB0.out | assumption) (Below.size (by first | exact HB0.out | assumption)) _) (blk_new _ _)).mono ?_; rintro e wf ⟨rfl, hBf⟩; have hbf := bel_tr (a := w2) (by first | exact HB0.out | assumption | exact Below.alloc (by first | exact HB0.out | assumption) (Below.size (by first | exact HB0.out | assumption)) _) hBf))
  go_ret
  exact ⟨rfl, bel_tr HB2.out hbf⟩
end Go.Proofs.YtbogcknkkbnfnaaDoor

/- What the listed variable's condition gives; opening classes. -/
namespace Go.Proofs.YtbogcknkkbnfnaaDoor
open Go.ChangeShapes Go.WideShapes Go.ChangeAt Go.WideMaps Go.WideElems Go.RowKit Go.Proofs.YtbogcknkkbnfnaaDoor.Op Go.Proofs.YtbogcknkkbnfnaaDoorW.PrintWords

theorem own : ownKnob Tryd.prog.godebug = none := by kernel_rfl
theorem laidOut : laidOutB Tryd.prog = true := by kernel_rfl
theorem gBuilt : Tryd.prog.globalNamed "warpbeam/link.builtIn" = some 0 := by kernel_rfl
theorem tBuilt : (Tryd.prog.globals[0]?).map (·.type) = some 155 := by kernel_rfl
theorem bytes_of {s : ByteArray} {l : List UInt8} (h : s.data.toList = l) : s = ⟨l.toArray⟩ := by
  cases s with
  | mk d => simp only at h; rw [← h]
section
variable {H : Type} {enc : TypeId × Value → H} {w : World} {base : Nat} {spare : Nat → Bool} {held : Bool} {fuel : Nat}
theorem cells_str {cs : List Value} {l : List UInt8} {p : List MemPlace} (h : DataW.trod enc Tryd.prog w base spare held fuel 9 cs = some (.lit (.string l), p)) : cs = [.string ⟨l.toArray⟩] := by
  obtain ⟨s, e1, e2, _⟩ := DataW.trod_string Tryd.underlying9 h
  simp only [Prod.mk.injEq, DataW.lit.injEq, Lit.string.injEq] at e2
  rw [e1, bytes_of e2.1.symm]
theorem list8 {cs : List Value} (hl : cs.length = 8) {a b c d e f g h : Value} (h0 : (cs.drop 0).take 1 = [a]) (h1 : (cs.drop 1).take 1 = [b]) (h2 : (cs.drop 2).take 1 = [c]) (h3 : (cs.drop 3).take 1 = [d]) (h4 : (cs.drop 4).take 1 = [e]) (h5 : (cs.drop 5).take 1 = [f]) (h6 : (cs.drop 6).take 1 = [g]) (h7 : (cs.drop 7).take 1 = [h]) : cs = [a, b, c, d, e, f, g, h] := by
  match cs, hl with
  | [x0, x1, x2, x3, x4, x5, x6, x7], _ =>
    simp at h0 h1 h2 h3 h4 h5 h6 h7
    subst h0 h1 h2 h3 h4 h5 h6 h7
    rfl
end
/-- The names lie in their block. -/
theorem bi_of_laid {W : World} (h : laidMetH Tryd.prog [("warpbeam/link.builtIn", Rows.laid_warpbeam_link_builtIn)] W) : Bi W := by
  rw [MakeChecks.laidMetH_plain _ _ _ (by kernel_rfl)] at h
  obtain ⟨ps, ⟨g0, t0, cs0, f0, p0, q0, hg0, ht0, hv0, hd0, _⟩, _, _⟩ := h
  obtain rfl := Option.some.inj (gBuilt.symm.trans hg0)
  obtain rfl := Option.some.inj (tBuilt.symm.trans ht0)
  obtain ⟨xs, m, rfl, hx, hl, hn, hel⟩ := DataW.trod_array Tryd.underlying155 hd0
  have c60 : Tryd.prog.cellsOf 9 = 1 := by kernel_rfl
  have c61 : Tryd.prog.cellsOf 155 = 8 := by kernel_rfl
  unfold Rows.laid_warpbeam_link_builtIn at hx
  simp only [Prod.mk.injEq, DataW.agg.injEq] at hx
  match xs, hn, hx with
  | [y0, y1, y2, y3, y4, y5, y6, y7], _, hx =>
    simp only [List.map_cons, List.map_nil, List.cons.injEq, and_true] at hx
    obtain ⟨⟨x0, x1, x2, x3, x4, x5, x6, x7⟩, _⟩ := hx
    have g0 := hel 0 (by decide)
    have g1 := hel 1 (by decide)
    have g2 := hel 2 (by decide)
    have g3 := hel 3 (by decide)
    have g4 := hel 4 (by decide)
    have g5 := hel 5 (by decide)
    have g6 := hel 6 (by decide)
    have g7 := hel 7 (by decide)
    simp only [c60, List.getElem?_cons_zero, List.getElem?_cons_succ] at g0 g1 g2 g3 g4 g5 g6 g7
    obtain ⟨y0a, y0b⟩ := y0; obtain ⟨y1a, y1b⟩ := y1; obtain ⟨y2a, y2b⟩ := y2; obtain ⟨y3a, y3b⟩ := y3; obtain ⟨y4a, y4b⟩ := y4; obtain ⟨y5a, y5b⟩ := y5; obtain ⟨y6a, y6b⟩ := y6; obtain ⟨y7a, y7b⟩ := y7
    simp only at x0 x1 x2 x3 x4 x5 x6 x7
    subst x0 x1 x2 x3 x4 x5 x6 x7
    have hcs := list8 (hl.trans c61) (cells_str g0) (cells_str g1) (cells_str g2) (cells_str g3) (cells_str g4) (cells_str g5) (cells_str g6) (cells_str g7)
    have hc : cs0 = biCells := by
      apply Array.ext'
      rw [hcs]
      rfl
    subst hc
    simp only [World.var?, gBuilt, Option.bind_some] at hv0
    split at hv0
    · rename_i c t fr hh
      simp only [Option.some.injEq] at hv0
      subst hv0
      exact ⟨_, _, hh⟩
    · cases hv0
/-- The door's own heap meets the condition. -/
theorem door_met (os : Os) (args : Array Value) : laidMetH Tryd.prog [("warpbeam/link.builtIn", Rows.laid_warpbeam_link_builtIn)] ((World.doorLaid Tryd.prog 400 os).forCall (fun _ _ => 0) ⟨#[], args, []⟩).memory :=
  laidMetH_of_parts3 (fuel := 8) (laidMet_of_run' 8 (by kernel_rfl) (by kernel_rfl)) (by kernel_rfl) (by kernel_rfl)
theorem toArray_of {cs : Array Value} {l : List Value} (h : cs.toList = l) : cs = l.toArray := by rw [← h]
set_option maxRecDepth 100000 in
theorem gCls_ok {l : List Cl} (h : gCls l) : (∀ x ∈ l, clOk x) ∧ l.length ≤ 1034834473171 ∧ l.length ≤ 9223372036854775807 := by
  obtain ⟨h1, h2⟩ := h
  have h3 : l.length * 136 ≤ 140737488351232 := h1
  exact ⟨fun x hx => h2 x hx, by omega, by omega⟩
end Go.Proofs.YtbogcknkkbnfnaaDoor

/- What the laws of sets share. -/
namespace Go.Proofs.YtbogcknkkbnfnaaDoor
open Go.RowKit Go.Proofs.YtbogcknkkbnfnaaDoorW.PrintWords Go.Maps Go.WideMaps

theorem newErr_ne {L : List Cl} {s : ByteArray} {x : Int} (h : newErr L = some (s, x)) : x ≠ 0 := by
  unfold newErr at h
  split at h
  · cases h; decide
  · split at h
    · cases h; decide
    · split at h
      · cases h; decide
      · split at h
        · cases h; decide
        · split at h
          · cases h; decide
          · cases h
/-- What New answers of heads. -/
def LawNew (l : List Cl) (W : World) (e : Ending) (w' : World) : Prop :=
  Below W.heap.size W w' ∧ ((∃ s x, e = .returned (.tuple #[.pointer none, .string s, .int .i64 x]) ∧ x ≠ 0) ∨ ∃ r p, Srtd r (l.map headOf) ∧ e = .returned (.tuple #[.pointer (some ⟨p, 0, none⟩), .string ⟨#[]⟩, .int .i64 0]) ∧ IsSet W.heap.size p (builtL ++ r) w')
theorem lawNew (l : List Cl) (n : Nat) (hn : l.length = n) (hbig : n ≤ 1034834473171) (hok : ∀ x ∈ l, clOk x) (A : Option Addr) (c : Nat) (W : World) (hBi : Bi W) (hC : kCl.C W A n (l.map headOf)) : Calls Tryd.prog 41 #[.slice A n c] W (LawNew l W) := by
  have hl : (l.map headOf).length = n := by rw [List.length_map, hn]
  rw [← hl] at hC ⊢
  refine (new_any A c (l.map headOf) W hBi hC (by omega) (fun x hx => by
    obtain ⟨y, hy, rfl⟩ := List.mem_map.1 hx
    exact headOf_ok (hok y hy))).mono ?_
  rintro e w' ⟨hB, h⟩
  refine ⟨hB, ?_⟩
  split at h
  · exact .inl ⟨_, _, h, by decide⟩
  · obtain ⟨r, hs, h⟩ := h
    split at h
    · rename_i s x he
      exact .inl ⟨s, x, h, newErr_ne he⟩
    · obtain ⟨p, he, hS⟩ := h
      exact .inr ⟨r, p, hs, he, hS⟩
theorem headsOf (A : Option Addr) (c : Nat) (l : List Cl) (n : Nat) (hn : l.length = n) (w : World) (hC : kCl.C w A n l) (hb : n ≤ 1034834473171) (hok : ∀ x ∈ l, clOk x) :
    Calls Tryd.prog 86 #[.slice A n c] w fun e w' => ∃ A1 c1, e = .returned (.slice A1 n c1) ∧ kCl.C w' A1 n (l.map headOf) ∧ Below w.heap.size w w' := by
  subst hn
  refine (heads_any A c l w hC hb hok).mono ?_
  rintro e w' ⟨v, rfl, hR, hB⟩
  obtain ⟨A', c', rfl⟩ := Kd.R_slice hR
  have h3 := (Kd.R_reads' hR).2.2
  rw [List.length_map] at h3 ⊢
  exact ⟨A', c', rfl, h3, hB⟩
/-- A question whether one stands below another, and its answer. -/
structure Bq (L : List Cl) (a b : Int) (v : Bool) : Prop where
  ex : ∃ x y : Nat, a = x ∧ b = y ∧ x < L.length ∧ y < L.length ∧ decide (y ∈ aboveOf L x) = v
theorem Bq.calls {B p : Nat} {L : List Cl} {w : World} (h : IsSet B p L w) (a b : Int) (v : Bool) (W : World) (q : Bq L a b v) (hW : Below w.heap.size w W) : Calls Tryd.prog 31 #[.pointer (some ⟨p, 0, none⟩), .int .i64 a, .int .i64 b] W fun e w' => e = .returned (.bool v) ∧ w' = W := by
  obtain ⟨x, y, rfl, rfl, hx, hy, rfl⟩ := q.ex
  exact below_in (h.step hW) hx hy
theorem mem_aboveOf {B p : Nat} {L : List Cl} {w : World} (h : IsSet B p L w) {x y : Nat} (hx : x < L.length) : y ∈ aboveOf L x ↔ Link.Reach (supF (supsL L L.length)) (fsF (facesL L L.length)) x y := h.good.mem_above hx
theorem mkQ {B p : Nat} {L : List Cl} {w : World} (h : IsSet B p L w) {x y N : Nat} (hN : L.length = N) (hx : x < N) (hy : y < N) {v : Bool} (hv : Link.Reach (supF (supsL L L.length)) (fsF (facesL L L.length)) x y ↔ v = true) : Bq L x y v :=
  ⟨x, y, rfl, rfl, by omega, by omega, by
    rw [Bool.eq_iff_iff, decide_eq_true_iff, mem_aboveOf h (by omega)]
    exact hv⟩
/-- What a number is brought to. -/
structure Brq (i : Int) (n z : Nat) : Prop where
  ex : br i n = z
theorem Brq.calls {n : Nat} (h0 : 0 < n) (hn : n ≤ 1000) (i : Int) (z : Nat) (w : World) (q : Brq i n z) : Calls Tryd.prog 30 #[.int .i64 i, .int .i64 n] w fun e w' => e = .returned (.int .i64 z) ∧ w' = w := by
  obtain ⟨rfl⟩ := q
  exact bring_any i n h0 hn w
/-- A question for the nearest class above both, and its answer. -/
structure Cq (L : List Cl) (a b c : Int) : Prop where
  ex : ∃ x y : Nat, a = x ∧ b = y ∧ x < L.length ∧ y < L.length ∧ commonOf L x y = c
theorem Cq.calls {B p : Nat} {L : List Cl} {w : World} (h : IsSet B p L w) (a b c : Int) (W : World) (q : Cq L a b c) (hW : Below w.heap.size w W) : Calls Tryd.prog 38 #[.pointer (some ⟨p, 0, none⟩), .int .i64 a, .int .i64 b] W fun e w' => e = .returned (.int .i64 c) ∧ Below W.heap.size W w' := by
  obtain ⟨x, y, rfl, rfl, hx, hy, rfl⟩ := q.ex
  exact common_in (h.step hW) hx hy
theorem common_step {n : Nat} {sup : Nat → Int} {fs : Nat → List Nat} {face : Nat → Bool} (G : Link.Good n sup fs face) {i y c : Nat} (hi : i < n) (hc : Link.commonL n sup i y = c) (hne : i ≠ c) : ∃ u : Nat, sup i = u ∧ u < n ∧ Link.commonL n sup u y = c ∧ Link.rank n sup fs u < Link.rank n sup fs i := by
  by_cases h0 : i = 0
  · subst h0
    exfalso
    unfold Link.commonL at hc
    rw [G.chain_zero] at hc
    by_cases hm : 0 ∈ Link.chainL n sup y
    · rw [List.find?_cons_of_pos (by simpa using hm)] at hc
      simp only at hc
      omega
    · rw [List.find?_cons_of_neg (by simpa using hm)] at hc
      simp at hc
  · have hs := G.sup_lt i (by omega) hi
    obtain ⟨u, hu⟩ := Int.eq_ofNat_of_zero_le hs.1
    refine ⟨u, hu, by omega, ?_, G.rank_lt hi (.inl (by omega))⟩
    unfold Link.commonL at hc ⊢
    rw [G.chain_step (by omega) hi, hu, Int.toNat_natCast] at hc
    by_cases hm : i ∈ Link.chainL n sup y
    · rw [List.find?_cons_of_pos (by simpa using hm)] at hc
      simp only at hc
      omega
    · rw [List.find?_cons_of_neg (by simpa using hm)] at hc
      exact hc
end Go.Proofs.YtbogcknkkbnfnaaDoor

