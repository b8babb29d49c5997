/- New's steps: its five function values; what they come to. -/
import Derived.Test.YtbogcknkkbnfnaaDoorMc
import Derived.Test.YtbogcknkkbnfnaaDoorKs
namespace Go.Proofs.YtbogcknkkbnfnaaDoor
open Go.RowKit Go.Proofs.YtbogcknkkbnfnaaDoorW.PrintWords Go.Maps Go.WideMaps

theorem bn_small (j : Nat) : (bn j).size ≤ 9 := by
  match j with
  | 0 | 1 | 2 | 3 | 4 | 5 | 6 => decide
  | n + 7 => show (ByteArray.mk #[83, 116, 111, 114, 101]).size ≤ 9; decide
theorem builtL_ok : ∀ x ∈ builtL, clOk x := by
  intro x hx
  simp only [builtL, List.mem_map, List.mem_range] at hx
  obtain ⟨j, hj, rfl⟩ := hx
  refine ⟨?_, ?_, Nat.zero_le _, fun s hs => by cases hs⟩
  · have := bn_small j
    show (bn j).size ≤ _
    omega
  · show (if j ≤ 1 then bn 0 else bn 1).size ≤ _
    have h0 := bn_small 0
    have h1 := bn_small 1
    split <;> omega
theorem builtL_len : builtL.length = 8 := by simp [builtL]
/-- Those handed in, by their names. -/
def Srtd (r l : List Cl) : Prop := r.Perm l ∧ r.Pairwise (fun x y => less y.name x.name = false)
def dupErr (L : List Cl) : Option ByteArray := (firstI (dupAt L) L.length).map (fun k => (L.getD k zCl).name)
noncomputable def newErr (L : List Cl) : Option (ByteArray × Int) :=
  match dupErr L with
  | some s => some (s, 92)
  | none => match joinErr L with
    | some s => some (s, 90)
    | none => match firstNo L (upFit L (supsL L L.length)) with
      | some s => some (s, 90)
      | none => match firstNo L (facesP L (facesL L L.length)) with
        | some s => some (s, 90)
        | none => match firstNo L (ringP (supsL L L.length) (facesL L L.length)) with
          | some s => some (s, 91)
          | none => none
/-- How far New has come: j of its steps are done. -/
def NewAt (w0 : World) (p m : Nat) (l : List Cl) : Nat → World → Prop
  | 0, w => NSt w0 p m (.slice none 0 0) [] [] w
  | 1, w => ∃ r cV, Srtd r l ∧ dupErr (builtL ++ r) = none ∧ NSt w0 p m cV (builtL ++ r) (builtL ++ r) w
  | j + 2, w => ∃ r cV sV fV, Srtd r l ∧ dupErr (builtL ++ r) = none ∧ joinErr (builtL ++ r) = none ∧
      (1 ≤ j → firstNo (builtL ++ r) (upFit (builtL ++ r) (supsL (builtL ++ r) (builtL ++ r).length)) = none) ∧
      (2 ≤ j → firstNo (builtL ++ r) (facesP (builtL ++ r) (facesL (builtL ++ r) (builtL ++ r).length)) = none) ∧
      (3 ≤ j → firstNo (builtL ++ r) (ringP (supsL (builtL ++ r) (builtL ++ r).length) (facesL (builtL ++ r) (builtL ++ r).length)) = none) ∧
      JSt w0 p m cV (builtL ++ r) sV (supsL (builtL ++ r) (builtL ++ r).length) fV (facesL (builtL ++ r) (builtL ++ r).length) w
theorem NewAt.fix {w0 : World} {p m : Nat} {l : List Cl} {j : Nat} {w : World} (h : NewAt w0 p m l j w) : Fix p w ∧ Below w0.heap.size w0 w := by
  match j, h with
  | 0, h => exact ⟨NSt.fix h, NSt.below h⟩
  | 1, ⟨_, _, _, _, h⟩ => exact ⟨h.fix, h.below⟩
  | j + 2, ⟨_, _, _, _, _, _, _, _, _, _, h⟩ => exact ⟨h.fix, h.below⟩
/-- What one step comes to. -/
def StepPost (w0 : World) (p m : Nat) (l : List Cl) (j : Nat) (e : Ending) (w' : World) : Prop :=
  Below w0.heap.size w0 w' ∧ ∃ s x, e = .returned (.tuple #[.string s, .int .i64 x]) ∧ ((x ≠ 0 ∧ ∃ r, Srtd r l ∧ newErr (builtL ++ r) = some (s, x)) ∨ (x = 0 ∧ s = ⟨#[]⟩ ∧ NewAt w0 p m l (j + 1) w'))
theorem srtd_len {r l : List Cl} (h : Srtd r l) (hl : l.length ≤ 64) : 0 < (builtL ++ r).length ∧ (builtL ++ r).length ≤ 72 := by
  rw [List.length_append, builtL_len, h.1.length_eq]
  omega
theorem srtd_ok {r l : List Cl} (h : Srtd r l) (hok : ∀ x ∈ l, clOk x) : ∀ x ∈ builtL ++ r, clOk x := by
  intro x hx
  rcases List.mem_append.1 hx with hx | hx
  · exact builtL_ok x hx
  · exact hok x (h.1.mem_iff.1 hx)
section
variable {w0 w : World} {p m : Nat} {l : List Cl}
theorem step0 (A : Option Addr) (c : Nat) (hBi : Bi w0) (hp : w0.heap.size ≤ p) (hmb : w0.heap.size ≤ m) (hC : kCl.C w0 A l.length l) (hl : l.length ≤ 64) (hok : ∀ x ∈ l, clOk x) (h : NewAt w0 p m l 0 w) :
    Calls Tryd.prog 75 #[.pointer (some ⟨p, 0, none⟩), .slice A l.length c] w (StepPost w0 p m l 0) := by
  refine (named_any w0 p m A c l w hBi hp hmb h hC hl hok).mono ?_
  rintro e w' ⟨r, h1, h2, hB, hm⟩
  refine ⟨hB, ?_⟩
  cases hd : firstI (dupAt (builtL ++ r)) (builtL ++ r).length with
  | some k =>
    rw [hd] at hm
    exact ⟨_, _, hm, .inl ⟨by decide, r, ⟨h1, h2⟩, by unfold newErr dupErr; rw [hd]; rfl⟩⟩
  | none =>
    rw [hd] at hm
    obtain ⟨he, cV, hN⟩ := hm
    exact ⟨_, _, he, .inr ⟨rfl, rfl, r, cV, ⟨h1, h2⟩, by unfold dupErr; rw [hd]; rfl, hN⟩⟩
theorem step1 (hp : w0.heap.size ≤ p) (hl : l.length ≤ 64) (hok : ∀ x ∈ l, clOk x) (h : NewAt w0 p m l 1 w) :
    Calls Tryd.prog 76 #[.pointer (some ⟨p, 0, none⟩)] w (StepPost w0 p m l 1) := by
  obtain ⟨r, cV, hs, hd, hN⟩ := h
  have hlen := srtd_len hs hl
  refine (joined_any w0 p m cV (builtL ++ r) w hp hN hlen.2 hlen.1 (srtd_ok hs hok)).mono ?_
  rintro e w' ⟨hB, hm⟩
  refine ⟨hB, ?_⟩
  cases hj : joinErr (builtL ++ r) with
  | some s =>
    rw [hj] at hm
    exact ⟨_, _, hm, .inl ⟨by decide, r, hs, by unfold newErr; rw [hd, hj]⟩⟩
  | none =>
    rw [hj] at hm
    obtain ⟨he, sV, fV, hJ⟩ := hm
    exact ⟨_, _, he, .inr ⟨rfl, rfl, r, cV, sV, fV, hs, hd, hj, fun h => absurd h (by decide), fun h => absurd h (by decide), fun h => absurd h (by decide), hJ⟩⟩
theorem step2 (hl : l.length ≤ 64) (hok : ∀ x ∈ l, clOk x) (h : NewAt w0 p m l 2 w) :
    Calls Tryd.prog 78 #[.pointer (some ⟨p, 0, none⟩), .func (.func 79) #[.pointer (some ⟨p, 0, none⟩)] #[], .int .i64 90] w (StepPost w0 p m l 2) := by
  obtain ⟨r, cV, sV, fV, hs, hd, hj, h1, h2, h3, hJ⟩ := h
  have hlen := srtd_len hs hl
  have hok2 := srtd_ok hs hok
  obtain ⟨g, cap, gs, cs, gf, cf, _, _, _, hV⟩ := hJ.view hlen.1 hlen.2 hok2
  refine (first_up p g _ cap m gs cs gf cf _ _ _ _ w hV  90 hok2).mono ?_
  rintro e w' ⟨hB, hm⟩
  refine ⟨below_weaken hJ.below hJ.below.size hB, ?_⟩
  cases hf : firstNo (builtL ++ r) (upFit (builtL ++ r) (supsL (builtL ++ r) (builtL ++ r).length)) with
  | some s =>
    rw [hf] at hm
    exact ⟨_, _, hm, .inl ⟨by decide, r, hs, by unfold newErr; rw [hd, hj]; rw [hf]⟩⟩
  | none =>
    rw [hf] at hm
    exact ⟨_, _, hm, .inr ⟨rfl, rfl, r, cV, sV, fV, hs, hd, hj, fun _ => hf, fun h => absurd h (by decide), fun h => absurd h (by decide), hJ.step hB⟩⟩
theorem step3 (hl : l.length ≤ 64) (hok : ∀ x ∈ l, clOk x) (h : NewAt w0 p m l 3 w) :
    Calls Tryd.prog 78 #[.pointer (some ⟨p, 0, none⟩), .func (.func 81) #[.pointer (some ⟨p, 0, none⟩)] #[], .int .i64 90] w (StepPost w0 p m l 3) := by
  obtain ⟨r, cV, sV, fV, hs, hd, hj, h1, h2, h3, hJ⟩ := h
  have hlen := srtd_len hs hl
  have hok2 := srtd_ok hs hok
  obtain ⟨g, cap, gs, cs, gf, cf, _, _, _, hV⟩ := hJ.view hlen.1 hlen.2 hok2
  refine (first_faces p g _ cap m gs cs gf cf _ _ _ _ w hV  90 hok2).mono ?_
  rintro e w' ⟨hB, hm⟩
  refine ⟨below_weaken hJ.below hJ.below.size hB, ?_⟩
  cases hf : firstNo (builtL ++ r) (facesP (builtL ++ r) (facesL (builtL ++ r) (builtL ++ r).length)) with
  | some s =>
    rw [hf] at hm
    exact ⟨_, _, hm, .inl ⟨by decide, r, hs, by unfold newErr; rw [hd, hj]; rw [h1 (by decide), hf]⟩⟩
  | none =>
    rw [hf] at hm
    exact ⟨_, _, hm, .inr ⟨rfl, rfl, r, cV, sV, fV, hs, hd, hj, fun _ => h1 (by decide), fun _ => hf, fun h => absurd h (by decide), hJ.step hB⟩⟩
theorem step4 (hl : l.length ≤ 64) (hok : ∀ x ∈ l, clOk x) (h : NewAt w0 p m l 4 w) :
    Calls Tryd.prog 78 #[.pointer (some ⟨p, 0, none⟩), .func (.func 83) #[] #[.pointer (some ⟨p + 1, 0, none⟩)], .int .i64 91] w (StepPost w0 p m l 4) := by
  obtain ⟨r, cV, sV, fV, hs, hd, hj, h1, h2, h3, hJ⟩ := h
  have hlen := srtd_len hs hl
  have hok2 := srtd_ok hs hok
  obtain ⟨g, cap, gs, cs, gf, cf, _, _, _, hV⟩ := hJ.view hlen.1 hlen.2 hok2
  refine (first_ring p g _ cap m gs cs gf cf _ _ _ _ w hV _ hJ.fix.k1 91 hok2).mono ?_
  rintro e w' ⟨hB, hm⟩
  refine ⟨below_weaken hJ.below hJ.below.size hB, ?_⟩
  cases hf : firstNo (builtL ++ r) (ringP (supsL (builtL ++ r) (builtL ++ r).length) (facesL (builtL ++ r) (builtL ++ r).length)) with
  | some s =>
    rw [hf] at hm
    exact ⟨_, _, hm, .inl ⟨by decide, r, hs, by unfold newErr; rw [hd, hj]; rw [h1 (by decide), h2 (by decide), hf]⟩⟩
  | none =>
    rw [hf] at hm
    exact ⟨_, _, hm, .inr ⟨rfl, rfl, r, cV, sV, fV, hs, hd, hj, fun _ => h1 (by decide), fun _ => h2 (by decide), fun _ => hf, hJ.step hB⟩⟩
end
set_option maxRecDepth 100000 in
set_option maxHeartbeats 4000000 in
theorem clo0 (w0 w : World) (p m : Nat) (l : List Cl) (A : Option Addr) (c : Nat) (hBi : Bi w0) (hp : w0.heap.size ≤ p) (hmb : w0.heap.size ≤ m) (hC : kCl.C w0 A l.length l) (hb0 : w0.heap[p - 2]? = some (.cells #[.slice A l.length c] 22 (0, 0))) (hl : l.length ≤ 64) (hok : ∀ x ∈ l, clOk x) (h : NewAt w0 p m l 0 w) :
    Calls Tryd.prog 74 #[.pointer (some ⟨p + 1, 0, none⟩), .pointer (some ⟨p - 2, 0, none⟩)] w (StepPost w0 p m l 0) := by
  have HC := hid (step0 A c hBi hp hmb hC hl hok h)
  have c1 := blk_cell h.fix.1.k1 0
  have c0 := blk_cell (blk_below hb0 h.fix.2) 0
  clear h
  go_enter Tryd.func74, Tryd.ntmps74
  go_wp2_with (go_at_call 75; refine HC.out.mono ?_; rintro e w' ⟨hB, s, x, rfl, hP⟩; have HB := hid hB; have HP := hid hP; clear hB hP)
  go_ret2
  exact ⟨HB.out, s, x, rfl, HP.out⟩
set_option maxRecDepth 100000 in
set_option maxHeartbeats 4000000 in
theorem clo2 (w0 w : World) (p m : Nat) (l : List Cl) (hl : l.length ≤ 64) (hok : ∀ x ∈ l, clOk x) (h : NewAt w0 p m l 2 w) :
    Calls Tryd.prog 77 #[.pointer (some ⟨p + 1, 0, none⟩)] w (StepPost w0 p m l 2) := by
  have HC := hid (step2 hl hok h)
  have c1 := blk_cell h.fix.1.k1 0
  skip
  clear h
  go_enter Tryd.func77, Tryd.ntmps77
  go_wp2_with (go_at_call 78; refine HC.out.mono ?_; rintro e w' ⟨hB, s, x, rfl, hP⟩; have HB := hid hB; have HP := hid hP; clear hB hP)
  go_ret2
  exact ⟨HB.out, s, x, rfl, HP.out⟩
set_option maxRecDepth 100000 in
set_option maxHeartbeats 4000000 in
theorem clo3 (w0 w : World) (p m : Nat) (l : List Cl) (hl : l.length ≤ 64) (hok : ∀ x ∈ l, clOk x) (h : NewAt w0 p m l 3 w) :
    Calls Tryd.prog 80 #[.pointer (some ⟨p + 1, 0, none⟩)] w (StepPost w0 p m l 3) := by
  have HC := hid (step3 hl hok h)
  have c1 := blk_cell h.fix.1.k1 0
  skip
  clear h
  go_enter Tryd.func80, Tryd.ntmps80
  go_wp2_with (go_at_call 78; refine HC.out.mono ?_; rintro e w' ⟨hB, s, x, rfl, hP⟩; have HB := hid hB; have HP := hid hP; clear hB hP)
  go_ret2
  exact ⟨HB.out, s, x, rfl, HP.out⟩
set_option maxRecDepth 100000 in
set_option maxHeartbeats 4000000 in
theorem clo4 (w0 w : World) (p m : Nat) (l : List Cl) (hl : l.length ≤ 64) (hok : ∀ x ∈ l, clOk x) (h : NewAt w0 p m l 4 w) :
    Calls Tryd.prog 82 #[.pointer (some ⟨p + 1, 0, none⟩)] w (StepPost w0 p m l 4) := by
  have HC := hid (step4 hl hok h)
  have c1 := blk_cell h.fix.1.k1 0
  skip
  clear h
  go_enter Tryd.func82, Tryd.ntmps82
  go_wp2_with (go_at_call 78; refine HC.out.mono ?_; rintro e w' ⟨hB, s, x, rfl, hP⟩; have HB := hid hB; have HP := hid hP; clear hB hP)
  go_ret2
  exact ⟨HB.out, s, x, rfl, HP.out⟩
end Go.Proofs.YtbogcknkkbnfnaaDoor
