/- What the laws of sets share. -/
import Derived.Test.YtlihpmhnlooapaaDoorMq
import Derived.BigQuiet
namespace Go.Proofs.YtlihpmhnlooapaaDoor
open Go.RowKit Go.Proofs.YtlihpmhnlooapaaDoorW.PrintWords Go.Maps Go.WideMaps

theorem newErr_ne {L : List Cl} {s : ByteArray} {x : Int} (h : newErr L = some (s, x)) : x ≠ 0 := by
  unfold newErr at h
  split at h
  · cases h; decide
  · split at h
    · cases h; decide
    · split at h
      · cases h; decide
      · split at h
        · cases h; decide
        · split at h
          · cases h; decide
          · cases h
/-- What New answers of heads. -/
def LawNew (l : List Cl) (W : World) (e : Ending) (w' : World) : Prop :=
  Below W.heap.size W w' ∧ ((∃ s x, e = .returned (.tuple #[.pointer none, .string s, .int .i64 x]) ∧ x ≠ 0) ∨ ∃ r p, Srtd r (l.map headOf) ∧ e = .returned (.tuple #[.pointer (some ⟨p, 0, none⟩), .string ⟨#[]⟩, .int .i64 0]) ∧ IsSet W.heap.size p (builtL ++ r) w')
theorem lawNew (l : List Cl) (n : Nat) (hn : l.length = n) (hbig : n ≤ 1034834473171) (hok : ∀ x ∈ l, clOk x) (A : Option Addr) (c : Nat) (W : World) (hBi : Bi W) (hC : kCl.C W A n (l.map headOf)) : Calls Tryd.prog 14 #[.slice A n c] W (LawNew l W) := by
  have hl : (l.map headOf).length = n := by rw [List.length_map, hn]
  rw [← hl] at hC ⊢
  refine (new_any A c (l.map headOf) W hBi hC (by omega) (fun x hx => by
    obtain ⟨y, hy, rfl⟩ := List.mem_map.1 hx
    exact headOf_ok (hok y hy))).mono ?_
  rintro e w' ⟨hB, h⟩
  refine ⟨hB, ?_⟩
  split at h
  · exact .inl ⟨_, _, h, by decide⟩
  · obtain ⟨r, hs, h⟩ := h
    split at h
    · rename_i s x he
      exact .inl ⟨s, x, h, newErr_ne he⟩
    · obtain ⟨p, he, hS⟩ := h
      exact .inr ⟨r, p, hs, he, hS⟩
theorem headsOf (A : Option Addr) (c : Nat) (l : List Cl) (n : Nat) (hn : l.length = n) (w : World) (hC : kCl.C w A n l) (hb : n ≤ 1034834473171) (hok : ∀ x ∈ l, clOk x) :
    Calls Tryd.prog 15 #[.slice A n c] w fun e w' => ∃ A1 c1, e = .returned (.slice A1 n c1) ∧ kCl.C w' A1 n (l.map headOf) ∧ Below w.heap.size w w' := by
  subst hn
  refine (heads_any A c l w hC hb hok).mono ?_
  rintro e w' ⟨v, rfl, hR, hB⟩
  obtain ⟨A', c', rfl⟩ := Kd.R_slice hR
  have h3 := (Kd.R_reads' hR).2.2
  rw [List.length_map] at h3 ⊢
  exact ⟨A', c', rfl, h3, hB⟩
/-- A question whether one stands below another, and its answer. -/
structure Bq (L : List Cl) (a b : Int) (v : Bool) : Prop where
  ex : ∃ x y : Nat, a = x ∧ b = y ∧ x < L.length ∧ y < L.length ∧ decide (y ∈ aboveOf L x) = v
theorem Bq.calls {B p : Nat} {L : List Cl} {w : World} (h : IsSet B p L w) (a b : Int) (v : Bool) (W : World) (q : Bq L a b v) (hW : Below w.heap.size w W) : Calls Tryd.prog 21 #[.pointer (some ⟨p, 0, none⟩), .int .i64 a, .int .i64 b] W fun e w' => e = .returned (.bool v) ∧ w' = W := by
  obtain ⟨x, y, rfl, rfl, hx, hy, rfl⟩ := q.ex
  exact below_in (h.step hW) hx hy
theorem mem_aboveOf {B p : Nat} {L : List Cl} {w : World} (h : IsSet B p L w) {x y : Nat} (hx : x < L.length) : y ∈ aboveOf L x ↔ Link.Reach (supF (supsL L L.length)) (fsF (facesL L L.length)) x y := h.good.mem_above hx
theorem mkQ {B p : Nat} {L : List Cl} {w : World} (h : IsSet B p L w) {x y N : Nat} (hN : L.length = N) (hx : x < N) (hy : y < N) {v : Bool} (hv : Link.Reach (supF (supsL L L.length)) (fsF (facesL L L.length)) x y ↔ v = true) : Bq L x y v :=
  ⟨x, y, rfl, rfl, by omega, by omega, by
    rw [Bool.eq_iff_iff, decide_eq_true_iff, mem_aboveOf h (by omega)]
    exact hv⟩
/-- What a number is brought to. -/
structure Brq (i : Int) (n z : Nat) : Prop where
  ex : br i n = z
theorem Brq.calls {n : Nat} (h0 : 0 < n) (hn : n ≤ 1000) (i : Int) (z : Nat) (w : World) (q : Brq i n z) : Calls Tryd.prog 17 #[.int .i64 i, .int .i64 n] w fun e w' => e = .returned (.int .i64 z) ∧ w' = w := by
  obtain ⟨rfl⟩ := q
  exact bring_any i n h0 hn w
/-- A question for the nearest class above both, and its answer. -/
structure Cq (L : List Cl) (a b c : Int) : Prop where
  ex : ∃ x y : Nat, a = x ∧ b = y ∧ x < L.length ∧ y < L.length ∧ commonOf L x y = c
theorem Cq.calls {B p : Nat} {L : List Cl} {w : World} (h : IsSet B p L w) (a b c : Int) (W : World) (q : Cq L a b c) (hW : Below w.heap.size w W) : Calls Tryd.prog 28 #[.pointer (some ⟨p, 0, none⟩), .int .i64 a, .int .i64 b] W fun e w' => e = .returned (.int .i64 c) ∧ Below W.heap.size W w' := by
  obtain ⟨x, y, rfl, rfl, hx, hy, rfl⟩ := q.ex
  exact common_in (h.step hW) hx hy
theorem common_step {n : Nat} {sup : Nat → Int} {fs : Nat → List Nat} {face : Nat → Bool} (G : Link.Good n sup fs face) {i y c : Nat} (hi : i < n) (hc : Link.commonL n sup i y = c) (hne : i ≠ c) : ∃ u : Nat, sup i = u ∧ u < n ∧ Link.commonL n sup u y = c ∧ Link.rank n sup fs u < Link.rank n sup fs i := by
  by_cases h0 : i = 0
  · subst h0
    exfalso
    unfold Link.commonL at hc
    rw [G.chain_zero] at hc
    by_cases hm : 0 ∈ Link.chainL n sup y
    · rw [List.find?_cons_of_pos (by simpa using hm)] at hc
      simp only at hc
      omega
    · rw [List.find?_cons_of_neg (by simpa using hm)] at hc
      simp at hc
  · have hs := G.sup_lt i (by omega) hi
    obtain ⟨u, hu⟩ := Int.eq_ofNat_of_zero_le hs.1
    refine ⟨u, hu, by omega, ?_, G.rank_lt hi (.inl (by omega))⟩
    unfold Link.commonL at hc ⊢
    rw [G.chain_step (by omega) hi, hu, Int.toNat_natCast] at hc
    by_cases hm : i ∈ Link.chainL n sup y
    · rw [List.find?_cons_of_pos (by simpa using hm)] at hc
      simp only at hc
      omega
    · rw [List.find?_cons_of_neg (by simpa using hm)] at hc
      exact hc
end Go.Proofs.YtlihpmhnlooapaaDoor
