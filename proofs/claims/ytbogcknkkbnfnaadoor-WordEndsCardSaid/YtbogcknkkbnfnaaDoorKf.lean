/- The sort's worlds; the exchange of two ranges. -/
import Derived.Test.YtbogcknkkbnfnaaDoorKe
import Derived.BigQuiet
import Derived.BigRegion
import Derived.Deep.RegionHeld3
namespace Go.Proofs.YtbogcknkkbnfnaaDoor
open Go.RowKit Go.Proofs.YtbogcknkkbnfnaaDoorW.PrintWords

/-- Only block g has changed, and what is new; g holds d. -/
structure SWr (g : Nat) (tl : List Value) (w0 : World) (d : List El) (W : World) : Prop where
  below : Below g w0 W
  size : w0.heap.size ≤ W.heap.size
  block : ∀ i, i < w0.heap.size → i ≠ g → W.heap[i]? = w0.heap[i]?
  row : Row g tl d W
theorem SWr.start {g : Nat} {tl : List Value} {d : List El} {w : World} (h : Row g tl d w) : SWr g tl w d w := ⟨Below.refl _ _, Nat.le_refl _, fun _ _ _ => rfl, h⟩
theorem SWr.alloc {g : Nat} {tl : List Value} {w0 W : World} {d : List El} (h : SWr g tl w0 d W) (o : Obj) : SWr g tl w0 d (W.alloc o) :=
  ⟨h.below.alloc (Nat.le_of_lt h.row.lt) _, by simp only [World.alloc, Array.size_push]; have := h.size; omega, fun i hi hg => (Below.heap_alloc W o i (Nat.lt_of_lt_of_le hi h.size)).trans (h.block i hi hg), blk_alloc h.row o⟩
theorem SWr.drewN {g : Nat} {tl : List Value} {w0 W : World} {d : List El} (h : SWr g tl w0 d W) (n : Nat) : SWr g tl w0 d (W.drewN n) :=
  ⟨h.below.trans ⟨rfl, rfl, rfl, Nat.le_refl _, fun _ _ => rfl⟩, h.size, h.block, h.row⟩
theorem putEl_size (w : World) (g i : Nat) (e : El) : (putEl w g i e).heap.size = w.heap.size := by simp [putEl]
theorem putEl_block (w : World) (g i : Nat) (e : El) (k : Nat) (h : k ≠ g) : (putEl w g i e).heap[k]? = w.heap[k]? := by
  unfold putEl
  simp only [Below.heap_setCell _ ⟨g, _, none⟩ _ k h]
theorem putEl_below (w : World) (g i : Nat) (e : El) : Below g w (putEl w g i e) :=
  (((((((Below.refl g w).setCell (Nat.le_refl g) _).setCell (Nat.le_refl g) _).setCell (Nat.le_refl g) _).setCell (Nat.le_refl g) _).setCell (Nat.le_refl g) _).setCell (Nat.le_refl g) _).setCell (Nat.le_refl g) _
theorem SWr.put {g : Nat} {tl : List Value} {w0 W : World} {d : List El} (h : SWr g tl w0 d W) (i : Nat) (e : El) (hi : i < d.length) : SWr g tl w0 (d.set i e) (putEl W g i e) :=
  ⟨h.below.trans (putEl_below W g i e), by rw [putEl_size]; exact h.size, fun k hk hg => (putEl_block W g i e k hg).trans (h.block k hk hg), h.row.put i e hi⟩
/-- Two elements exchanged. -/
def swp (d : List El) (i j : Nat) : List El := (d.set i (d.getD j zEl)).set j (d.getD i zEl)
theorem swp_len (d : List El) (i j : Nat) : (swp d i j).length = d.length := by simp [swp]
theorem SWr.swap {g : Nat} {tl : List Value} {w0 W : World} {d : List El} (h : SWr g tl w0 d W) (i j : Nat) (hi : i < d.length) (hj : j < d.length) : SWr g tl w0 (swp d i j) (putEl (putEl W g i (d.getD j zEl)) g j (d.getD i zEl)).drew :=
  ((h.put i (d.getD j zEl) hi).put j (d.getD i zEl) (by simpa using hj)).drewN 1
/-- k elements of two ranges, exchanged. -/
def swpN (d : List El) (a b : Nat) : Nat → List El
  | 0 => d
  | k + 1 => swp (swpN d a b k) (a + k) (b + k)
theorem swpN_len (d : List El) (a b k : Nat) : (swpN d a b k).length = d.length := by
  induction k with
  | zero => rfl
  | succ k ih => rw [swpN, swp_len, ih]

/-- The cells of one element, and that they may be written. -/
theorem Row.el {g : Nat} {tl : List Value} {d : List El} {w : World} (h : Row g tl d w) (i : Nat) (hi : i < d.length) :
    w.cell? ⟨g, i * 7, none⟩ = some (.slice (d.getD i zEl).p.a (d.getD i zEl).p.n (d.getD i zEl).p.c) ∧ w.cell? ⟨g, i * 7 + 1, none⟩ = some (.string (d.getD i zEl).n) ∧ w.cell? ⟨g, i * 7 + 2, none⟩ = some (.string (d.getD i zEl).s) ∧ w.cell? ⟨g, i * 7 + 3, none⟩ = some (.bool (d.getD i zEl).b) ∧ w.cell? ⟨g, i * 7 + 4, none⟩ = some (.slice (d.getD i zEl).f.a (d.getD i zEl).f.n (d.getD i zEl).f.c) ∧ w.cell? ⟨g, i * 7 + 5, none⟩ = some (.slice (d.getD i zEl).l.a (d.getD i zEl).l.n (d.getD i zEl).l.c) ∧ w.cell? ⟨g, i * 7 + 6, none⟩ = some (.slice (d.getD i zEl).m.a (d.getD i zEl).m.n (d.getD i zEl).m.c) :=
  ⟨h.cell i 0 hi (by decide), h.cell i 1 hi (by decide), h.cell i 2 hi (by decide), h.cell i 3 hi (by decide), h.cell i 4 hi (by decide), h.cell i 5 hi (by decide), h.cell i 6 hi (by decide)⟩
theorem Row.fr {g : Nat} {tl : List Value} {d : List El} {w : World} (h : Row g tl d w) (i : Nat) : w.frozen? ⟨g, i * 7, none⟩ = false ∧ w.frozen? ⟨g, i * 7 + 1, none⟩ = false ∧ w.frozen? ⟨g, i * 7 + 2, none⟩ = false ∧ w.frozen? ⟨g, i * 7 + 3, none⟩ = false ∧ w.frozen? ⟨g, i * 7 + 4, none⟩ = false ∧ w.frozen? ⟨g, i * 7 + 5, none⟩ = false ∧ w.frozen? ⟨g, i * 7 + 6, none⟩ = false :=
  ⟨h.frozen _, h.frozen _, h.frozen _, h.frozen _, h.frozen _, h.frozen _, h.frozen _⟩

set_option maxHeartbeats 2000000 in
theorem swapRange_any (g c : Nat) (tl : List Value) (f : Value) (d : List El) (N a b n : Nat) (w0 w : World) (hW : SWr g tl w0 d w) (hN : d.length = N) (ha : a + n ≤ b) (hb : b + n ≤ N) (hl : N ≤ 4611686018427387903) :
    Calls Tryd.prog 168 #[.slice (some ⟨g, 0, none⟩) N c, .int .i64 a, .int .i64 b, .int .i64 n, f] w fun e w' => e = .returned (.tuple #[]) ∧ SWr g tl w0 (swpN d a b n) w' := by
  have HN := hid hN
  clear hN
  go_enter Tryd.func168, Tryd.ntmps168
  go_wp2
  go_loopw [10] (fun i wr => ∃ k : Nat, k ≤ n ∧ i = .int .i64 k ∧ SWr g tl w0 (swpN d a b k) wr) (fun i _ => n - (intOf i).toNat)
  case atStart => exact ⟨0, by omega, rfl, hW⟩
  obtain ⟨k, hk, rfl, hW⟩ := hrel
  by_cases hlt : k < n
  · have hlen := swpN_len d a b k
    rw [HN.out] at hlen
    have hi : a + k < (swpN d a b k).length := by omega
    have hj : b + k < (swpN d a b k).length := by omega
    have HS := hid (hW.swap (a + k) (b + k) hi hj)
    obtain ⟨fa0, fa1, fa2, fa3, fa4, fa5, fa6⟩ := hW.row.fr (a + k)
    obtain ⟨fb0, fb1, fb2, fb3, fb4, fb5, fb6⟩ := hW.row.fr (b + k)
    obtain ⟨c0, c1, c2, c3, c4, c5, c6⟩ := hW.row.el (a + k) hi
    obtain ⟨e0, e1, e2, e3, e4, e5, e6⟩ := hW.row.el (b + k) hj
    have zg := hW.row.lt
    have hk1 : ((k : Int) + 1).toNat = k + 1 := by omega
    have t1 : ((a : Int) + k).toNat = a + k := by omega
    have t2 : ((b : Int) + k).toNat = b + k := by omega
    have wp1 : IntKind.i64.wrap ((a : Int) + k) = (a : Int) + k := IntWalk.i64_in _ (by omega)
    have wp2 : IntKind.i64.wrap ((b : Int) + k) = (b : Int) + k := IntWalk.i64_in _ (by omega)
    have p1 : 0 ≤ (a : Int) + k := by omega
    have p2 : 0 ≤ (b : Int) + k := by omega
    have l1 : (a : Int) + k < N := by omega
    have l2 : (b : Int) + k < N := by omega
    clear hW hi hj hlen
    generalize (swpN d a b k).getD (a + k) zEl = x at *
    generalize (swpN d a b k).getD (b + k) zEl = y at *
    go_wp2_with fail
    go_region
    clear c0 c1 c2 c3 c4 c5 c6 e0 e1 e2 e3 e4 e5 e6 fa0 fa1 fa2 fa3 fa4 fa5 fa6 fb0 fb1 fb2 fb3 fb4 fb5 fb6
    go_wp2
    go_roundw
    case rel => exact ⟨k + 1, by omega, by go_num, HS.out⟩
    case measure => simp [intOf]; omega
  · go_wp2
    have : k = n := by omega
    subst this
    go_end0
    exact ⟨rfl, hW⟩
end Go.Proofs.YtbogcknkkbnfnaaDoor
