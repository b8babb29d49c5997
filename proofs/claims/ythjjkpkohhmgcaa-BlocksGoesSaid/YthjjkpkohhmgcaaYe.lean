/- Blocks: is a number in a list; places, in memory; the order's plain law. -/
import Derived.Test.YthjjkpkohhmgcaaYd
namespace Go.Proofs.Ythjjkpkohhmgcaa
open Go.RowKit Go.Proofs.YthjjkpkohhmgcaaW.PrintWords Go.Proofs.Ythjjkpkohhmgcaa.Dom

set_option maxRecDepth 100000 in
set_option maxHeartbeats 4000000 in
theorem has_any (A : Option Addr) (c n : Nat) (xs : List Int) (z : Int) (w : World) (h : kI.C w A n xs) : Calls Try.prog 21 #[.slice A n c, .int .i64 z] w fun e w' => e = .returned (.bool (xs.contains z)) ∧ Below w.heap.size w w' := by
  have HC := hid h
  have hn : n ≤ 9223372036854775807 := h.2.1
  have HN := hid h.1
  clear h
  go_enter Try.func21, Try.ntmps21
  go_wp2
  go_loopw [5] (fun iV wr => ∃ k : Nat, k ≤ n ∧ iV = .int .i64 k ∧ Hid (Below w.heap.size w wr) ∧ Hid (z ∉ xs.take k)) (fun iV _ => n - (intOf iV).toNat)
  case atStart => exact ⟨0, by omega, rfl, Below.refl _ _, by simp [Hid]⟩
  obtain ⟨k, hk, rfl, HB, HD⟩ := hrel
  by_cases hlt : k < n
  · obtain ⟨b1, o1, hA1⟩ := C_plain HC.out (by omega) (by decide)
    subst hA1
    obtain ⟨u, hu⟩ : ∃ u, xs[k]? = some u := ⟨_, List.getElem?_eq_getElem (by rw [HN.out]; exact hlt)⟩
    have d1 := C_scalar (h1 := fun _ => rfl) (Kd.C_below HC.out HB.out) 0 k (by rw [HN.out]; exact hlt)
    rw [List.getD_eq_getElem?_getD, hu, Option.getD_some] at d1
    have HU := hid hu
    clear hu
    by_cases huv : u = z
    · have b0 : (u == z) = true := by simp [huv]
      have HE := hid (show xs.contains z = true by rw [List.contains_iff_mem, ← huv]; exact List.mem_of_getElem? HU.out)
      clear huv
      go_wp2_with fail
      go_ret
      exact ⟨by rw [HE.out]; rfl, HB.out⟩
    · have b0 : (u == z) = false := by simp [huv]
      have HE := hid huv
      clear huv
      go_wp2_with fail
      go_roundw
      case rel => exact ⟨k + 1, by omega, by go_num, HB, by
        rw [List.take_add_one, HU.out]
        intro hm
        rcases List.mem_append.1 hm with hm | hm
        · exact HD.out hm
        · simp at hm; exact HE.out hm.symm⟩
      case measure => simp [intOf]; omega
  · obtain rfl : k = n := by omega
    have HE := hid (show xs.contains z = false by
      rw [← Bool.not_eq_true, List.contains_iff_mem]
      have := HD.out
      rwa [List.take_of_length_le (by rw [HN.out]; exact Nat.le_refl _)] at this)
    go_wp2_with fail
    go_ret
    exact ⟨by rw [HE.out]; rfl, HB.out⟩
/-- A row of numbers, by their places. -/
def iRow (n : Nat) (f : Nat → Int) : Array Value := ((List.range n).map fun i => Value.int .i64 (f i)).toArray
theorem iRow_get {n i : Nat} (f : Nat → Int) (h : i < n) : (iRow n f)[i]? = some (.int .i64 (f i)) := by simp [iRow, h]
theorem iRow_set {n b : Nat} (f : Nat → Int) (v : Int) : (iRow n f).setIfInBounds b (.int .i64 v) = iRow n (fun x => if x = b then v else f x) := by
  apply Array.toList_inj.1
  unfold iRow
  simp only [List.setIfInBounds_toArray]
  apply List.ext_getElem?
  intro i
  by_cases hi : i < n
  · rw [List.getElem?_set]
    by_cases e : b = i
    · subst e; simp [hi]
    · simp [hi, e, Ne.symm e]
  · rw [List.getElem?_eq_none (by simp; omega), List.getElem?_eq_none (by simp; omega)]
theorem iRow_const (n : Nat) (v : Int) : iRow n (fun _ => v) = Array.replicate n (.int .i64 v) := by
  apply Array.toList_inj.1
  apply List.ext_getElem?
  intro i
  unfold iRow
  by_cases hi : i < n
  · simp [hi]
  · rw [List.getElem?_eq_none (by simp; omega), List.getElem?_eq_none (by simp; omega)]
theorem iRow_congr {n : Nat} {f f' : Nat → Int} (h : ∀ i, i < n → f i = f' i) : iRow n f = iRow n f' := by
  unfold iRow
  congr 1
  exact List.map_congr_left fun i hi => by rw [h i (List.mem_range.1 hi)]
/-- A row in memory that is written, beside all that was there. -/
structure IW (w : World) (n g : Nat) (f : Nat → Int) (wr : World) : Prop where
  below : Below w.heap.size w wr
  row : wr.heap[g]? = some (.cells (iRow n f) 3 (0, 0))
  old : w.heap.size ≤ g
section
variable {w wr w1 : World} {n g : Nat} {f : Nat → Int}
theorem IW.at (h : IW w n g f wr) {b : Nat} (hb : b < n) : wr.cell? ⟨g, b, none⟩ = some (.int .i64 (f b)) := by rw [blk_cell h.row, iRow_get f hb]
theorem IW.put (h : IW w n g f wr) (b : Nat) (v : Int) : IW w n g (fun x => if x = b then v else f x) (wr.setCell ⟨g, b, none⟩ (.int .i64 v)) :=
  ⟨h.below.setCell h.old _, blk_put h.row b _ (iRow_set f v), h.old⟩
theorem IW.step (h : IW w n g f wr) (hb : Below wr.heap.size wr w1) : IW w n g f w1 := ⟨below_weaken h.below h.below.size hb, blk_below h.row hb, h.old⟩
theorem IW.congr (h : IW w n g f wr) {f' : Nat → Int} (hf : ∀ i, i < n → f i = f' i) : IW w n g f' wr := ⟨h.below, by rw [← iRow_congr hf]; exact h.row, h.old⟩
end
/-- The places of the first q in order; -1 elsewhere. -/
def plI (l : List Nat) (q x : Nat) : Int := if x ∈ l.take q then (l.idxOf x : Int) else -1
theorem plI_zero (l : List Nat) (x : Nat) : plI l 0 x = -1 := by simp [plI]
theorem plI_step {l : List Nat} (hn : l.Nodup) {q b : Nat} (h : l[q]? = some b) (x : Nat) : plI l (q + 1) x = if x = b then (q : Int) else plI l q x := by
  obtain ⟨hq, e⟩ := List.getElem?_eq_some_iff.1 h
  have hi : l.idxOf b = q := by rw [← e]; exact hn.idxOf_getElem q hq
  unfold plI
  rw [List.take_add_one, h]
  by_cases hx : x = b
  · subst hx; simp [hi]
  · simp [hx]
theorem plI_new {l : List Nat} (hn : l.Nodup) {q b : Nat} (h : l[q]? = some b) : plI l q b = -1 := by
  unfold plI
  rw [if_neg]
  intro hm
  obtain ⟨i, hi⟩ := List.getElem?_of_mem hm
  rw [List.getElem?_take] at hi
  split at hi
  · rename_i hlt
    obtain ⟨h1, e1⟩ := List.getElem?_eq_some_iff.1 h
    obtain ⟨h2, e2⟩ := List.getElem?_eq_some_iff.1 hi
    have := hn.idxOf_getElem q h1
    rw [e1] at this
    have h3 := hn.idxOf_getElem i h2
    rw [e2] at h3
    omega
  · cases hi
theorem plI_all (l : List Nat) (x : Nat) : plI l l.length x = if x ∈ l then (l.idxOf x : Int) else -1 := by simp [plI]
/-- Which ways lead back, by places. -/
theorem back_place {g : Nat → List Nat} {n : Nat} {s : Look.Lk} (t : Look.Told g n s) {u v : Nat} (hu : u ∈ s.done) (hv : v ∈ g u) : (u, v) ∈ s.back ↔ plc s v ≤ plc s u := by
  rw [t.back u hu v hv]
  have hvd : v ∈ s.done := (t.mem v).2 (.step ((t.mem u).1 hu) hv)
  constructor
  · intro hn
    apply Classical.byContradiction
    intro hlt
    apply hn
    -- u stands ahead of v in order, so v was done before u
    have h1 := get_plc hu
    have h2 := get_plc hvd
    obtain ⟨hi, e1⟩ := List.getElem?_eq_some_iff.1 h1
    obtain ⟨hj, e2⟩ := List.getElem?_eq_some_iff.1 h2
    have hs : s.done.reverse = s.done.reverse.take (plc s u) ++ u :: s.done.reverse.drop (plc s u + 1) := by
      conv => lhs; rw [← List.take_append_drop (plc s u) s.done.reverse]
      rw [List.drop_eq_getElem_cons hi, e1]
    have hd : s.done = (s.done.reverse.drop (plc s u + 1)).reverse ++ u :: (s.done.reverse.take (plc s u)).reverse := by
      have := congrArg List.reverse hs
      rw [List.reverse_reverse, List.reverse_append, List.reverse_cons, List.append_assoc] at this
      exact this
    refine ⟨_, _, hd, ?_⟩
    rw [List.mem_reverse]
    refine List.mem_of_getElem? (i := plc s v - (plc s u + 1)) ?_
    rw [List.getElem?_drop, show plc s u + 1 + (plc s v - (plc s u + 1)) = plc s v by omega]
    exact h2
  · intro hle hB
    have := plc_bef t.once hB
    omega
end Go.Proofs.Ythjjkpkohhmgcaa
